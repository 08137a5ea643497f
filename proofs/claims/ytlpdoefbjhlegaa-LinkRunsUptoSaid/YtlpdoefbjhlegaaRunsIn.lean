/-
  THE WALK of the document's In.
-/
import Derived.Test.YtlpdoefbjhlegaaRunsSend
namespace Go.Proofs.Ytlpdoefbjhlegaa
open Go.RowKit

/-- In the midst of In: the box at g, the answer's place at g + 1, the reader at g + 1 + 1. -/
structure InSt (w0 : World) (g : Nat) (m : RL) (r : RR) (w : World) (ao : Option Addr) (n cap bad : Nat) : Prop where
  kp : Kp Noone w0 w
  hg : w0.heap.size = g
  box : w.heap[g]? = some (.cells (linkC m r) 29 (0, 0))
  ans : w.heap[g + 1]? = some (.cells #[.int .i64 0, .int .i64 0, .int .i64 0, .slice none 0 0, .slice none 0 0, .int .i64 0, .int .i64 0, .slice none 0 0] 29 (0, 0))
  rd : w.heap[g + 1 + 1]? = some (.cells #[.slice ao n cap, .int .i64 (bad : Int)] 76 (0, 0))
theorem InSt.keep {w0 w w1 : World} {g : Nat} {m : RL} {r : RR} {ao : Option Addr} {n cap bad : Nat} (h : InSt w0 g m r w ao n cap bad) (k : Kp Noone w w1) : InSt w0 g m r w1 ao n cap bad :=
  ⟨h.kp.trans k, h.hg, k.heap h.box id, k.heap h.ans id, k.heap h.rd id⟩
theorem InSt.next {w0 w w1 : World} {g : Nat} {m : RL} {r : RR} {ao : Option Addr} {n cap bad : Nat} (h : InSt w0 g m r w ao n cap bad) (k : Kp Noone w w1) (ao' : Option Addr) (n' cap' bad' : Nat) :
    InSt w0 g m r ((w1.setCell ⟨g + 1 + 1, 0, none⟩ (.slice ao' n' cap')).setCell ⟨g + 1 + 1, 1, none⟩ (.int .i64 (bad' : Int))) ao' n' cap' bad' := by
  have hg := h.hg
  exact ⟨kp_new (kp_new (h.kp.trans k) (by omega) _ _) (by omega) _ _, h.hg, set_off (set_off (k.heap h.box id) (by omega) _ _) (by omega) _ _, set_off (set_off (k.heap h.ans id) (by omega) _ _) (by omega) _ _, set_two1 (set_two0 (k.heap h.rd id) _) _⟩

theorem Kp.setK {w0 w1 : World} (k : Kp Noone w0 w1) {g : Nat} (hg : w0.heap.size ≤ g) (u v : Value) : Kp Noone w0 ((w1.setCell ⟨g, 0, Option.none⟩ u).setCell ⟨g, 1, Option.none⟩ v) := kp_new (kp_new k hg _ _) hg _ _
theorem results_row3 {fn : Func} {p u v x : Tmp} (h : fn.results = #[.cell p 29, .tmp u, .tmp v, .tmp x]) (tmps : Array Value) (w : World) (g : Nat) (cs : Array Value)
    (hp : tmps.getD p undef = .pointer (some ⟨g, 0, none⟩)) (hg : w.heap[g]? = some (.cells cs 29 (0, 0))) (h8 : cs.size = 8) :
    (results fn tmps).run Try.prog w = .ok (.tuple #[.agg cs, tmps.getD u undef, tmps.getD v undef, tmps.getD x undef]) w := by
  have hp' : tmps[p]?.getD undef = .pointer (some ⟨g, 0, none⟩) := by simpa using hp
  simp [results, h, hp', asAddr, link_load w g cs hg h8]

theorem rtext_bad_le (left : List UInt8) (bad : Nat) (most : Int) (h : bad ≤ 13) : (rtext left bad most).1.2 ≤ 13 := by
  have h1 := rcount_bad_le left bad most h
  unfold rtext
  split
  · exact h1
  · split <;> simp
theorem rc2_eq (f : List UInt8) : rcount f 0 2 = rc2 f := rfl
theorem rcb_eq (f : List UInt8) : rcount (rc2 f).1.1 (rc2 f).1.2 1099511627776 = rcb f := rfl
theorem rcn_eq (f : List UInt8) : rcount (rcb f).1.1 (rcb f).1.2 1099511627776 = rcn f := rfl
theorem rco_eq (f : List UInt8) : rcount (rcn f).1.1 (rcn f).1.2 1099511627776 = rco f := rfl
theorem rct_eq (f : List UInt8) : rtext (rco f).1.1 (rco f).1.2 65536 = rct f := rfl
theorem parse_one {f : List UInt8} (h : (rc2 f).2 = 1) : parse f = ⟨1, (rcb f).2, (rcn f).2, (rco f).2, (rct f).2, rdone (rct f).1.1 (rct f).1.2⟩ := by unfold parse; rw [if_pos h]
theorem parse_other {f : List UInt8} (h : ¬ (rc2 f).2 = 1) : parse f = ⟨(rc2 f).2, (rcb f).2, (rcn f).2, (rcn f).2, [], rdone (rcn f).1.1 (rcn f).1.2⟩ := by unfold parse; rw [if_neg h]
theorem parse_first (f : List UInt8) : (parse f).kind = (rc2 f).2 ∧ (parse f).boot = (rcb f).2 ∧ (parse f).num = (rcn f).2 := by
  by_cases h : (rc2 f).2 = 1
  · rw [parse_one h]; exact ⟨h.symm, rfl, rfl⟩
  · rw [parse_other h]; exact ⟨rfl, rfl, rfl⟩
theorem lens (f : List UInt8) : (rc2 f).1.1.length ≤ f.length ∧ (rcb f).1.1.length ≤ (rc2 f).1.1.length ∧ (rcn f).1.1.length ≤ (rcb f).1.1.length ∧ (rco f).1.1.length ≤ (rcn f).1.1.length :=
  ⟨rcount_len f 0 2, rcount_len _ _ _, rcount_len _ _ _, rcount_len _ _ _⟩
attribute [local irreducible] parse rc2 rcb rcn rco rct rdone rcount rtext inR lowR

/-- Behind the readings. -/
structure ReadR (w0 : World) (g : Nat) (m : RL) (r : RR) (f : List UInt8) (dv ov : Value) (w : World) : Prop where
  ex : ∃ (ao : Option Addr) (n cap bad : Nat) (left : List UInt8) (xo : Option Addr) (xc : Nat), dv = .slice xo (parse f).data.length xc ∧ ov = .int .i64 ((parse f).base : Int) ∧ InSt w0 g m r w ao n cap bad ∧ BS w ao n cap left ∧ bad ≤ 13 ∧ rdone left bad = (parse f).bad ∧
    DataAt (fun j => g + 3 ≤ j) w (xo, (parse f).data.length, xc) (parse f).data

/-- The end as it lies in the box. -/
structure MSt (Q : Nat → Prop) (w0 : World) (g : Nat) (m : RL) (r : RR) (w : World) : Prop where
  kp : Kp Noone w0 w
  hg : w0.heap.size = g
  box : w.heap[g]? = some (.cells (linkC m r) 29 (0, 0))
  ans : w.heap[g + 1]? = some (.cells #[.int .i64 0, .int .i64 0, .int .i64 0, .slice none 0 0, .slice none 0 0, .int .i64 0, .int .i64 0, .slice none 0 0] 29 (0, 0))
  ref : RefAt Q w m r
  big : g + 3 ≤ w.heap.size
theorem MSt.keep {Q : Nat → Prop} {w0 w w1 : World} {g : Nat} {m : RL} {r : RR} (h : MSt Q w0 g m r w) (k : Kp Noone w w1) : MSt Q w0 g m r w1 :=
  ⟨h.kp.trans k, h.hg, k.heap h.box id, k.heap h.ans id, h.ref.kp k (fun _ _ c => c), Nat.le_trans h.big k.size⟩
theorem MSt.out3 {Q : Nat → Prop} {w0 w w1 : World} {g : Nat} {m : RL} {r : RR} (h : MSt Q w0 g m r w) {S : Nat → Prop} (k : Kp S w w1) (hS : ∀ j, S j → g + 1 + 1 ≤ j) (hQ : ∀ j, Q j → ¬ S j) : MSt Q w0 g m r w1 := by
  have hg := h.hg
  exact ⟨h.kp.fin k (fun j c => Or.inr (by have := hS j c; omega)), h.hg, k.heap h.box (fun c => by have := hS _ c; omega), k.heap h.ans (fun c => by have := hS _ c; omega), h.ref.kp k hQ, Nat.le_trans h.big k.size⟩
theorem MSt.fin {P Q : Nat → Prop} {w0 w : World} {g : Nat} {m : RL} {r : RR} (h : MSt Q w0 g m r w) (hQ : ∀ j, Q j → (P j ∧ j < g) ∨ g + 3 ≤ j) :
    RefTo P w0 m r ((((((((w.setCell ⟨g + 1, 0, none⟩ (.int .i64 m.boot)).setCell ⟨g + 1, 1, none⟩ (.int .i64 m.retry)).setCell ⟨g + 1, 2, none⟩ (.int .i64 m.next)).setCell ⟨g + 1, 3, none⟩ (.slice r.oo m.out.length r.oc)).setCell ⟨g + 1, 4, none⟩ (.slice r.ko (m.acks.length * 2) r.kc)).setCell ⟨g + 1, 5, none⟩ (.int .i64 m.peer)).setCell ⟨g + 1, 6, none⟩ (.int .i64 m.below)).setCell ⟨g + 1, 7, none⟩ (.slice r.co m.came.length r.cc)) ∧
    ((((((((w.setCell ⟨g + 1, 0, none⟩ (.int .i64 m.boot)).setCell ⟨g + 1, 1, none⟩ (.int .i64 m.retry)).setCell ⟨g + 1, 2, none⟩ (.int .i64 m.next)).setCell ⟨g + 1, 3, none⟩ (.slice r.oo m.out.length r.oc)).setCell ⟨g + 1, 4, none⟩ (.slice r.ko (m.acks.length * 2) r.kc)).setCell ⟨g + 1, 5, none⟩ (.int .i64 m.peer)).setCell ⟨g + 1, 6, none⟩ (.int .i64 m.below)).setCell ⟨g + 1, 7, none⟩ (.slice r.co m.came.length r.cc)).heap[g + 1]? = some (.cells (linkC m r) 29 (0, 0)) := by
  have hg := h.hg
  have k : Kp (fun j => j = g + 1) w _ := set8_kpS (Kp.refl (fun j => j = g + 1) w) (g := g + 1) rfl (.int .i64 m.boot) (.int .i64 m.retry) (.int .i64 m.next) (.slice r.oo m.out.length r.oc) (.slice r.ko (m.acks.length * 2) r.kc) (.int .i64 m.peer) (.int .i64 m.below) (.slice r.co m.came.length r.cc)
  refine ⟨⟨h.kp.fin k (fun j c => Or.inr (by omega)), (h.ref.kp k (fun j c d => by have := hQ j c; omega)).mono (fun j hj c => ?_)⟩, set8_heap h.ans _ _ _ _ _ _ _ _⟩
  rcases hQ j c with c | c
  · exact Or.inl c.1
  · exact Or.inr ⟨by omega, hj⟩

/-- The box takes another slice of messages. -/
theorem MSt.setOut {Q : Nat → Prop} {w0 w : World} {g : Nat} {m : RL} {r : RR} (h : MSt Q w0 g m r w) (m1 : RL) (r1 : RR) (e : (linkC m r).setIfInBounds 3 (.slice r1.oo m1.out.length r1.oc) = linkC m1 r1) {Q1 : Nat → Prop} (hr : RefAt Q1 w m1 r1) (hQ1 : ∀ j, Q1 j → j ≠ g) : MSt Q1 w0 g m1 r1 (w.setCell ⟨g, 3, none⟩ (.slice r1.oo m1.out.length r1.oc)) := by
  have hg := h.hg
  refine ⟨kp_new h.kp (by omega) _ _, hg, ?_, set_off h.ans (by omega) _ _, hr.kp (S := fun j => j = g) (Kp.setCell (S := fun j => j = g) (p := ⟨g, 3, none⟩) (Kp.refl _ _) (fun _ => rfl) _) hQ1, by have := h.big; simpa using this⟩
  rw [heap_set_cell h.box, e]
theorem RefTo.keep {P : Nat → Prop} {w0 w1 w2 : World} {m : RL} {r : RR} (h : RefTo P w0 m r w1) (k : Kp Noone w1 w2) : RefTo P w0 m r w2 :=
  ⟨h.1.trans k, (h.2.kp k (fun _ _ c => c)).mono (fun _j hj c => c.elim Or.inl (fun c => Or.inr ⟨c.1, hj⟩))⟩

theorem Row.four {w : World} {ao : Option Addr} {out : List OutH} {hs : Hs} (h : Row w ao (outC out hs)) (hl : hs.length = out.length) (j : Nat) (h1 : j < out.length) (h2 : j < hs.length) : ∃ b off, ao = some ⟨b, off, none⟩ ∧ w.cell? ⟨b, off + j * 4, none⟩ = some (.int .i64 out[j].num) ∧
    w.cell? ⟨b, off + j * 4 + 1, none⟩ = some (.slice hs[j].1 hs[j].2.1 hs[j].2.2) ∧ w.cell? ⟨b, off + j * 4 + 2, none⟩ = some (.bool out[j].sent) ∧ w.cell? ⟨b, off + j * 4 + 3, none⟩ = some (.int .i64 out[j].time) := by
  obtain ⟨n1, n2, n3, n4⟩ := outC_get out hs j h1 h2
  have hlen := outC_length out hs hl
  rcases h with h | ⟨b, off, rfl, hr⟩
  · rw [h] at hlen; simp at hlen; omega
  · have key : ∀ (i : Nat) (v : Value), (outC out hs)[i]? = some v → w.cell? ⟨b, off + i, none⟩ = some v := fun i v hv => by
      obtain ⟨hi, he⟩ := List.getElem?_eq_some_iff.1 hv
      rw [hr i hi, he]
    exact ⟨b, off, rfl, key _ _ n1, by rw [Nat.add_assoc]; exact key _ _ n2, by rw [Nat.add_assoc]; exact key _ _ n3, by rw [Nat.add_assoc]; exact key _ _ n4⟩
theorem goneR_snoc (m : RL) (mb mn : Int) (j : Nat) (h : j < m.out.length) : (goneR { m with out := m.out.take (j + 1) } mb mn).out = (goneR { m with out := m.out.take j } mb mn).out ++ if mb = m.boot ∧ m.out[j].num = mn then [] else [m.out[j]] := by
  unfold goneR
  simp only [List.take_succ_eq_append_getElem h, List.filter_append]
  by_cases c : mb = m.boot ∧ m.out[j].num = mn
  · rw [if_pos c]; simp [c.1, c.2]
  · rw [if_neg c]
    by_cases d : mb = m.boot
    · have : m.out[j].num ≠ mn := fun e => c ⟨d, e⟩
      simp [d, this]
    · simp [d]
theorem goneR_len (m : RL) (mb mn : Int) (j : Nat) : (goneR { m with out := m.out.take j } mb mn).out.length ≤ j := by
  unfold goneR
  refine Nat.le_trans (List.length_filter_le _ _) ?_
  rw [List.length_take]; omega
theorem goneR_all (m : RL) (mb mn : Int) : (goneR { m with out := m.out.take m.out.length } mb mn).out = (goneR m mb mn).out := by
  unfold goneR; simp
theorem MSt.boxed {Q Q1 : Nat → Prop} {w0 w w1 : World} {g : Nat} {m m1 : RL} {r r1 : RR} (h : MSt Q w0 g m r w) (k : Kp (fun j => j = g) w w1) (hb : w1.heap[g]? = some (.cells (linkC m1 r1) 29 (0, 0))) (hr : RefAt Q1 w m1 r1) (hQ1 : ∀ j, Q1 j → j ≠ g) : MSt Q1 w0 g m1 r1 w1 := by
  have hg := h.hg
  exact ⟨h.kp.fin k (fun j c => Or.inr (by omega)), hg, hb, k.heap h.ans (by omega), hr.kp k hQ1, Nat.le_trans h.big k.size⟩
theorem MSt.mono {Q Q1 : Nat → Prop} {w0 w : World} {g : Nat} {m : RL} {r : RR} (h : MSt Q w0 g m r w) (hq : ∀ j, j < w.heap.size → Q j → Q1 j) : MSt Q1 w0 g m r w := ⟨h.kp, h.hg, h.box, h.ans, h.ref.mono hq, h.big⟩
theorem info_int : (Try.prog.info? 3).map (fun i => (i.zero, i.size, i.bytes)) = some (some (.int .i64 0), 1, 8) := by kernel_rfl
theorem ackC_len2 : ∀ l : List (Int × Int), (ackC l).length = l.length * 2
  | [] => rfl
  | a :: r => by simp [ackC, ackC_len2 r]; omega
theorem ackC_one2 : ∀ (l : List (Int × Int)), ∀ u ∈ ackC l, u.oneCell' = true
  | [], u, h => by simp [ackC] at h
  | a :: r, u, h => by
    simp [ackC] at h
    rcases h with rfl | rfl | h
    · rfl
    · rfl
    · exact ackC_one2 r u h
theorem ints_one (l : List Int) : ∀ u ∈ l.map (Value.int .i64), u.oneCell' = true := by
  intro u hu
  obtain ⟨k, -, rfl⟩ := List.mem_map.1 hu
  rfl
theorem lowR_bounds {m : RL} (h : RefOk m) : 0 ≤ lowR m ∧ lowR m ≤ 1099511627776 := by
  have h1 := sweepF_bounds (hasR m) 1099511627776 (fun k hk => h.came k (List.contains_iff_mem.1 hk)) 2199023255552 m.below
  have h2 : lowR m = sweepF (hasR m) 2199023255552 m.below := by unfold lowR; rfl
  rw [h2]
  have := h.below
  omega
theorem RefOk.life {m : RL} (h : RefOk m) {mb : Int} (hm : 1 ≤ mb ∧ mb ≤ 1099511627776) : RefOk (lifeR m mb) := by
  unfold lifeR
  split
  · exact ⟨h.boot, h.retry, h.next, h.outN, h.outL, by simp, by simp, by simp only []; omega, by simp, by simp, by simp⟩
  · exact h
theorem RefOk.base {m : RL} (h : RefOk m) {base : Int} (hm : 1 ≤ base ∧ base ≤ 1099511627776) : RefOk (baseR m base) := by
  unfold baseR
  split
  · exact ⟨h.boot, h.retry, h.next, h.outN, h.outL, h.acksN, h.acksL, h.peer, by simp only []; omega, h.came, h.cameL⟩
  · exact h
/-- An end in the box, wherever it lies. -/
def IM (P : Nat → Prop) (w0 : World) (g : Nat) (M : RL) (xo : Option Addr) (xc : Nat) (d : List UInt8) (w : World) : Prop :=
  ∃ r, MSt (fun j => (P j ∧ j < g) ∨ g + 3 ≤ j) w0 g M r w ∧ DataAt (fun j => g + 3 ≤ j) w (xo, d.length, xc) d
/-- The messages that stay, while the box is read. -/
structure GoneR (P : Nat → Prop) (w0 : World) (g : Nat) (m : RL) (r : RR) (mb mn : Int) (ov jv : Value) (w : World) : Prop where
  ex : ∃ (j : Nat) (ao : Option Addr) (n cap : Nat) (hs : Hs), jv = .int .i64 (j : Int) ∧ j ≤ m.out.length ∧ ov = .slice ao n cap ∧ MSt (fun j => P j ∧ j < g) w0 g m r w ∧ n = (goneR { m with out := m.out.take j } mb mn).out.length ∧ hs.length = n ∧
    Own (fun k => g + 3 ≤ k) w 62 4 ao n cap (outC (goneR { m with out := m.out.take j } mb mn).out hs) ∧
    ∀ i (h1 : i < hs.length) (h2 : i < (goneR { m with out := m.out.take j } mb mn).out.length), DataAt (fun j => P j ∧ j < g) w hs[i] (goneR { m with out := m.out.take j } mb mn).out[i].data

/-- A text that a call has made. -/
def NewAt (w w' : World) (s : Option Addr × Nat × Nat) (x : List UInt8) : Prop := DataAt (fun j => w.heap.size ≤ j) w' s x
theorem NewAt.nil (w w' : World) (xo : Option Addr) : NewAt w w' (xo, 0, 0) [] := ⟨⟨rfl, Nat.le_refl _, by simp [maxLen], Row.nil _ _⟩, fun h => absurd rfl h⟩


set_option maxHeartbeats 2000000 in
set_option maxRecDepth 100000 in
theorem inR_any (P : Nat → Prop) (m : RL) (r : RR) (fo : Option Addr) (n cap : Nat) (f : List UInt8) (w : World) (h : RefAt P w m r) (hok : RefOk m) (hb : BS w fo n cap f) (hn : n ≤ 140737488355328)
    (m' : RL) (x : List UInt8) (ok : Bool) (er : Nat) (hR : inR m (parse f) = (m', x, ok, er)) :
    Calls Try.prog 17 #[linkV m r, .slice fo n cap] w fun e w' => ∃ r' xo xc, e = .returned (.tuple #[linkV m' r', .slice xo x.length xc, .bool ok, .int .i64 (er : Int)]) ∧ RefTo P w m' r' w' ∧ NewAt w w' (xo, x.length, xc) x := by
  obtain ⟨i0, hi, hz0, hz1, hz2⟩ := info_parts info_heldR
  obtain ⟨j0, hj, hj0, hj1, hj2⟩ := info_parts info_int
  have H := Lib.hid h
  have HO := Lib.hid hok
  have HR := Lib.hid hR
  have hlen := hb.len
  have HI : InSt w w.heap.size m r (((w.alloc (.cells (linkC m r) 29)).alloc (.cells #[.int .i64 0, .int .i64 0, .int .i64 0, .slice none 0 0, .slice none 0 0, .int .i64 0, .int .i64 0, .slice none 0 0] 29)).alloc (.cells #[.slice fo n cap, .int .i64 0] 76)) fo n cap 0 := by
    obtain ⟨k2, hB, hRr⟩ := two_new w m r #[.int .i64 0, .int .i64 0, .int .i64 0, .slice none 0 0, .slice none 0 0, .int .i64 0, .int .i64 0, .slice none 0 0] 29
    have kA := (Kp.refl Noone ((w.alloc (.cells (linkC m r) 29)).alloc (.cells #[.int .i64 0, .int .i64 0, .int .i64 0, .slice none 0 0, .slice none 0 0, .int .i64 0, .int .i64 0, .slice none 0 0] 29))).alloc (.cells #[.slice fo n cap, .int .i64 0] 76)
    refine ⟨k2.trans kA, rfl, kA.heap hB id, kA.heap hRr id, ?_⟩
    have := heap_alloc_new ((w.alloc (.cells (linkC m r) 29)).alloc (.cells #[.int .i64 0, .int .i64 0, .int .i64 0, .slice none 0 0, .slice none 0 0, .int .i64 0, .int .i64 0, .slice none 0 0] 29)) (.cells #[.slice fo n cap, .int .i64 0] 76)
    simpa using this
  have hb1 := hb.keep HI.kp
  have HB0 := Lib.hid hb
  clear h hok hR hb
  unfold linkV
  unfold linkC at HI hb1
  go_enter Try.func17, Try.ntmps17
  go_upto_region 2 with fail
  generalize hgw : w.heap.size = g at *
  generalize ((w.alloc _).alloc _).alloc _ = wA at *
  have hbad0 : (0 : Nat) ≤ 13 := by omega
  obtain ⟨q0, q1, qf⟩ := cells_two HI.rd
  go_wp2_with fail
  refine (refReadCount_any fo n cap f 0 2 _ hb1 hbad0 (by omega) (by omega)).mono ?_
  rw [rc2_eq]
  rintro e w1 ⟨a1, n1, p1, rfl, hs1, k1⟩
  have HI1 := HI.next k1 a1 n1 p1 (rc2 f).1.2
  have bd1 := rcount_bad_le f 0 2 hbad0
  rw [rc2_eq] at bd1
  have cn1 := rcount_most f 0 2
  rw [rc2_eq] at cn1
  have T1 := hs1
  have hb2 := T1 _ (HB0.out.keep HI1.kp)
  obtain ⟨q0, q1, qf⟩ := cells_two (k1.heap HI.rd id)
  simp only [rdV]
  go_upto_region 3 with fail
  generalize (w1.setCell _ _).setCell _ _ = wB1 at *
  clear q0 q1 qf hs1 k1 HI hb1
  obtain ⟨q0, q1, qf⟩ := cells_two HI1.rd
  go_wp2_with fail
  refine (refReadCount_any a1 n1 p1 (rc2 f).1.1 (rc2 f).1.2 1099511627776 _ hb2 bd1 (by omega) (by omega)).mono ?_
  rw [rcb_eq]
  rintro e w2 ⟨a2, n2, p2, rfl, hs2, k2⟩
  have HI2 := HI1.next k2 a2 n2 p2 (rcb f).1.2
  have bd2 := rcount_bad_le (rc2 f).1.1 (rc2 f).1.2 1099511627776 bd1
  rw [rcb_eq] at bd2
  have cn2 := rcount_most (rc2 f).1.1 (rc2 f).1.2 1099511627776
  rw [rcb_eq] at cn2
  have T2 := fun W h => hs2 W (T1 W h)
  have hb3 := T2 _ (HB0.out.keep HI2.kp)
  obtain ⟨q0, q1, qf⟩ := cells_two (k2.heap HI1.rd id)
  simp only [rdV]
  go_upto_region 4 with fail
  generalize (w2.setCell _ _).setCell _ _ = wB2 at *
  clear q0 q1 qf hs2 k2 HI1 hb2
  obtain ⟨q0, q1, qf⟩ := cells_two HI2.rd
  go_wp2_with fail
  refine (refReadCount_any a2 n2 p2 (rcb f).1.1 (rcb f).1.2 1099511627776 _ hb3 bd2 (by omega) (by omega)).mono ?_
  rw [rcn_eq]
  rintro e w3 ⟨a3, n3, p3, rfl, hs3, k3⟩
  have HI3 := HI2.next k3 a3 n3 p3 (rcn f).1.2
  have bd3 := rcount_bad_le (rcb f).1.1 (rcb f).1.2 1099511627776 bd2
  rw [rcn_eq] at bd3
  have cn3 := rcount_most (rcb f).1.1 (rcb f).1.2 1099511627776
  rw [rcn_eq] at cn3
  have T3 := fun W h => hs3 W (T2 W h)
  have hb4 := T3 _ (HB0.out.keep HI3.kp)
  obtain ⟨q0, q1, qf⟩ := cells_two (k3.heap HI2.rd id)
  simp only [rdV]
  go_upto_region 5 with fail
  generalize (w3.setCell _ _).setCell _ _ = wB3 at *
  clear q0 q1 qf hs3 k3 HI2 hb3
  have hpk := parse_first f
  obtain ⟨hl1, hl2, hl3, hl4⟩ := lens f
  have hg3 : g + 3 ≤ wB3.heap.size := by
    have := (Array.getElem?_eq_some_iff.1 HI3.rd).1
    omega
  go_upto_if 38 with fail
  have kal : Kp Noone wB3 (wB3.alloc (.cells #[] 5)) := (Kp.refl _ _).alloc _
  replace HI3 := HI3.keep kal
  replace hb4 := hb4.keep kal
  have sal := kal.size
  generalize hwD : wB3.alloc (.cells #[] 5) = wD at *
  generalize wB3.heap.size = gD at *
  go_cut [12, 13] from 18 (fun dv ov wx => ReadR w g m r f dv ov wx)
  case first =>
    by_cases hk : (rc2 f).2 = 1
    · have hp : Hid (parse f = ⟨1, (rcb f).2, (rcn f).2, (rco f).2, (rct f).2, rdone (rct f).1.1 (rct f).1.2⟩) := Lib.hid (parse_one hk)
      have e0 : (((rc2 f).2 : Int) == 1) = true := by rw [hk]; rfl
      clear hk hpk
      obtain ⟨q0, q1, qf⟩ := cells_two HI3.rd
      go_wp2_with fail
      refine (refReadCount_any a3 n3 p3 (rcn f).1.1 (rcn f).1.2 1099511627776 _ hb4 bd3 (by omega) (by omega)).mono ?_
      rw [rco_eq]
      rintro e w4 ⟨a4, n4, p4, rfl, hs4, k4⟩
      have HI4 := HI3.next k4 a4 n4 p4 (rco f).1.2
      have bd4 := rcount_bad_le (rcn f).1.1 (rcn f).1.2 1099511627776 bd3
      rw [rco_eq] at bd4
      have T4 := fun W h => hs4 W (T3 W h)
      have hb5 := T4 _ (HB0.out.keep HI4.kp)
      obtain ⟨q0, q1, qf⟩ := cells_two (k4.heap HI3.rd id)
      simp only [rdV]
      go_upto_region 9 with fail
      generalize (w4.setCell _ _).setCell _ _ = wB4 at *
      clear q0 q1 qf hs4 k4 HI3 hb4
      obtain ⟨q0, q1, qf⟩ := cells_two HI4.rd
      have hg4 : g + 3 ≤ wB4.heap.size := by
        have := (Array.getElem?_eq_some_iff.1 HI4.rd).1
        omega
      go_wp2_with fail
      refine (refReadText_any a4 n4 p4 (rco f).1.1 (rco f).1.2 65536 _ hb5 bd4 (by omega) (by omega) (by omega)).mono ?_
      rw [rct_eq]
      rintro e w5 ⟨a5, n5, p5, xo, xc, rfl, hs5, hx5, k5, ho5⟩
      have HI5 := HI4.next k5 a5 n5 p5 (rct f).1.2
      have T5 := fun W h => hs5 W (T4 W h)
      have hb6 := T5 _ (HB0.out.keep HI5.kp)
      have hd5 : DataAt (fun j => g + 3 ≤ j) w5 (xo, (rct f).2.length, xc) (rct f).2 := ⟨hx5, fun _ a ha => by have := ho5 a ha; omega⟩
      have hd6 := hd5.kp (((Kp.refl (fun j => j = g + 1 + 1) w5).setCell (p := ⟨g + 1 + 1, 0, none⟩) (fun _ => rfl) (.slice a5 n5 p5)).setCell (p := ⟨g + 1 + 1, 1, none⟩) (fun _ => rfl) (.int .i64 ((rct f).1.2 : Int))) (fun j h c => by omega)
      have bd5 := rtext_bad_le (rco f).1.1 (rco f).1.2 65536 bd4
      rw [rct_eq] at bd5
      obtain ⟨q0, q1, qf⟩ := cells_two (k5.heap HI4.rd id)
      have hRR : Hid (ReadR w g m r f (.slice xo (rct f).2.length xc) (.int .i64 ((rco f).2 : Int)) ((w5.setCell ⟨g + 1 + 1, 0, none⟩ (.slice a5 n5 p5)).setCell ⟨g + 1 + 1, 1, none⟩ (.int .i64 ((rct f).1.2 : Int)))) := Lib.hid (by
        refine ReadR.mk ⟨a5, n5, p5, (rct f).1.2, _, xo, xc, ?_, ?_, HI5, hb6, bd5, ?_, ?_⟩
        · rw [hp.out]
        · rw [hp.out]
        · rw [hp.out]
        · rw [hp.out]; exact hd6)
      clear HI5 hd5 hd6 hb6 hs5 T5 T4 hp
      simp only [rdV]
      go_wp2_with fail
      go_meet
      case rel => exact hRR.out
    · have hp : Hid (parse f = ⟨(rc2 f).2, (rcb f).2, (rcn f).2, (rcn f).2, [], rdone (rcn f).1.1 (rcn f).1.2⟩) := Lib.hid (parse_other hk)
      have e0 : (((rc2 f).2 : Int) == 1) = false := by
        have h : ((rc2 f).2 : Int) ≠ 1 := by omega
        simpa using h
      clear hk hpk
      have hRR : Hid (ReadR w g m r f (.slice (some ⟨gD, 0, none⟩) 0 0) (.int .i64 ((rcn f).2 : Int)) wD) := Lib.hid (by
        refine ReadR.mk ⟨a3, n3, p3, (rcn f).1.2, _, some ⟨gD, 0, none⟩, 0, ?_, ?_, HI3, hb4, bd3, ?_, ?_⟩
        · rw [hp.out]; rfl
        · rw [hp.out]
        · rw [hp.out]
        · rw [hp.out]; exact ⟨⟨rfl, Nat.le_refl _, by simp [maxLen], Row.nil _ _⟩, fun h => absurd rfl h⟩)
      clear HI3 hb4 hp
      go_wp2_with fail
      go_meet
      case rel => exact hRR.out
  case rest =>
    obtain ⟨ao, nn, pp, bad, left, xo, xc, rfl, rfl, HI, hbl, hbd, hdone, hdat⟩ := hcut.ex
    clear HI3 hb4 T1 T2 T3 hl1 hl2 hl3 hl4 bd1 bd2 bd3 hwD
    obtain ⟨hk1, hk2, hk3⟩ := hpk
    obtain ⟨⟨fk, fb, fn, fbs⟩, fd⟩ := parse_ok f
    rw [← hk1] at cn1 ⊢
    rw [← hk2] at cn2 ⊢
    rw [← hk3] at cn3 ⊢
    clear hk1 hk2 hk3 cn1 cn2 cn3
    have hg0 := HI.hg
    have HM : MSt (fun j => P j ∧ j < g) w g m r wc := ⟨HI.kp, HI.hg, HI.box, HI.ans, (H.out.mono (Q := fun j => P j ∧ j < g) (fun j hj c => ⟨c, by omega⟩)).kp HI.kp (fun _ _ c => c), by have := (Array.getElem?_eq_some_iff.1 HI.rd).1; omega⟩
    have hQ0 : ∀ j, (P j ∧ j < g) → (P j ∧ j < g) ∨ g + 3 ≤ j := fun j c => Or.inl c
    obtain ⟨q0, q1, qf⟩ := cells_two HI.rd
    generalize parse f = F at *
    go_wp2_with fail
    refine (refDone_any ao nn pp left bad _ hbl).mono ?_
    rw [hdone]
    rintro e w6 ⟨rfl, k6⟩
    have k67 : Kp (fun j => j = g + 1 + 1) w6 ((w6.setCell ⟨g + 1 + 1, 0, none⟩ (.slice ao nn pp)).setCell ⟨g + 1 + 1, 1, none⟩ (.int .i64 (F.bad : Int))) := ((Kp.refl (fun j => j = g + 1 + 1) w6).setCell (p := ⟨g + 1 + 1, 0, none⟩) (fun _ => rfl) _).setCell (p := ⟨g + 1 + 1, 1, none⟩) (fun _ => rfl) _
    have HM7 := (HM.keep k6).out3 k67 (fun j c => by omega) (fun j c d => by omega)
    have HI7 := HI.next k6 ao nn pp F.bad
    have hd7 := (hdat.kp k6 (fun _ _ c => c)).kp k67 (fun j c d => by omega)
    obtain ⟨q0, q1, qf⟩ := cells_two (k6.heap HI.rd id)
    simp only [rdV]
    go_upto_region 11 with fail
    generalize (w6.setCell _ _).setCell _ _ = w7 at *
    clear q0 q1 qf k67 k6 HM HI hbl hdat kal
    obtain ⟨q0, q1, qf⟩ := cells_two HI7.rd
    obtain ⟨⟨b0, b1, b2, b3⟩, ⟨b4, b5, b6, b7⟩, bf⟩ := cells_eight HM7.box
    obtain ⟨⟨p0, p1, p2, p3⟩, ⟨p4, p5, p6, p7⟩, pf⟩ := cells_eight HM7.ans
    by_cases hb0 : F.bad ≠ 0
    · have HE : Hid (m = m' ∧ [] = x ∧ false = ok ∧ F.bad = er) := Lib.hid (by
        have e := HR.out
        unfold inR at e
        rw [if_pos hb0] at e
        simpa using e)
      have e0 : ((F.bad : Int) != 0) = true := by
        have h : (F.bad : Int) ≠ 0 := by omega
        simpa using h
      clear hb0
      go_upto_region 12 with fail
      go_region
      go_wp2_with fail
      obtain ⟨rfl, rfl, rfl, rfl⟩ := HE.out
      refine bodyPost_ret (v := .tuple #[linkV m r, .slice none 0 0, .bool false, .int .i64 (F.bad : Int)]) ?_ rfl ⟨r, none, 0, rfl, (HM7.fin hQ0).1.keep ((Kp.refl Noone _).drew), NewAt.nil _ _ _⟩
      exact results_row3 (fn := Try.f17) (p := 4) (u := 5) (v := 6) (x := 7) rfl _ _ (g + 1) _ rfl (((Kp.refl Noone _).drew).heap (HM7.fin hQ0).2 id) rfl
    · have e0 : ((F.bad : Int) != 0) = false := by
        have h : (F.bad : Int) = 0 := by omega
        rw [h]; rfl
      have hxd := hd7
      by_cases hz : F.kind = 0 ∨ F.boot = 0 ∨ F.num = 0 ∨ F.base = 0 ∨ F.num < F.base
      · have HE : Hid (m = m' ∧ [] = x ∧ false = ok ∧ 26 = er) := Lib.hid (by
          have e := HR.out
          unfold inR at e
          rw [if_neg hb0, if_pos hz] at e
          simpa using e)
        have HW : (((F.kind : Int) == 0) = true ∨ (((F.kind : Int) == 0) = false ∧ ((F.boot : Int) == 0) = true)) ∨ ((((F.kind : Int) == 0) = false ∧ ((F.boot : Int) == 0) = false ∧ ((F.num : Int) == 0) = true) ∨ (((F.kind : Int) == 0) = false ∧ ((F.boot : Int) == 0) = false ∧ ((F.num : Int) == 0) = false ∧ ((F.base : Int) == 0) = true)) ∨
            (((F.kind : Int) == 0) = false ∧ ((F.boot : Int) == 0) = false ∧ ((F.num : Int) == 0) = false ∧ ((F.base : Int) == 0) = false ∧ (F.num : Int) < F.base) := by
          have bz : ∀ y : Nat, y = 0 → (((y : Int) == 0) = true) := fun y h => by rw [h]; rfl
          have bn : ∀ y : Nat, y ≠ 0 → (((y : Int) == 0) = false) := fun y h => by
            have h : (y : Int) ≠ 0 := by omega
            simpa using h
          by_cases c1 : F.kind = 0
          · exact Or.inl (Or.inl (bz _ c1))
          · by_cases c2 : F.boot = 0
            · exact Or.inl (Or.inr ⟨bn _ c1, bz _ c2⟩)
            · by_cases c3 : F.num = 0
              · exact Or.inr (Or.inl (Or.inl ⟨bn _ c1, bn _ c2, bz _ c3⟩))
              · by_cases c4 : F.base = 0
                · exact Or.inr (Or.inl (Or.inr ⟨bn _ c1, bn _ c2, bn _ c3, bz _ c4⟩))
                · exact Or.inr (Or.inr ⟨bn _ c1, bn _ c2, bn _ c3, bn _ c4, by omega⟩)
        clear hz hb0 HI7
        rcases HW with (h1 | ⟨h1, h2⟩) | (⟨h1, h2, h3⟩ | ⟨h1, h2, h3, h4⟩) | ⟨h1, h2, h3, h4, h5⟩
        all_goals (
          go_wp2_with fail
          obtain ⟨rfl, rfl, rfl, rfl⟩ := HE.out
          refine bodyPost_ret (v := .tuple #[linkV m r, .slice none 0 0, .bool false, .int .i64 26]) ?_ rfl ⟨r, none, 0, by simp [linkV], (HM7.fin hQ0).1, NewAt.nil _ _ _⟩
          exact results_row3 (fn := Try.f17) (p := 4) (u := 5) (v := 6) (x := 7) rfl _ _ (g + 1) _ rfl (HM7.fin hQ0).2 rfl)
      · have bn : ∀ y : Nat, y ≠ 0 → (((y : Int) == 0) = false) := fun y h => by
          have h : (y : Int) ≠ 0 := by omega
          simpa using h
        have h1 := bn F.kind (by omega)
        have h2 := bn F.boot (by omega)
        have h3 := bn F.num (by omega)
        have h4 := bn F.base (by omega)
        have h5 : ¬ (F.num : Int) < F.base := by omega
        have hpos : 1 ≤ F.boot ∧ 1 ≤ F.num ∧ 1 ≤ F.base ∧ F.base ≤ F.num := by omega
        have HR2 : Hid ((if F.kind = 2 then (goneR m F.boot F.num, [], false, 0)
            else if (freshR m F.boot F.num F.base).2 then ((freshR m F.boot F.num F.base).1, F.data, true, 0) else ((freshR m F.boot F.num F.base).1, [], false, 0)) = (m', x, ok, er)) := Lib.hid (by
          have e := HR.out
          unfold inR at e
          rw [if_neg hb0, if_neg hz] at e
          exact e)
        clear hz hb0 HI7 bn HR
        go_upto_if 78 with fail
        by_cases hk2 : F.kind = 2
        · have e2 : ((F.kind : Int) == 2) = true := by rw [hk2]; rfl
          have HE : Hid (goneR m F.boot F.num = m' ∧ [] = x ∧ false = ok ∧ 0 = er) := Lib.hid (by
            have e := HR2.out
            rw [if_pos hk2] at e
            simpa using e)
          clear hk2
          have kal : Kp Noone w7 (w7.alloc (.cells #[] 62)) := (Kp.refl _ _).alloc _
          have b3' := kal.cell b3 id
          have HMa := HM7.keep kal
          have hol := HO.out.outL
          clear b0 b1 b2 b3 b4 b5 b6 b7 bf p0 p1 p2 p3 p4 p5 p6 p7 pf
          go_wp2_with fail
          generalize w7.alloc (.cells #[] 62) = w8 at *
          generalize w7.heap.size = g8 at *
          go_loopw [14, 83] (fun ov jv wr => GoneR P w g m r F.boot F.num ov jv wr) (fun _ v _ => m.out.length - (intOf v).toNat)
          case atStart => exact GoneR.mk ⟨0, _, 0, 0, [], by rfl, by omega, rfl, HMa, rfl, rfl, Own.nil _ _ _ _ _, fun i h => by simp at h⟩
          case round =>
            obtain ⟨j, ao2, n2, c2, hs2, rfl, hj, rfl, hms, hn2, hhs2, hown, hdat2⟩ := hrel.ex
            clear HM7 HMa b3'
            have HN2 := Lib.hid hn2
            clear hn2
            by_cases hlt : j < m.out.length
            · have hrl := hms.ref.hlen
              obtain ⟨rb, ro, hro, r0, r1, r2, r3⟩ := Row.four hms.ref.outs.row hrl j hlt (by omega)
              obtain ⟨⟨b0, -, -, b3⟩, -, -⟩ := cells_eight hms.box
              have hdj := hms.ref.data j (by omega) hlt
              have hsn := goneR_snoc m F.boot F.num j hlt
              have hwj : IntKind.i64.wrap ((j : Int) + 1) = (j : Int) + 1 := IntWalk.i64_in _ (by omega)
              have hfl : n2 ≤ 64 := by have := goneR_len m F.boot F.num j; have := HN2.out; omega
              rw [hro] at b3
              clear hro
              generalize hhs : r.hs[j]'(by omega) = hx at *
              obtain ⟨ho, hm2, hc⟩ := hx
              simp only [] at r1
              have HMS := Lib.hid hms
              have HHS := Lib.hid hhs
              clear hms hhs
              by_cases hdrop : (F.boot : Int) = m.boot ∧ m.out[j].num = F.num
              · rw [if_pos hdrop, List.append_nil] at hsn
                have e3 : ((F.boot : Int) != m.boot) = false := by rw [hdrop.1]; simp
                have e4 : (m.out[j].num != (F.num : Int)) = false := by rw [hdrop.2]; simp
                have R := Lib.hid (GoneR.mk (P := P) (w0 := w) (jv := .int .i64 ((j + 1 : Nat) : Int)) ⟨j + 1, ao2, n2, c2, hs2, rfl, by omega, rfl, HMS.out, by rw [hsn]; exact HN2.out, hhs2, by rw [hsn]; exact hown, by rw [hsn]; exact hdat2⟩)
                generalize m.out[j].num = y at *
                clear hdrop hsn hown hdat2
                go_wp2_with fail
                go_roundw
                case rel => exact R.out
                case measure => simp [intOf]; omega
              · rw [if_neg hdrop] at hsn
                have hcs : ((F.boot : Int) != m.boot) = true ∨ (((F.boot : Int) != m.boot) = false ∧ (m.out[j].num != (F.num : Int)) = true) := by
                  by_cases c : (F.boot : Int) = m.boot
                  · have d : m.out[j].num ≠ F.num := fun d => hdrop ⟨c, d⟩
                    exact Or.inr ⟨by rw [c]; simp, by simpa using d⟩
                  · exact Or.inl (by simpa using c)
                have kal2 : Kp Noone wr (wr.alloc (.cells #[.int .i64 m.out[j].num, .slice ho hm2 hc, .bool m.out[j].sent, .int .i64 m.out[j].time] 62)) := (Kp.refl _ _).alloc _
                have hrow4 : Row (wr.alloc (.cells #[.int .i64 m.out[j].num, .slice ho hm2 hc, .bool m.out[j].sent, .int .i64 m.out[j].time] 62)) (some ⟨wr.heap.size, 0, none⟩) [.int .i64 m.out[j].num, .slice ho hm2 hc, .bool m.out[j].sent, .int .i64 m.out[j].time] := Row.ofHeap (heap_alloc_new wr _)
                have hone4 : ∀ u ∈ [Value.int .i64 m.out[j].num, .slice ho hm2 hc, .bool m.out[j].sent, .int .i64 m.out[j].time], u.oneCell' = true := by intro u hu; simp at hu; rcases hu with rfl | rfl | rfl | rfl <;> rfl
                have hox : (⟨m.out[j].num, m.out[j].data, m.out[j].sent, m.out[j].time⟩ : OutH) = m.out[j] := rfl
                have HOX := Lib.hid hox
                have HSN := Lib.hid hsn
                generalize m.out[j].num = y at *
                generalize m.out[j].sent = sb at *
                generalize m.out[j].time = tm at *
                clear hdrop hsn hox
                rcases hcs with e3 | ⟨e3, e4⟩
                all_goals (
                  go_wp2_with (at_builtin; refine wpList_append_gen _ rfl (.tmp 100) (.tmp 106) 26 rfl 62 i0 (.agg #[.int .i64 0, .slice none 0 0, .bool false, .int .i64 0]) 4 48 Try.underlying26 hi hz0 hz1 hz2 rfl ao2 n2 c2 rfl (some ⟨wr.heap.size, 0, none⟩) 1 1 rfl _ _ (hown.keep kal2) [.int .i64 y, .slice ho hm2 hc, .bool sb, .int .i64 tm] rfl hrow4 hone4 (by omega) (by unfold maxLen; omega) ?_)
                  intro ao3 c3 w9 ho9 k9
                  have hbig := HMS.out.big
                  have hsa := kal2.size
                  have hpair : outC [m.out[j]] [(ho, hm2, hc)] = [.int .i64 y, .slice ho hm2 hc, .bool sb, .int .i64 tm] := by rw [← HOX.out]; rfl
                  have R := Lib.hid (GoneR.mk (P := P) (w0 := w) (mb := F.boot) (mn := F.num) (jv := .int .i64 ((j + 1 : Nat) : Int)) ⟨j + 1, ao3, n2 + 1, c3, hs2 ++ [(ho, hm2, hc)], rfl, by omega, rfl, (HMS.out.keep kal2).out3 k9 (fun j c => by omega) (fun j c d => by omega), by rw [HSN.out, List.length_append]; have := HN2.out; simp; omega, by simp [hhs2], by
                    rw [HSN.out, outC_append _ _ _ _ (by rw [hhs2]; exact HN2.out), hpair]
                    exact ho9.mono (fun k _ c => c.elim id (fun c => by omega)), fun i h1 h2 => by
                    revert h2
                    rw [HSN.out]
                    intro h2
                    have hn2 := HN2.out
                    by_cases hi2 : i < hs2.length
                    · rw [List.getElem_append_left hi2, List.getElem_append_left (by omega)]
                      exact ((hdat2 i hi2 (by omega)).kp kal2 (fun _ _ c => c)).kp k9 (fun j c d => by omega)
                    · have ei : i = hs2.length := by simp at h1; omega
                      subst ei
                      rw [List.getElem_append_right (by omega), List.getElem_append_right (by omega)]
                      have e0 : hs2.length - (goneR { m with out := m.out.take j } F.boot F.num).out.length = 0 := by omega
                      simp only [Nat.sub_self, e0, List.getElem_singleton]
                      exact (hdj.kp kal2 (fun _ _ c => c)).kp k9 (fun j c d => by omega)⟩)
                  clear ho9 k9 hown hdat2 hdj hrow4 hone4 hpair kal2
                  go_wp2_with fail
                  go_roundw
                  case rel => exact R.out
                  case measure => simp [intOf]; omega)
            · obtain rfl : j = m.out.length := by omega
              have hal := goneR_all m F.boot F.num
              have hro : RefAt (fun j => (P j ∧ j < g) ∨ g + 3 ≤ j) wr (goneR m F.boot F.num) ⟨ao2, c2, r.ko, r.kc, r.co, r.cc, hs2⟩ := by
                have h0 := hms.ref
                have hn2 := HN2.out
                rw [hal] at hn2 hown hdat2
                refine ⟨?_, by rw [hhs2]; exact hn2, fun i h1 h2 => ?_, h0.acks.mono (fun _ _ c => Or.inl c), h0.came.mono (fun _ _ c => Or.inl c)⟩
                · show RowP _ wr ao2 (goneR m F.boot F.num).out.length c2 (outC (goneR m F.boot F.num).out hs2)
                  rw [← hn2]
                  exact hown.rowP.mono (fun _ _ c => Or.inr c)
                · exact (hdat2 i h1 h2).mono (fun _ _ c => Or.inl c)
              have hL : (goneR m F.boot F.num).out.length = n2 := by rw [← hal]; exact HN2.out.symm
              obtain ⟨M1, hM1⟩ : ∃ M1, goneR m F.boot F.num = M1 := ⟨_, rfl⟩
              have e1 : M1.boot = m.boot ∧ M1.retry = m.retry ∧ M1.next = m.next ∧ M1.acks = m.acks ∧ M1.peer = m.peer ∧ M1.below = m.below ∧ M1.came = m.came := by rw [← hM1]; exact ⟨rfl, rfl, rfl, rfl, rfl, rfl, rfl⟩
              obtain ⟨e1, e2', e3, e4, e5, e6, e7⟩ := e1
              rw [hM1] at hro hL
              have hms1 := hms.setOut M1 ⟨ao2, c2, r.ko, r.kc, r.co, r.cc, hs2⟩ (by simp [linkC, e1, e2', e3, e4, e5, e6, e7]) hro (fun j c => by omega)
              have hf := hms1.fin (P := P) (fun j c => c)
              rw [e1, e2', e3, e4, e5, e6, e7, hL] at hf
              obtain ⟨⟨b0, b1, b2, b3⟩, ⟨b4, b5, b6, b7⟩, bf⟩ := cells_eight hms.box
              obtain ⟨⟨p0, p1, p2, p3⟩, ⟨p4, p5, p6, p7⟩, pf⟩ := cells_eight hms.ans
              have HF := Lib.hid hf
              have HE1 : Hid (M1 = m' ∧ [] = x ∧ false = ok ∧ 0 = er) := Lib.hid (by rw [← hM1]; exact HE.out)
              clear e1 e2' e3 e4 e5 e6 e7 hM1 hf hms1 hro hms hown hdat2 hal HE hL
              go_wp2_with fail
              obtain ⟨rfl, rfl, rfl, rfl⟩ := HE1.out
              refine bodyPost_ret (v := .tuple #[linkV M1 ⟨ao2, c2, r.ko, r.kc, r.co, r.cc, hs2⟩, .slice none 0 0, .bool false, .int .i64 0]) ?_ rfl ⟨⟨ao2, c2, r.ko, r.kc, r.co, r.cc, hs2⟩, none, 0, by simp [linkV], HF.out.1, NewAt.nil _ _ _⟩
              exact results_row3 (fn := Try.f17) (p := 4) (u := 5) (v := 6) (x := 7) rfl _ _ (g + 1) _ rfl HF.out.2 rfl
        · have e2 : ((F.kind : Int) == 2) = false := by
            have h : (F.kind : Int) ≠ 2 := by omega
            simpa using h
          have HR3 : Hid ((if (freshR m F.boot F.num F.base).2 then ((freshR m F.boot F.num F.base).1, F.data, true, 0) else ((freshR m F.boot F.num F.base).1, [], false, 0)) = (m', x, ok, er)) := Lib.hid (by
            have e := HR2.out
            rw [if_neg hk2] at e
            exact e)
          clear hk2 HR2
          have hF1 : 1 ≤ (F.boot : Int) ∧ (F.boot : Int) ≤ 1099511627776 := by omega
          have hF2 : 1 ≤ (F.base : Int) ∧ (F.base : Int) ≤ 1099511627776 := by omega
          by_cases c1 : (F.boot : Int) < m.peer
          · have HE : Hid (m = m' ∧ [] = x ∧ false = ok ∧ 0 = er) := Lib.hid (by
              have e := HR3.out
              unfold freshR at e
              rw [if_pos c1] at e
              simpa using e)
            go_wp2_with fail
            obtain ⟨rfl, rfl, rfl, rfl⟩ := HE.out
            refine bodyPost_ret (v := .tuple #[linkV m r, .slice none 0 0, .bool false, .int .i64 0]) ?_ rfl ⟨r, none, 0, by simp [linkV], (HM7.fin hQ0).1, NewAt.nil _ _ _⟩
            exact results_row3 (fn := Try.f17) (p := 4) (u := 5) (v := 6) (x := 7) rfl _ _ (g + 1) _ rfl (HM7.fin (P := P) hQ0).2 rfl
          · have HR4 : Hid ((if lowR (baseR (lifeR m F.boot) F.base) + 64 < F.num then (baseR (lifeR m F.boot) F.base, ([] : List UInt8), false, 0)
                else if (takeR (ackR (baseR (lifeR m F.boot) F.base) F.boot F.num) F.num).2 then ((takeR (ackR (baseR (lifeR m F.boot) F.base) F.boot F.num) F.num).1, F.data, true, 0)
                else ((takeR (ackR (baseR (lifeR m F.boot) F.base) F.boot F.num) F.num).1, [], false, 0)) = (m', x, ok, er)) := Lib.hid (by
              have e := HR3.out
              unfold freshR at e
              rw [if_neg c1] at e
              by_cases c : lowR (baseR (lifeR m F.boot) F.base) + 64 < F.num
              · rw [if_pos c] at e ⊢; simpa using e
              · rw [if_neg c] at e ⊢; exact e)
            clear HR3
            go_upto_if 120 with fail
            go_cut [] from 18 (fun wx => IM P w g (lifeR m F.boot) xo xc F.data wx)
            case first =>
              by_cases c2 : m.peer < (F.boot : Int)
              · have hl : Hid (lifeR m F.boot = { m with peer := F.boot, came := [], below := 0, acks := [] }) := Lib.hid (by unfold lifeR; rw [if_pos c2])
                have hk : Kp (fun j => j = g) w7 ((((w7.setCell ⟨g, 5, none⟩ (.int .i64 (F.boot : Int))).setCell ⟨g, 7, none⟩ (.slice none 0 0)).setCell ⟨g, 6, none⟩ (.int .i64 0)).setCell ⟨g, 4, none⟩ (.slice none 0 0)) :=
                  (((Kp.refl (fun j => j = g) w7).setCell (p := ⟨g, 5, none⟩) (fun _ => rfl) _).setCell (p := ⟨g, 7, none⟩) (fun _ => rfl) _).setCell (p := ⟨g, 6, none⟩) (fun _ => rfl) _ |>.setCell (p := ⟨g, 4, none⟩) (fun _ => rfl) _
                have hbx := heap_set_cell (n := 4) (u := .slice none 0 0) (heap_set_cell (n := 6) (u := .int .i64 0) (heap_set_cell (n := 7) (u := .slice none 0 0) (heap_set_cell (n := 5) (u := .int .i64 (F.boot : Int)) HM7.box)))
                have hbx2 : Hid (IM P w g (lifeR m F.boot) xo xc F.data ((((w7.setCell ⟨g, 5, none⟩ (.int .i64 (F.boot : Int))).setCell ⟨g, 7, none⟩ (.slice none 0 0)).setCell ⟨g, 6, none⟩ (.int .i64 0)).setCell ⟨g, 4, none⟩ (.slice none 0 0))) := Lib.hid (by
                  rw [hl.out]
                  refine ⟨⟨r.oo, r.oc, none, 0, none, 0, r.hs⟩, HM7.boxed hk (hbx.trans (by simp [linkC])) ?_ (fun j c => by omega), hxd.kp hk (fun j c d => by omega)⟩
                  have h0 := (HM7.mono (Q1 := fun j => (P j ∧ j < g) ∨ g + 3 ≤ j) (fun j _ c => Or.inl c)).ref
                  exact ⟨h0.outs, h0.hlen, h0.data, RowP.nil _ _ _, RowP.nil _ _ _⟩)
                clear hk hbx hl
                go_wp2_with fail
                go_meet
                case rel => exact hbx2.out
              · have hl : Hid (lifeR m F.boot = m) := Lib.hid (by unfold lifeR; rw [if_neg c2])
                go_wp2_with fail
                go_meet
                case rel =>
                  rw [hl.out]
                  exact ⟨r, HM7.mono (fun j _ c => Or.inl c), hxd⟩
            case rest =>
            obtain ⟨r1, HM8, hd8⟩ := hcut
            have HO1 := Lib.hid (HO.out.life hF1)
            clear HM7 hd7 hxd b0 b1 b2 b3 b4 b5 b6 b7 bf p0 p1 p2 p3 p4 p5 p6 p7 pf q0 q1 qf c1
            obtain ⟨M1, hM1⟩ : ∃ M1, lifeR m F.boot = M1 := ⟨_, rfl⟩
            rw [hM1] at HM8 HO1 HR4
            clear hM1
            have hwb : IntKind.i64.wrap ((F.base : Int) - 1) = (F.base : Int) - 1 := IntWalk.i64_in _ (by omega)
            obtain ⟨⟨b0, b1, b2, b3⟩, ⟨b4, b5, b6, b7⟩, bf⟩ := cells_eight HM8.box
            go_wp2_with fail
            refine (low_any _ M1 r1 _ HM8.ref HO1.out).mono ?_
            rintro e w8 ⟨rfl, k8⟩
            have HM9 := HM8.keep k8
            have hd9 := hd8.kp k8 (fun _ _ c => c)
            obtain ⟨⟨b0, b1, b2, b3⟩, ⟨b4, b5, b6, b7⟩, bf⟩ := cells_eight HM9.box
            clear HM8 hd8 k8
            go_upto_if 130 with fail
            go_cut [] from 18 (fun wx => IM P w g (baseR M1 F.base) xo xc F.data wx)
            case first =>
              by_cases c3 : lowR M1 < (F.base : Int) - 1
              · have hl : Hid (baseR M1 F.base = { M1 with below := (F.base : Int) - 1 }) := Lib.hid (by unfold baseR; rw [if_pos c3])
                have hk : Kp (fun j => j = g) w8 (w8.setCell ⟨g, 6, none⟩ (.int .i64 ((F.base : Int) - 1))) := (Kp.refl (fun j => j = g) w8).setCell (p := ⟨g, 6, none⟩) (fun _ => rfl) _
                have hbx2 : Hid (IM P w g (baseR M1 F.base) xo xc F.data (w8.setCell ⟨g, 6, none⟩ (.int .i64 ((F.base : Int) - 1)))) := Lib.hid (by
                  rw [hl.out]
                  refine ⟨r1, HM9.boxed hk ((heap_set_cell (n := 6) (u := .int .i64 ((F.base : Int) - 1)) HM9.box).trans (by simp [linkC])) ?_ (fun j c => by omega), hd9.kp hk (fun j c d => by omega)⟩
                  have h0 := HM9.ref
                  exact ⟨h0.outs, h0.hlen, h0.data, h0.acks, h0.came⟩)
                clear hk hl
                go_wp2_with fail
                go_meet
                case rel => exact hbx2.out
              · have hl : Hid (baseR M1 F.base = M1) := Lib.hid (by unfold baseR; rw [if_neg c3])
                go_wp2_with fail
                go_meet
                case rel =>
                  rw [hl.out]
                  exact ⟨r1, HM9, hd9⟩
            case rest =>
            clear HM9 hd9 b0 b1 b2 b3 b4 b5 b6 b7 bf
            obtain ⟨r2, HM10, hd10⟩ := hcut
            have HO2 := Lib.hid (HO1.out.base hF2)
            obtain ⟨M2, hM2⟩ : ∃ M2, baseR M1 F.base = M2 := ⟨_, rfl⟩
            rw [hM2] at HM10 HO2 HR4
            clear hM2 HO1
            obtain ⟨⟨b0, b1, b2, b3⟩, ⟨b4, b5, b6, b7⟩, bf⟩ := cells_eight HM10.box
            go_wp2_with fail
            refine (low_any _ M2 r2 _ HM10.ref HO2.out).mono ?_
            rintro e w9 ⟨rfl, k9⟩
            have HM11 := HM10.keep k9
            have hd11 := hd10.kp k9 (fun _ _ c => c)
            obtain ⟨⟨b0, b1, b2, b3⟩, ⟨b4, b5, b6, b7⟩, bf⟩ := cells_eight HM11.box
            obtain ⟨⟨p0, p1, p2, p3⟩, ⟨p4, p5, p6, p7⟩, pf⟩ := cells_eight HM11.ans
            clear HM10 hd10 k9
            have hlw := lowR_bounds HO2.out
            have hwl : IntKind.i64.wrap (lowR M2 + 64) = lowR M2 + 64 := IntWalk.i64_in _ (by omega)
            by_cases c4 : lowR M2 + 64 < (F.num : Int)
            · have HE : Hid (M2 = m' ∧ [] = x ∧ false = ok ∧ 0 = er) := Lib.hid (by
                have e := HR4.out
                rw [if_pos c4] at e
                simpa using e)
              go_wp2_with fail
              obtain ⟨rfl, rfl, rfl, rfl⟩ := HE.out
              refine bodyPost_ret (v := .tuple #[linkV M2 r2, .slice none 0 0, .bool false, .int .i64 0]) ?_ rfl ⟨r2, none, 0, by simp [linkV], (HM11.fin (fun _ c => c)).1, NewAt.nil _ _ _⟩
              exact results_row3 (fn := Try.f17) (p := 4) (u := 5) (v := 6) (x := 7) rfl _ _ (g + 1) _ rfl (HM11.fin (P := P) (fun _ c => c)).2 rfl
            · have HR5 : Hid ((if (takeR (ackR M2 F.boot F.num) F.num).2 then ((takeR (ackR M2 F.boot F.num) F.num).1, F.data, true, 0)
                  else ((takeR (ackR M2 F.boot F.num) F.num).1, ([] : List UInt8), false, 0)) = (m', x, ok, er)) := Lib.hid (by
                have e := HR4.out
                rw [if_neg c4] at e
                exact e)
              clear HR4
              have hal := HO2.out.acksL
              go_upto_if 143 with fail
              go_cut [16] from 18 (fun _ wx => IM P w g (ackR M2 F.boot F.num) xo xc F.data wx)
              case first =>
                by_cases c5 : M2.acks.length < 32
                · have hl : Hid (ackR M2 F.boot F.num = { M2 with acks := M2.acks ++ [((F.boot : Int), (F.num : Int))] }) := Lib.hid (by unfold ackR; rw [if_pos c5])
                  have kA : Kp Noone w9 (w9.alloc (.cells #[] 3)) := (Kp.refl _ _).alloc _
                  have hrw := (HM11.ref.acks.kp kA (fun _ _ c => c)).row
                  have bA4 := kA.cell b4 id
                  have HMq := HM11.mono (Q1 := fun j => ((P j ∧ j < g) ∨ g + 3 ≤ j) ∧ j < w9.heap.size) (fun j hj c => ⟨c, hj⟩)
                  have HMA := HMq.keep kA
                  have hdq := (hd11.mono (E := fun j => g + 3 ≤ j ∧ j < w9.heap.size) (fun j hj c => ⟨c, hj⟩)).kp kA (fun _ _ c => c)
                  have sA := kA.size
                  have hbg := HM11.big
                  clear b0 b1 b2 b3 b4 b5 b6 b7 bf p0 p1 p2 p3 p4 p5 p6 p7 pf
                  go_wp2_with (at_builtin; refine wpList_append_gen _ rfl (.tmp 144) (.tmp 146) 27 rfl 3 j0 (.int .i64 0) 1 8 Try.underlying27 hj hj0 hj1 hj2 rfl (some ⟨w9.heap.size, 0, none⟩) 0 0 rfl r2.ko (M2.acks.length * 2) r2.kc rfl Noone [] (Own.nil _ _ _ _ _) (ackC M2.acks) (by rw [ackC_len2, Nat.mul_one]) hrw (ackC_one2 _) (by omega) (by unfold maxLen; omega) ?_)
                  intro ao4 c4' w10 ho10 k10
                  have HMB := HMA.keep k10
                  have hdB := hdq.kp k10 (fun _ _ c => c)
                  have kB : Kp Noone w10 (w10.alloc (.cells #[.int .i64 (F.boot : Int), .int .i64 (F.num : Int)] 3)) := (Kp.refl _ _).alloc _
                  have ho11 := (ho10.mono (G := fun j => w9.heap.size ≤ j ∧ j < w10.heap.size) (fun j hj c => by have := Ex.none c; omega)).keep kB
                  have hr2 : Row (w10.alloc (.cells #[.int .i64 (F.boot : Int), .int .i64 (F.num : Int)] 3)) (some ⟨w10.heap.size, 0, none⟩) [.int .i64 (F.boot : Int), .int .i64 (F.num : Int)] := Row.ofHeap (heap_alloc_new w10 _)
                  have hc0 := k10.size
                  go_wp2_with (at_builtin; refine wpList_append_gen _ rfl (.tmp 148) (.tmp 151) 27 rfl 3 j0 (.int .i64 0) 1 8 Try.underlying27 hj hj0 hj1 hj2 rfl ao4 (M2.acks.length * 2) c4' rfl (some ⟨w10.heap.size, 0, none⟩) 2 2 rfl _ _ ho11 [.int .i64 (F.boot : Int), .int .i64 (F.num : Int)] rfl hr2 (by intro u hu; simp at hu; rcases hu with rfl | rfl <;> rfl) (by omega) (by unfold maxLen; omega) ?_)
                  intro ao5 c5' w11 ho12 k11
                  have HMC := (HMB.keep kB).out3 k11 (fun j c => by omega) (fun j c d => by omega)
                  have hdC := (hdB.kp kB (fun _ _ c => c)).kp k11 (fun j c d => by omega)
                  have sB := kB.size
                  have hk : Kp (fun j => j = g) w11 (w11.setCell ⟨g, 4, none⟩ (.slice ao5 (M2.acks.length * 2 + 2) c5')) := (Kp.refl (fun j => j = g) w11).setCell (p := ⟨g, 4, none⟩) (fun _ => rfl) _
                  have hbx2 : Hid (IM P w g (ackR M2 F.boot F.num) xo xc F.data (w11.setCell ⟨g, 4, none⟩ (.slice ao5 (M2.acks.length * 2 + 2) c5'))) := Lib.hid (by
                    rw [hl.out]
                    have hlen2 : (M2.acks ++ [((F.boot : Int), (F.num : Int))]).length * 2 = M2.acks.length * 2 + 2 := by simp; omega
                    refine ⟨⟨r2.oo, r2.oc, ao5, c5', r2.co, r2.cc, r2.hs⟩, HMC.boxed hk ((heap_set_cell (n := 4) (u := .slice ao5 (M2.acks.length * 2 + 2) c5') HMC.box).trans (by unfold linkC; simp only []; rw [hlen2]; simp)) ?_ (fun j c => by omega), (hdC.mono (fun j _ c => c.1)).kp hk (fun j c d => by omega)⟩
                    have h0 := HMC.ref.mono (Q := fun j => (P j ∧ j < g) ∨ g + 3 ≤ j) (fun j _ c => c.1)
                    refine ⟨h0.outs, h0.hlen, h0.data, ?_, h0.came⟩
                    show RowP _ w11 ao5 ((M2.acks ++ [((F.boot : Int), (F.num : Int))]).length * 2) c5' (ackC (M2.acks ++ [((F.boot : Int), (F.num : Int))]))
                    rw [hlen2, ackC_snoc]
                    exact ho12.rowP.mono (fun j _ c => by
                      rcases c with c | c
                      · exact Or.inr (by omega)
                      · exact Or.inr (by omega)))
                  obtain ⟨⟨b0, b1, b2, b3⟩, ⟨b4, b5, b6, b7⟩, bf⟩ := cells_eight HMC.box
                  clear hk HMB HMC hdB hdC ho10 ho11 ho12 k10 k11 hr2 hrw hl HMA HMq hdq
                  go_wp2_with fail
                  go_meet
                  case rel => exact hbx2.out
                · have hl : Hid (ackR M2 F.boot F.num = M2) := Lib.hid (by unfold ackR; rw [if_neg c5])
                  go_wp2_with fail
                  go_meet
                  case rel =>
                    rw [hl.out]
                    exact ⟨r2, HM11, hd11⟩
              case rest =>
                clear HM11 hd11 b0 b1 b2 b3 b4 b5 b6 b7 bf p0 p1 p2 p3 p4 p5 p6 p7 pf c4
                obtain ⟨r3, HM12, hd12⟩ := hcut
                have hcl := HO2.out.cameL
                have hM3 : (ackR M2 F.boot F.num).came = M2.came := by unfold ackR; split <;> rfl
                have hcl3 : (ackR M2 F.boot F.num).came.length ≤ 1048576 := by rw [hM3]; exact hcl
                obtain ⟨M3, hM3⟩ : ∃ M3, ackR M2 F.boot F.num = M3 := ⟨_, rfl⟩
                rw [hM3] at HM12 HR5 hcl3
                clear hM3 HO2
                obtain ⟨⟨b0, b1, b2, b3⟩, ⟨b4, b5, b6, b7⟩, bf⟩ := cells_eight HM12.box
                obtain ⟨⟨p0, p1, p2, p3⟩, ⟨p4, p5, p6, p7⟩, pf⟩ := cells_eight HM12.ans
                have his := HM12.ref.came.is rfl
                go_wp2_with fail
                refine (has_any r3.co M3.came.length r3.cc M3.came (F.num : Int) _ his (by omega)).mono ?_
                rintro e w13 ⟨rfl, rfl⟩
                have hseen : ∀ (_ : hasR M3 F.num = true ∨ (F.num : Int) ≤ M3.below), Hid (M3 = m' ∧ [] = x ∧ false = ok ∧ 0 = er) := fun c => Lib.hid (by
                  have e := HR5.out
                  unfold takeR at e
                  rw [if_pos c] at e
                  simpa using e)
                cases hc : M3.came.contains (F.num : Int) with
                | true =>
                  have HE := hseen (Or.inl hc)
                  clear hc hseen his
                  go_wp2_with fail
                  obtain ⟨rfl, rfl, rfl, rfl⟩ := HE.out
                  refine bodyPost_ret (v := .tuple #[linkV M3 r3, .slice none 0 0, .bool false, .int .i64 0]) ?_ rfl ⟨r3, none, 0, by simp [linkV], (HM12.fin (fun _ c => c)).1, NewAt.nil _ _ _⟩
                  exact results_row3 (fn := Try.f17) (p := 4) (u := 5) (v := 6) (x := 7) rfl _ _ (g + 1) _ rfl (HM12.fin (P := P) (fun _ c => c)).2 rfl
                | false =>
                  by_cases c7 : (F.num : Int) ≤ M3.below
                  · have HE := hseen (Or.inr c7)
                    clear hc hseen his
                    go_wp2_with fail
                    obtain ⟨rfl, rfl, rfl, rfl⟩ := HE.out
                    refine bodyPost_ret (v := .tuple #[linkV M3 r3, .slice none 0 0, .bool false, .int .i64 0]) ?_ rfl ⟨r3, none, 0, by simp [linkV], (HM12.fin (fun _ c => c)).1, NewAt.nil _ _ _⟩
                    exact results_row3 (fn := Try.f17) (p := 4) (u := 5) (v := 6) (x := 7) rfl _ _ (g + 1) _ rfl (HM12.fin (P := P) (fun _ c => c)).2 rfl
                  · have HE : Hid ({ M3 with came := M3.came ++ [(F.num : Int)] } = m' ∧ F.data = x ∧ true = ok ∧ 0 = er) := Lib.hid (by
                      have e := HR5.out
                      have hno : ¬ (hasR M3 F.num = true ∨ (F.num : Int) ≤ M3.below) := by
                        rintro (c | c)
                        · have c : M3.came.contains (F.num : Int) = true := c
                          rw [hc] at c; cases c
                        · exact c7 c
                      have hT : takeR M3 F.num = ({ M3 with came := M3.came ++ [(F.num : Int)] }, true) := by unfold takeR; rw [if_neg hno]
                      rw [hT] at e
                      simpa using e)
                    clear hc hseen his HR5
                    have kA : Kp Noone wc (wc.alloc (.cells #[] 3)) := (Kp.refl _ _).alloc _
                    have hrw := (HM12.ref.came.kp kA (fun _ _ c => c)).row
                    have bA7 := kA.cell b7 id
                    have HMA := (HM12.mono (Q1 := fun j => ((P j ∧ j < g) ∨ g + 3 ≤ j) ∧ j < wc.heap.size) (fun j hj c => ⟨c, hj⟩)).keep kA
                    have hdq := (hd12.mono (E := fun j => g + 3 ≤ j ∧ j < wc.heap.size) (fun j hj c => ⟨c, hj⟩)).kp kA (fun _ _ c => c)
                    have sA := kA.size
                    have hbg := HM12.big
                    clear b0 b1 b2 b3 b4 b5 bf p0 p1 p2 p3 p4 p5 p6 p7 pf
                    go_wp2_with (at_builtin; refine wpList_append_gen _ rfl (.tmp 165) (.tmp 167) 27 rfl 3 j0 (.int .i64 0) 1 8 Try.underlying27 hj hj0 hj1 hj2 rfl (some ⟨wc.heap.size, 0, none⟩) 0 0 rfl r3.co M3.came.length r3.cc rfl Noone [] (Own.nil _ _ _ _ _) (M3.came.map (Value.int .i64)) (by rw [List.length_map, Nat.mul_one]) hrw (ints_one _) (by omega) (by unfold maxLen; omega) ?_)
                    intro ao4 c4' w10 ho10 k10
                    have HMB := HMA.keep k10
                    have hdB := hdq.kp k10 (fun _ _ c => c)
                    have kB : Kp Noone w10 (w10.alloc (.cells #[.int .i64 (F.num : Int)] 3)) := (Kp.refl _ _).alloc _
                    have ho11 := (ho10.mono (G := fun j => wc.heap.size ≤ j ∧ j < w10.heap.size) (fun j hj c => by have := Ex.none c; omega)).keep kB
                    have hr2 : Row (w10.alloc (.cells #[.int .i64 (F.num : Int)] 3)) (some ⟨w10.heap.size, 0, none⟩) [.int .i64 (F.num : Int)] := Row.ofHeap (heap_alloc_new w10 _)
                    have hc0 := k10.size
                    go_wp2_with (at_builtin; refine wpList_append_gen _ rfl (.tmp 169) (.tmp 171) 27 rfl 3 j0 (.int .i64 0) 1 8 Try.underlying27 hj hj0 hj1 hj2 rfl ao4 M3.came.length c4' rfl (some ⟨w10.heap.size, 0, none⟩) 1 1 rfl _ _ ho11 [.int .i64 (F.num : Int)] rfl hr2 (by intro u hu; simp at hu; subst hu; rfl) (by omega) (by unfold maxLen; omega) ?_)
                    intro ao5 c5' w11 ho12 k11
                    have HMC := (HMB.keep kB).out3 k11 (fun j c => by omega) (fun j c d => by omega)
                    have hdC := (hdB.kp kB (fun _ _ c => c)).kp k11 (fun j c d => by omega)
                    have sB := kB.size
                    have hk : Kp (fun j => j = g) w11 (w11.setCell ⟨g, 7, none⟩ (.slice ao5 (M3.came.length + 1) c5')) := (Kp.refl (fun j => j = g) w11).setCell (p := ⟨g, 7, none⟩) (fun _ => rfl) _
                    have hlen2 : (M3.came ++ [(F.num : Int)]).length = M3.came.length + 1 := by simp
                    have HM13 : MSt (fun j => (P j ∧ j < g) ∨ g + 3 ≤ j) w g { M3 with came := M3.came ++ [(F.num : Int)] } ⟨r3.oo, r3.oc, r3.ko, r3.kc, ao5, c5', r3.hs⟩ (w11.setCell ⟨g, 7, none⟩ (.slice ao5 (M3.came.length + 1) c5')) := by
                      refine HMC.boxed hk ((heap_set_cell (n := 7) (u := .slice ao5 (M3.came.length + 1) c5') HMC.box).trans (by unfold linkC; simp only []; rw [hlen2]; simp)) ?_ (fun j c => by omega)
                      have h0 := HMC.ref.mono (Q := fun j => (P j ∧ j < g) ∨ g + 3 ≤ j) (fun j _ c => c.1)
                      refine ⟨h0.outs, h0.hlen, h0.data, h0.acks, ?_⟩
                      show RowP _ w11 ao5 (M3.came ++ [(F.num : Int)]).length c5' ((M3.came ++ [(F.num : Int)]).map (Value.int .i64))
                      rw [hlen2, List.map_append]
                      exact ho12.rowP.mono (fun j _ c => by
                        rcases c with c | c
                        · exact Or.inr (by omega)
                        · exact Or.inr (by omega))
                    have hdf := (hdC.mono (fun j _ c => c.1)).kp hk (fun j c d => by omega)
                    have hf := HM13.fin (P := P) (fun _ c => c)
                    have HBX := Lib.hid HMC.box
                    obtain ⟨⟨p0, p1, p2, p3⟩, ⟨p4, p5, p6, p7⟩, pf⟩ := cells_eight HMC.ans
                    have hl1 : ({ M3 with came := M3.came ++ [(F.num : Int)] } : RL).came.length = M3.came.length + 1 := hlen2
                    rw [hl1] at hf
                    have HF := Lib.hid hf
                    have hdx := hdf.kp (set8_kpS (Kp.refl (fun j => j = g + 1) _) (g := g + 1) rfl (.int .i64 M3.boot) (.int .i64 M3.retry) (.int .i64 M3.next) (.slice r3.oo M3.out.length r3.oc) (.slice r3.ko (M3.acks.length * 2) r3.kc) (.int .i64 M3.peer) (.int .i64 M3.below) (.slice ao5 (M3.came.length + 1) c5')) (fun j c d => by omega)
                    have HDX := Lib.hid (show NewAt w _ (xo, F.data.length, xc) F.data from hdx.mono (fun j _ c => by have := HM13.hg; omega))
                    clear hf hdx hdf HM13 hk HMB HMC hdB hdC ho10 ho11 ho12 k10 k11 hr2 hrw HMA hdq hl1 b6 bA7 b7
                    obtain ⟨⟨b0, b1, b2, b3⟩, ⟨b4, b5, b6, b7⟩, bf⟩ := cells_eight HBX.out
                    go_wp2_with fail
                    obtain ⟨rfl, rfl, rfl, rfl⟩ := HE.out
                    refine bodyPost_ret (v := .tuple #[linkV { M3 with came := M3.came ++ [(F.num : Int)] } ⟨r3.oo, r3.oc, r3.ko, r3.kc, ao5, c5', r3.hs⟩, .slice xo F.data.length xc, .bool true, .int .i64 0]) ?_ rfl ⟨⟨r3.oo, r3.oc, r3.ko, r3.kc, ao5, c5', r3.hs⟩, xo, xc, by simp [linkV], HF.out.1, HDX.out⟩
                    exact results_row3 (fn := Try.f17) (p := 4) (u := 5) (v := 6) (x := 7) rfl _ _ (g + 1) _ rfl HF.out.2 rfl

end Go.Proofs.Ytlpdoefbjhlegaa
