/-
  THE WALK of Out: the acknowledgements' frames.
-/
import Derived.Test.YtlpdoefbjhlegaaLinkNew
import Derived.Deep.RegionHeld3
namespace Go.Proofs.Ytlpdoefbjhlegaa
open Go.RowKit

theorem info_bytesL : (Try.prog.info? 31).map (fun i => (i.zero, i.size, i.bytes)) = some (some (.slice none 0 0), 1, 24) := by kernel_rfl

def headsL (hs : Hs) : List Value := hs.map fun h => .slice h.1 h.2.1 h.2.2

/-- The frames' bytes, each in blocks of its own. -/
def FrsData (D : Nat → Prop) (w : World) (hs : Hs) (fs : List (List UInt8)) : Prop :=
  ∃ G : Nat → Nat → Prop, (∀ j k, G j k → D k) ∧ (∀ i j k, G i k → G j k → i = j) ∧ (∀ j, hs.length ≤ j → ∀ k, ¬ G j k) ∧ ∀ j (h1 : j < hs.length) (h2 : j < fs.length), Own (G j) w 5 1 hs[j].1 hs[j].2.1 hs[j].2.2 (bv fs[j])
theorem Own.dataAt {F : Nat → Prop} {w : World} {s : Option Addr × Nat × Nat} {x : List UInt8} (hx : Own F w 5 1 s.1 s.2.1 s.2.2 (bv x)) : DataAt F w s x := by
  refine ⟨hx.bs, fun hne a ha => ?_⟩
  rcases hx with ⟨e1, e2, e3, e4⟩
  rcases e4 with h0 | ⟨g, off, cur, h0, hg, e5⟩
  · exfalso
    apply hne
    rw [length_bv] at e1
    exact List.eq_nil_of_length_eq_zero (by omega)
  · rw [h0] at ha
    cases ha
    exact hg
theorem FrsData.at {D : Nat → Prop} {w : World} {hs : Hs} {fs : List (List UInt8)} (h : FrsData D w hs fs) (j : Nat) (h1 : j < hs.length) (h2 : j < fs.length) : DataAt D w hs[j] fs[j] := by
  obtain ⟨G, g1, -, -, g3⟩ := h
  exact (g3 j h1 h2).dataAt.mono (fun k _ c => g1 j k c)
theorem FrsData.kp {D S : Nat → Prop} {w w' : World} {hs : Hs} {fs : List (List UInt8)} (h : FrsData D w hs fs) (k : Kp S w w') (hd : ∀ j, D j → ¬ S j) : FrsData D w' hs fs := by
  obtain ⟨G, g1, g2, g4, g3⟩ := h
  exact ⟨G, g1, g2, g4, fun j h1 h2 => (g3 j h1 h2).kp k (fun i c => hd i (g1 j i c))⟩

/-- Frames in new memory: the row of heads in one kind of blocks, the bytes in others. -/
def FrsAt (z : Nat) (w : World) (ao : Option Addr) (n cap : Nat) (fs : List (List UInt8)) : Prop :=
  ∃ (hs : Hs) (A D : Nat → Prop), (∀ k, A k → z ≤ k) ∧ (∀ k, D k → z ≤ k) ∧ (∀ k, A k → ¬ D k) ∧ fs.length = n ∧ hs.length = n ∧ Own A w 31 1 ao n cap (headsL hs) ∧
    FrsData D w hs fs

theorem FrsAt.nil (z : Nat) (w : World) (ao : Option Addr) : FrsAt z w ao 0 0 [] :=
  ⟨[], Noone, Noone, fun _ c => c.elim, fun _ c => c.elim, fun _ _ c => c, rfl, rfl, Own.nil _ _ _ _ _, fun _ _ => False, fun _ _ c => c.elim, fun _ _ _ c => c.elim, fun _ _ _ c => c, fun j h => by simp at h⟩
theorem FrsAt.keep {z : Nat} {w w' : World} {ao : Option Addr} {n cap : Nat} {fs : List (List UInt8)} (h : FrsAt z w ao n cap fs) {S : Nat → Prop} (k : Kp S w w') (hS : ∀ j, z ≤ j → ¬ S j) : FrsAt z w' ao n cap fs := by
  obtain ⟨hs, A, D, h1, h2, h3, h4, h5, h6, h7⟩ := h
  exact ⟨hs, A, D, h1, h2, h3, h4, h5, h6.kp k (fun j c => hS j (h1 j c)), h7.kp k (fun i c => hS i (h2 i c))⟩
theorem FrsAt.bss {z : Nat} {w : World} {ao : Option Addr} {n cap : Nat} {fs : List (List UInt8)} (h : FrsAt z w ao n cap fs) : BSS w ao n cap fs := by
  obtain ⟨hs, A, D, h1, h2, h3, h4, h5, h6, h7⟩ := h
  exact ⟨h4, h6.2.1, h6.2.2.1, hs, h5, h6.row, fun j a b => (h7.at j a b).1⟩

/-- One frame more. -/
theorem FrsAt.snoc {z : Nat} {w1 w4 w5 w6 w7 : World} {A D : Nat → Prop} {hs : Hs} {n : Nat} {fs : List (List UInt8)} {x : List UInt8} {xo : Option Addr} {xc : Nat} {ao' : Option Addr} {cap' : Nat}
    (hz : z ≤ w1.heap.size) (hA : ∀ k, A k → z ≤ k) (hD : ∀ k, D k → z ≤ k) (hAD : ∀ k, A k → ¬ D k) (hAlt : ∀ k, A k → k < w1.heap.size) (hn : fs.length = n) (hhs : hs.length = n)
    (hd : FrsData D w1 hs fs) (k14 : Kp Noone w1 w4) (hx : Own (Ex Noone w4 w5) w5 5 1 xo x.length xc (bv x)) (k45 : Kp Noone w4 w5) (k56 : Kp Noone w5 w6)
    (ho : Own (Ex A w6 w7) w7 31 1 ao' (n + 1) cap' (headsL hs ++ [.slice xo x.length xc])) (k67 : Kp A w6 w7) : FrsAt z w7 ao' (n + 1) cap' (fs ++ [x]) := by
  have s14 := k14.size
  have s45 := k45.size
  have s56 := k56.size
  have s67 := k67.size
  refine ⟨hs ++ [(xo, x.length, xc)], fun k => A k ∨ (w6.heap.size ≤ k ∧ k < w7.heap.size), fun k => (D k ∧ k < w1.heap.size) ∨ (w4.heap.size ≤ k ∧ k < w5.heap.size), fun k c => ?_, fun k c => ?_, fun k c d => ?_, by simp [hn], by simp [hhs], ?_, ?_⟩
  · rcases c with c | c
    · exact hA k c
    · omega
  · rcases c with c | c
    · exact hD k c.1
    · omega
  · rcases c with c | c
    · rcases d with d | d
      · exact hAD k c d.1
      · have := hAlt k c; omega
    · rcases d with d | d <;> omega
  · have : headsL (hs ++ [(xo, x.length, xc)]) = headsL hs ++ [.slice xo x.length xc] := by simp [headsL]
    rw [this]
    exact ho
  · obtain ⟨G, g1, g2, g4, g3⟩ := hd
    refine ⟨fun j k => if j = hs.length then w4.heap.size ≤ k ∧ k < w5.heap.size else G j k ∧ k < w1.heap.size, fun j k c => ?_, fun i j k c d => ?_, fun j hj k c => ?_, fun j h1 h2 => ?_⟩
    · dsimp only at c
      split at c
      · exact Or.inr c
      · exact Or.inl ⟨g1 j k c.1, c.2⟩
    · dsimp only at c d
      split at c <;> split at d
      · omega
      · omega
      · omega
      · exact g2 i j k c.1 d.1
    · dsimp only at c
      simp at hj
      rw [if_neg (by omega)] at c
      exact g4 j (by omega) k c.1
    · by_cases hj : j < hs.length
      · have hj2 : j < fs.length := by omega
        rw [List.getElem_append_left hj, List.getElem_append_left hj2]
        simp only [if_neg (show ¬ j = hs.length by omega)]
        have d1 := (g3 j hj hj2).mono (G := fun k => G j k ∧ k < w1.heap.size) (fun a ha hb => ⟨hb, ha⟩)
        exact (d1.kp (k14.trans (k45.trans k56)) (fun _ _ c => c)).kp k67 (fun a c e => hAD a e (g1 j a c.1))
      · have ej : j = hs.length := by simp at h1; omega
        subst ej
        rw [List.getElem_append_right (by omega), List.getElem_append_right (by omega)]
        simp only [if_true]
        have e0 : hs.length - fs.length = 0 := by omega
        simp only [Nat.sub_self, e0, List.getElem_singleton]
        have hdx : Own (fun k => w4.heap.size ≤ k ∧ k < w5.heap.size) w5 5 1 xo x.length xc (bv x) := hx.mono (fun k _ c => Ex.none c)
        exact (hdx.kp k56 (fun _ _ c => c)).kp k67 (fun a c e => by have := hAlt a e; omega)

def ackFr (a : Int × Int) : List UInt8 := numL 2 ++ numL a.1.toNat ++ numL a.2.toNat

theorem ackC_get : ∀ (l : List (Int × Int)) (k : Nat) (h : k < l.length), (ackC l)[k * 2]? = some (.int .i64 l[k].1) ∧ (ackC l)[k * 2 + 1]? = some (.int .i64 l[k].2)
  | a :: r, 0, _ => by simp [ackC]
  | a :: r, k + 1, h => by
    have := ackC_get r k (by simpa using h)
    have e1 : (k + 1) * 2 = k * 2 + 1 + 1 := by omega
    rw [e1]
    simpa [ackC] using this

/-! ### The messages that wait -/

/-- Sent not long ago? -/
def skipH (retry now : Int) (h : OutH) : Bool := h.sent && (decide (h.time ≤ now) && decide (now - h.time < retry))
def updH (retry now : Int) (h : OutH) : OutH := if skipH retry now h then h else { h with sent := true, time := now }
def datFr (boot base : Int) (h : OutH) : List UInt8 := numL 1 ++ numL boot.toNat ++ numL h.num.toNat ++ numL base.toNat ++ numL h.data.length ++ h.data
def baseOf : List OutH → Int
  | [] => 0
  | h :: _ => h.num
def outK (retry now : Int) (out : List OutH) (k : Nat) : List OutH := (out.take k).map (updH retry now) ++ out.drop k
def datK (boot retry now base : Int) (out : List OutH) (k : Nat) : List (List UInt8) := ((out.take k).filter (fun h => !skipH retry now h)).map (datFr boot base)
/-- What Out answers; the end behind it. -/
def emitF (s : LS) (now : Int) : LS × List (List UInt8) :=
  ({ s with acks := [], out := s.out.map (updH s.retry now) }, s.acks.map ackFr ++ (s.out.filter (fun h => !skipH s.retry now h)).map (datFr s.boot (baseOf s.out)))

theorem baseOf_eq : ∀ (l : List OutH) (h : 0 < l.length), baseOf l = (l[0]'h).num
  | _ :: _, _ => rfl
theorem updH_num (retry now : Int) (h : OutH) : (updH retry now h).num = h.num := by unfold updH; split <;> rfl
theorem outK_len (retry now : Int) (out : List OutH) (k : Nat) (hk : k ≤ out.length) : (outK retry now out k).length = out.length := by
  unfold outK; simp; omega
theorem outK_get (retry now : Int) (out : List OutH) (k : Nat) (hk : k < out.length) (h2 : k < (outK retry now out k).length) : (outK retry now out k)[k]'h2 = out[k] := by
  revert h2
  unfold outK
  intro h2
  rw [List.getElem_append_right (by simp; omega)]
  simp [Nat.min_eq_left (Nat.le_of_lt hk)]
theorem outK_num (retry now : Int) (out : List OutH) (k : Nat) (hk : 0 < out.length) (h2 : 0 < (outK retry now out k).length) : ((outK retry now out k)[0]'h2).num = (out[0]'hk).num := by
  revert h2
  unfold outK
  intro h2
  by_cases h0 : k = 0
  · subst h0; simp
  · rw [List.getElem_append_left (by simp; omega)]
    simp [updH_num]
theorem outK_skip (retry now : Int) (out : List OutH) (k : Nat) (hk : k < out.length) (h : skipH retry now out[k] = true) : outK retry now out (k + 1) = outK retry now out k := by
  unfold outK
  rw [List.take_succ_eq_append_getElem hk, List.map_append, List.drop_eq_getElem_cons hk]
  simp [updH, h]
theorem outK_due (retry now : Int) (out : List OutH) (k : Nat) (hk : k < out.length) (h : skipH retry now out[k] = false) : outK retry now out (k + 1) = (outK retry now out k).set k { out[k] with sent := true, time := now } := by
  unfold outK
  rw [List.take_succ_eq_append_getElem hk, List.map_append, List.set_append_right _ _ (by simp; omega), List.drop_eq_getElem_cons hk]
  have e : k - (List.map (updH retry now) (List.take k out)).length = 0 := by simp; omega
  rw [e, List.set_cons_zero]
  simp [updH, h]
theorem outK_all (retry now : Int) (out : List OutH) : outK retry now out out.length = out.map (updH retry now) := by simp [outK]
theorem datK_skip (boot retry now base : Int) (out : List OutH) (k : Nat) (hk : k < out.length) (h : skipH retry now out[k] = true) : datK boot retry now base out (k + 1) = datK boot retry now base out k := by
  unfold datK
  rw [List.take_succ_eq_append_getElem hk, List.filter_append]
  simp [h]
theorem datK_due (boot retry now base : Int) (out : List OutH) (k : Nat) (hk : k < out.length) (h : skipH retry now out[k] = false) : datK boot retry now base out (k + 1) = datK boot retry now base out k ++ [datFr boot base out[k]] := by
  unfold datK
  rw [List.take_succ_eq_append_getElem hk, List.filter_append]
  simp [h]

theorem outC_set (now : Int) : ∀ (out : List OutH) (hs : Hs) (k : Nat) (hk : k < out.length), hs.length = out.length →
    outC (out.set k { out[k] with sent := true, time := now }) hs = ((outC out hs).set (k * 4 + 2) (.bool true)).set (k * 4 + 3) (.int .i64 now)
  | a :: r, x :: y, 0, _, _ => by simp [outC, heldC]
  | a :: r, x :: y, k + 1, hk, hl => by
    have ih := outC_set now r y k (by simpa using hk) (by simpa using hl)
    have e1 : (k + 1) * 4 + 2 = k * 4 + 2 + 1 + 1 + 1 + 1 := by omega
    have e2 : (k + 1) * 4 + 3 = k * 4 + 3 + 1 + 1 + 1 + 1 := by omega
    rw [e1, e2]
    simp only [List.set_cons_succ, outC, heldC, List.cons_append, List.nil_append, List.getElem_cons_succ]
    rw [ih]
  | a :: r, [], _, _, hl => by simp at hl

/-- A message is marked as sent. -/
theorem LinkAt.mark {col : Nat → Nat} {i p : Nat} {s : LS} {r : LR} {w : World} (h : LinkAt col i w p s r) {k g off : Nat} (hk : k < s.out.length) (ha : r.ao = some ⟨g, off, none⟩) (hg : col g = i + 2) (now : Int) :
    LinkAt col i ((w.setCell ⟨g, off + k * 4 + 2, none⟩ (.bool true)).setCell ⟨g, off + k * 4 + 3, none⟩ (.int .i64 now)) p { s with out := s.out.set k { s.out[k] with sent := true, time := now } } r ∧
      Kp (fun j => j = g) w ((w.setCell ⟨g, off + k * 4 + 2, none⟩ (.bool true)).setCell ⟨g, off + k * 4 + 3, none⟩ (.int .i64 now)) := by
  obtain ⟨ao, ocap, ko, kcap, b, hs, sl⟩ := r
  simp only [] at ha
  subst ha
  have hP := h.own
  have hM := h.mapc
  have k1 : Kp (fun j => j = g) w (w.setCell ⟨g, off + k * 4 + 2, none⟩ (.bool true)) := Kp.setCell (S := fun j => j = g) (Kp.refl _ _) (fun _ => rfl) _
  have k2 : Kp (fun j => j = g) w ((w.setCell ⟨g, off + k * 4 + 2, none⟩ (.bool true)).setCell ⟨g, off + k * 4 + 3, none⟩ (.int .i64 now)) := Kp.setCell (S := fun j => j = g) k1 (fun _ => rfl) _
  refine ⟨⟨hP, ?_, ⟨?_, by simpa using h.outs.hlen, fun j h1 h2 => ?_⟩, h.acks.kp k2 (fun j c d => by subst d; unfold Col at c; omega), hM, h.map.kp k2 (fun c => by have e1 : b = g := c; have e2 : col b = i + 4 := hM; rw [e1] at e2; omega), h.seen⟩, k2⟩
  · have := k2.heap h.head (fun c => by have e1 : p = g := c; rw [e1] at hP; omega)
    simpa using this
  · have hl := outC_length s.out hs h.outs.hlen
    have o1 := h.outs.own.set (k := k * 4 + 2) (by show k * 4 + 2 < (outC s.out hs).length; omega) (.bool true)
    have o2 := o1.set (k := k * 4 + 3) (by rw [List.length_set]; show k * 4 + 3 < (outC s.out hs).length; omega) (.int .i64 now)
    rw [← outC_set now s.out hs k hk h.outs.hlen] at o2
    simpa [Nat.add_assoc] using o2
  · have h3 : j < s.out.length := by simpa using h2
    have d := (h.outs.data j h1 h3).kp k2 (fun a c e => by subst e; unfold Col at c; omega)
    have e : (s.out.set k { s.out[k] with sent := true, time := now })[j].data = s.out[j].data := by
      rw [List.getElem_set]
      split
      · rename_i c; subst c; rfl
      · rfl
    simp only [e]
    exact d
/-- No acknowledgement waits. -/
theorem LinkAt.noAcks {col : Nat → Nat} {i p : Nat} {s : LS} {r : LR} {w : World} (h : LinkAt col i w p s r) :
    LinkAt col i (w.setCell ⟨p, 4, none⟩ (.slice none 0 0)) p { s with acks := [] } { r with ko := none, kcap := 0 } ∧ Kp (fun j => j = p) w (w.setCell ⟨p, 4, none⟩ (.slice none 0 0)) := by
  have hP := h.own
  have hM := h.mapc
  have k2 : Kp (fun j => j = p) w (w.setCell ⟨p, 4, none⟩ (.slice none 0 0)) := Kp.setCell (S := fun j => j = p) (Kp.refl _ _) (fun _ => rfl) _
  exact ⟨⟨hP, by rw [heap_set_cell h.head]; rfl, h.outs.kp k2 (fun j c => by subst c; omega), Own.nil _ _ _ _ _, hM, h.map.kp k2 (fun c => by have : r.b = p := c; rw [this] at hM; omega), h.seen⟩, k2⟩
/-- What is written elsewhere does not touch it. -/
theorem LinkAt.far {B : Nat} {col : Nat → Nat} {i p : Nat} {s : LS} {r : LR} {w0 w w' : World} (h : LinkAt col i w p s r) (hc : Cols B w0 col) {S : Nat → Prop} (k : Kp S w w') (hS : ∀ j, S j → w0.heap.size ≤ j) : LinkAt col i w' p s r := by
  have hn : ∀ j, S j → col j = 0 := fun j hj => Classical.byContradiction fun c => by have := hc j c; have := hS j hj; omega
  have hP := h.own
  have hM := h.mapc
  exact ⟨hP, k.heap h.head (fun c => by have := hn p c; omega), h.outs.kp k (fun j c => by have := hn j c; omega), h.acks.kp k (fun j c d => by have := hn j d; unfold Col at c; omega), hM, h.map.kp k (fun c => by have := hn _ c; omega), h.seen⟩

set_option maxHeartbeats 400000 in
set_option maxRecDepth 100000 in
theorem writerTextD_any (F D : Nat → Prop) (p : Nat) (l : List UInt8) (bo : Option Addr) (m c : Nat) (b : List UInt8) (w : World) (hw : Wr F w p l) (hb : DataAt D w (bo, m, c) b) (hoff : ∀ j, D j → ¬ F j) (hl : l.length + m ≤ 140737488355000) :
    Calls Try.prog 29 #[.pointer (some ⟨p, 0, none⟩), .slice bo m c] w (WrPost F w p (l ++ numL m ++ b)) := by
  obtain ⟨i0, hi, hz0, hz1, hz2⟩ := info_parts info_u8
  go_enter Try.func29, Try.ntmps29
  go_wp2_with fail
  refine (writerNum_any F p l m _ hw (by unfold W64; omega) (by omega)).mono ?_
  rintro e w1 ⟨rfl, hw1, k1⟩
  have hb1 := (hb.kp k1 hoff).1
  have hb0 := hb.1
  simp only [] at hb1 hb0
  obtain ⟨hp', ao, n, cap, hh, ho⟩ := hw1
  obtain ⟨hc0, hf0⟩ := cell_one hh
  have hnb : n + m ≤ 140737488355016 := by
    have := ho.1
    rw [length_bv, List.length_append, length_numL] at this
    have := sizeN_le m
    omega
  go_wp2_with (at_builtin; refine wpList_append_gen _ rfl (.tmp 16) (.tmp 17) 31 rfl 5 i0 (.int .u8 0) 1 1 Try.underlying31 hi hz0 hz1 hz2 rfl ao n cap rfl bo m c rfl _ _ ho (bv b) (by rw [length_bv, hb0.len, Nat.mul_one]) hb1.row (bv_one _) (by omega) (by unfold maxLen; omega) ?_)
  intro ao1 cap1 w2 ho2 k2
  have hh2 := k2.heap hh (fun h => h.2 rfl)
  obtain ⟨hc2, hf2⟩ := cell_one hh2
  rw [bv_append] at ho2
  have P := Wr.put hp' hh ho2 k2
  have hs1 := k1.size
  have Wf := Wr.chain P.1 hs1
  have Kf := k1.ex P.2
  clear ho2 k2 hh2 hc0 hf0 ho hh P
  go_wp2_with fail
  go_ret
  exact ⟨rfl, Wf, Kf⟩

/-- The second loop's relation. -/
structure OutR (col : Nat → Nat) (i : Nat) (w : World) (p : Nat) (s : LS) (now : Int) (r : LR) (v j : Value) (wr : World) : Prop where
  ex : ∃ (k nf : Nat) (fo : Option Addr) (fcap : Nat), j = .int .i64 (k : Int) ∧ k ≤ s.out.length ∧ v = .slice fo nf fcap ∧ FrsAt w.heap.size wr fo nf fcap (s.acks.map ackFr ++ datK s.boot s.retry now (baseOf s.out) s.out k) ∧
    LinkAt col i wr p { s with acks := [], out := outK s.retry now s.out k } r ∧ Kp (fun j => i < col j ∧ col j ≤ i + 5) w wr

set_option maxHeartbeats 4000000 in
set_option maxRecDepth 100000 in
theorem out_at (B : Nat) (col : Nat → Nat) (i p : Nat) (s : LS) (r : LR) (now : Int) (w : World) (h : LinkAt col i w p s r) (hc : Cols B w col) (hok : LinkOk s) (_hBw : B ≤ w.heap.size) (hnow : -9223372036854775808 ≤ now ∧ now ≤ 9223372036854775807) :
    Calls Try.prog 15 #[.pointer (some ⟨p, 0, none⟩), .int .i64 now] w fun e w' => ∃ fo fcap, e = .returned (.slice fo (emitF s now).2.length fcap) ∧ FrsAt w.heap.size w' fo (emitF s now).2.length fcap (emitF s now).2 ∧ (∃ r', LinkAt col i w' p (emitF s now).1 r') ∧ Kp (fun j => i < col j ∧ col j ≤ i + 5) w w' := by
  obtain ⟨i0, hi, hz0, hz1, hz2⟩ := info_parts info_bytesL
  obtain ⟨ao, ocap, ko, kcap, b, hs, sl⟩ := r
  have HL := Lib.hid h
  have HC := Lib.hid hc
  have HOK := Lib.hid hok
  have hhead := h.head
  simp only [] at hhead
  have hhl := h.outs.hlen
  have hol := hok.outL
  have hal := hok.acksL
  have HAN := Lib.hid hok.acksN
  have hka := h.acks
  simp only [] at hhl hka
  clear h hc hok
  obtain ⟨⟨q0, q1, q2, q3⟩, ⟨q4, q5, q6, q7⟩, qf⟩ := cells_eight hhead
  go_enter Try.func15, Try.ntmps15
  go_wp2_with fail
  clear q0 q1 q2 q3 q4 q5 q6 q7 qf
  go_loopw [5, 18] (fun v i wr => ∃ (k : Nat) (fo : Option Addr) (fcap : Nat), i = .int .i64 (k : Int) ∧ k ≤ s.acks.length ∧ v = .slice fo k fcap ∧ FrsAt w.heap.size wr fo k fcap ((s.acks.take k).map ackFr) ∧ Kp Noone w wr) (fun _ i _ => s.acks.length - (intOf i).toNat)
  case atStart => exact ⟨0, none, 0, rfl, Nat.zero_le _, rfl, FrsAt.nil _ _ _, Kp.refl _ _⟩
  case round =>
    obtain ⟨k, fo, fcap, rfl, hkn, rfl, hfr, kr⟩ := hrel
    have hkr := hka.keep kr
    by_cases hlt : k < s.acks.length
    · have hl := hkr.1
      obtain ⟨n1, n2⟩ := ackC_get s.acks k hlt
      obtain ⟨hk1, e1⟩ := List.getElem?_eq_some_iff.1 n1
      obtain ⟨hk2, e2⟩ := List.getElem?_eq_some_iff.1 n2
      obtain ⟨g, off, hao, hF, hg, hcg, hfg⟩ := hkr.at hk1
      obtain ⟨g', off', hao', hF', hg', hcg', hfg'⟩ := hkr.at hk2
      rw [hao] at hao'
      cases hao'
      rw [e1] at hcg
      rw [e2, ← Nat.add_assoc] at hcg'
      subst hao
      have hb := HAN.out _ (List.getElem_mem hlt)
      obtain ⟨b1, hb1⟩ := Int.eq_ofNat_of_zero_le (show (0 : Int) ≤ s.acks[k].1 by omega)
      obtain ⟨b2, hb2⟩ := Int.eq_ofNat_of_zero_le (show (0 : Int) ≤ s.acks[k].2 by omega)
      rw [hb1, hb2] at hb
      rw [hb1] at hcg
      rw [hb2] at hcg'
      have sN := sizeN_le
      obtain ⟨L1, HL1⟩ : ∃ L1, Hid ([] ++ numL 2 = L1) := ⟨_, Lib.hid rfl⟩
      obtain ⟨L2, HL2⟩ : ∃ L2, Hid (L1 ++ numL b1 = L2) := ⟨_, Lib.hid rfl⟩
      obtain ⟨L4, HL4⟩ : ∃ L4, Hid (L2 ++ numL b2 = L4) := ⟨_, Lib.hid rfl⟩
      have hll1 : L1.length ≤ 9 := by rw [← HL1.out]; simp only [List.length_append, length_numL, List.length_nil]; have := sN 2; omega
      have hll2 : L2.length ≤ 18 := by rw [← HL2.out]; simp only [List.length_append, length_numL]; have := sN b1; omega
      have hll4 : L4.length ≤ 27 := by rw [← HL4.out]; simp only [List.length_append, length_numL]; have := sN b2; omega
      have HS : Hid ((s.acks.take (k + 1)).map ackFr = (s.acks.take k).map ackFr ++ [L4]) := Lib.hid (by
        rw [List.take_succ_eq_append_getElem hlt, List.map_append]
        rw [← HL4.out, ← HL2.out, ← HL1.out]
        simp [ackFr, hb1, hb2])
      have hwb1 : IntKind.u64.wrap (b1 : Int) = (b1 : Int) := IntWalk.u64_in _ (by omega)
      have hwb2 : IntKind.u64.wrap (b2 : Int) = (b2 : Int) := IntWalk.u64_in _ (by omega)
      have hwk : IntKind.i64.wrap ((k : Int) + 1) = (k : Int) + 1 := IntWalk.i64_in _ (by omega)
      clear n1 n2 hk1 hk2 e1 e2 hb1 hb2
      go_wp2_with fail
      have hgA := heap_alloc_new wr (.cells #[.int .i64 (b1 : Int), .int .i64 (b2 : Int)] 68)
      have kA : Kp Noone wr (wr.alloc (.cells #[.int .i64 (b1 : Int), .int .i64 (b2 : Int)] 68)) := (Kp.refl _ _).alloc _
      generalize wr.alloc (.cells #[.int .i64 (b1 : Int), .int .i64 (b2 : Int)] 68) = wA at *
      have hgs : wr.heap.size = wr.heap.size := rfl
      obtain ⟨g0, g1, -, -⟩ := cells_two hgA
      have kD : Kp Noone wr wA.drew := kA.drew
      have hgD := ((Kp.refl Noone wA).drew).heap hgA id
      obtain ⟨d0, d1, -, -⟩ := cells_two hgD
      obtain ⟨fhs, fA, fD, fz1, fz2, fAD, fln, fhl, fow, fda⟩ := hfr
      have fow2 := fow.mono (G := fun j => fA j ∧ j < wr.heap.size) (fun j hj c => ⟨c, hj⟩)
      have FD := Lib.hid fda
      clear fda fow hcg hcg' hfg hfg' hgA g0 g1 kA
      generalize hgx : wr.heap.size = gx at *
      have hgl : gx < wA.drew.heap.size := (Array.getElem?_eq_some_iff.1 hgD).1
      have hsz := kr.size
      clear hgD
      go_region_held3 (fun w' => w'.cell? ⟨gx, 0, none⟩ = some (.int .i64 (b1 : Int)) ∧ w'.cell? ⟨gx, 1, none⟩ = some (.int .i64 (b2 : Int)))
        (first | exact ⟨by assumption, by assumption⟩ | exact ⟨hgB0 _, hgB1 _⟩)
        (first
          | (go_at_call 26; refine (newWriter_any _).mono ?_; rintro e w' ⟨q, rfl, hwr, kw, hq⟩; have d0 := kw.cell d0 id; have d1 := kw.cell d1 id; have k4 := kD.trans kw; have hwr := hwr.mono (G := fun j => gx < j) (fun j _ c => Nat.lt_of_lt_of_le hgl (Ex.none c).1); have hgl := Nat.lt_of_lt_of_le hgl kw.size)
          | (go_at_call 27; (change Wr _ _ _ [] at hwr); refine (writerNum_any (fun j => gx < j) q [] 2 _ hwr (by unfold W64; omega) (by simp only [List.length_nil]; omega)).mono ?_; rintro e w' ⟨rfl, hwr, kw⟩; rw [HL1.out] at hwr; have d0 := kw.cell d0 (Nat.lt_irrefl _); have d1 := kw.cell d1 (Nat.lt_irrefl _); have k4 := k4.fin kw (fun j c => Or.inr (by rw [hgx]; exact Nat.le_of_lt c)); have hwr := hwr.mono (G := fun j => gx < j) (fun j _ c => c.elim id (fun c => Nat.lt_of_lt_of_le hgl c.1)); have hgl := Nat.lt_of_lt_of_le hgl kw.size)
          | (go_at_call 27; (change Wr _ _ _ L1 at hwr); refine (writerNum_any (fun j => gx < j) q L1 b1 _ hwr (by unfold W64; omega) (by omega)).mono ?_; rintro e w' ⟨rfl, hwr, kw⟩; rw [HL2.out] at hwr; have d0 := kw.cell d0 (Nat.lt_irrefl _); have d1 := kw.cell d1 (Nat.lt_irrefl _); have k4 := k4.fin kw (fun j c => Or.inr (by rw [hgx]; exact Nat.le_of_lt c)); have hwr := hwr.mono (G := fun j => gx < j) (fun j _ c => c.elim id (fun c => Nat.lt_of_lt_of_le hgl c.1)); have hgl := Nat.lt_of_lt_of_le hgl kw.size)
          | (go_at_call 27; (change Wr _ _ _ L2 at hwr); refine (writerNum_any (fun j => gx < j) q L2 b2 _ hwr (by unfold W64; omega) (by omega)).mono ?_; rintro e w' ⟨rfl, hwr, kw⟩; rw [HL4.out] at hwr; have d0 := kw.cell d0 (Nat.lt_irrefl _); have d1 := kw.cell d1 (Nat.lt_irrefl _); have k4 := k4.fin kw (fun j c => Or.inr (by rw [hgx]; exact Nat.le_of_lt c)); have hwr := hwr.mono (G := fun j => gx < j) (fun j _ c => c.elim id (fun c => Nat.lt_of_lt_of_le hgl c.1)); have hgl := Nat.lt_of_lt_of_le hgl kw.size)
          | (go_at_call 28; refine (writerBytes_any (fun j => gx < j) q L4 _ hwr (by omega)).mono ?_; rintro e w' ⟨xo, xc, rfl, hx, kw⟩; have d0 := kw.cell d0 id; have d1 := kw.cell d1 id; have kb := k4; have k4 := k4.trans kw; have hgB0 := fun o : Obj => ((Kp.refl Noone w').alloc o).cell d0 id; have hgB1 := fun o : Obj => ((Kp.refl Noone w').alloc o).cell d1 id)
          | (refine step_append_gen rfl (.tmp 22) (.tmp 34) 39 (by dsimp only) 31 i0 (.slice none 0 0) 1 24 Try.underlying39 hi hz0 hz1 hz2 rfl fo k fcap (by rfl) (some ⟨w'.heap.size, 0, none⟩) 1 1 (by rfl) _ _ (fow2.keep (k4.alloc _)) [.slice xo L4.length xc] rfl (Row.ofHeap (heap_alloc_new w' _)) (by intro u hu; simp at hu; subst hu; rfl) (by omega) (by unfold maxLen; omega) ?_; intro ao' cap' w7 ho7 k7; have d0 := k7.cell (hgB0 _) (fun c => Nat.lt_irrefl _ c.2); have d1 := k7.cell (hgB1 _) (fun c => Nat.lt_irrefl _ c.2)))
      have hfs : FrsAt w.heap.size w7 ao' (k + 1) cap' ((s.acks.take (k + 1)).map ackFr) := by
        rw [HS.out]
        exact FrsAt.snoc hsz (fun j c => fz1 j c.1) fz2 (fun j c => fAD j c.1) (fun j c => by rw [hgx]; exact c.2) fln fhl FD.out kb hx kw ((Kp.refl _ _).alloc _) ho7 k7
      have K7 : Kp Noone w w7 := (kr.trans (k4.alloc _)).fin k7 (fun j c => Or.inr (fz1 j c.1))
      clear hx kw ho7 k7 fow2 d0 d1 hgB0 hgB1 k4 kb hwr kD
      go_wp2_with fail
      exact ⟨⟨k + 1, ao', cap', by rfl, by omega, rfl, hfs, K7⟩, by simp [intOf]; omega⟩
    · obtain rfl : k = s.acks.length := by omega
      rw [List.take_length] at hfr
      obtain ⟨hN, kN⟩ := (HL.out.keep kr).noAcks
      have hhr := kr.heap hhead id
      obtain ⟨⟨q0, q1, q2, q3⟩, ⟨q4, q5, q6, q7⟩, qf⟩ := cells_eight hhr
      go_upto_region 10 with fail
      have hown := HL.out.own
      have hzc : Hid (∀ j, i < col j ∧ col j ≤ i + 5 → j < w.heap.size) := Lib.hid (fun j hj => (HC.out j (by omega)).2)
      have K1 : Kp (fun j => i < col j ∧ col j ≤ i + 5) w (wr.setCell ⟨p, 4, none⟩ (.slice none 0 0)) := kr.none.trans' kN (fun j _ c => by subst c; omega)
      have hfr1 : FrsAt w.heap.size (wr.setCell ⟨p, 4, none⟩ (.slice none 0 0)) fo s.acks.length fcap (s.acks.map ackFr) := hfr.keep kN (fun j hj c => by subst c; have := hzc.out j ⟨by omega, by omega⟩; omega)
      generalize wr.setCell ⟨p, 4, none⟩ (.slice none 0 0) = w1 at *
      clear q0 q1 q2 q3 q4 q5 q6 q7 qf hhr hfr kr hkr hkn hlt
      obtain ⟨⟨q0, q1, q2, q3⟩, ⟨q4, q5, q6, q7⟩, qf⟩ := cells_eight hN.head
      go_wp2_with fail
      clear q0 q1 q2 q3 q4 q5 q6 q7 qf
      have hrt := HOK.out.retry
      have hbt := HOK.out.boot
      have HON := Lib.hid HOK.out.outN
      go_loopw [5, 45] (fun v j wr => OutR col i w p s now ⟨ao, ocap, none, 0, b, hs, sl⟩ v j wr) (fun _ j _ => s.out.length - (intOf j).toNat)
      case atStart =>
        refine OutR.mk ⟨0, _, fo, fcap, rfl, Nat.zero_le _, rfl, ?_, ?_, K1⟩
        · simpa [datK] using hfr1
        · have e : outK s.retry now s.out 0 = s.out := by simp [outK]
          rw [e]; exact hN
      case round =>
        obtain ⟨k, nf, fo, fcap, rfl, hkn, rfl, hfr, hat, kr⟩ := hrel.ex
        clear hfr1 hN K1
        by_cases hlt : k < s.out.length
        · have h0 : 0 < s.out.length := by omega
          have hol2 := outK_len s.retry now s.out k hkn
          have eg := outK_get s.retry now s.out k hlt (by omega)
          have e0 := outK_num s.retry now s.out k h0 (by omega)
          have eB := Lib.hid (baseOf_eq s.out h0)
          obtain ⟨n1, n2, n3, n4⟩ := outC_get (outK s.retry now s.out k) hs k (by omega) (by omega)
          obtain ⟨m1, -, -, -⟩ := outC_get (outK s.retry now s.out k) hs 0 (by omega) (by omega)
          rw [eg] at n1 n3 n4
          rw [e0] at m1
          have hb1 := HON.out _ (List.getElem_mem hlt)
          have hb0 := HON.out _ (List.getElem_mem h0)
          have hown2 := hat.outs.own
          simp only [] at hown2
          obtain ⟨hk1, e1⟩ := List.getElem?_eq_some_iff.1 n1
          obtain ⟨hk2, e2⟩ := List.getElem?_eq_some_iff.1 n2
          obtain ⟨hk3, e3⟩ := List.getElem?_eq_some_iff.1 n3
          obtain ⟨hk4, e4⟩ := List.getElem?_eq_some_iff.1 n4
          obtain ⟨hk5, e5⟩ := List.getElem?_eq_some_iff.1 m1
          obtain ⟨g, off, hao, hF, hg, c1, f1⟩ := hown2.at hk1
          subst hao
          obtain ⟨_, _, ea, -, -, c2, f2⟩ := hown2.at hk2
          cases ea
          obtain ⟨_, _, ea, -, -, c3, f3⟩ := hown2.at hk3
          cases ea
          obtain ⟨_, _, ea, -, -, c4, f4⟩ := hown2.at hk4
          cases ea
          obtain ⟨_, _, ea, -, -, c5, f5⟩ := hown2.at hk5
          cases ea
          rw [e1] at c1
          rw [e2, ← Nat.add_assoc] at c2
          rw [e3, ← Nat.add_assoc] at c3
          rw [e4, ← Nat.add_assoc] at c4
          rw [e5] at c5
          rw [← Nat.add_assoc] at f3 f4
          simp only [Nat.zero_mul, Nat.add_zero] at c5 f5
          have hhd := hat.head
          simp only [hol2] at hhd
          obtain ⟨⟨q0, q1, q2, q3⟩, ⟨q4, q5, q6, q7⟩, qf⟩ := cells_eight hhd
          clear n1 n2 n3 n4 m1 hk1 hk2 hk3 hk4 hk5 e1 e2 e3 e4 e5 f1 f2 f5
          have HAT := Lib.hid hat
          have HFR := Lib.hid hfr
          have EG := Lib.hid eg
          have hwk : IntKind.i64.wrap ((k : Int) + 1) = (k : Int) + 1 := IntWalk.i64_in _ (by omega)
          clear hat hfr hown2 eg e0 hhd
          go_upto_region 14 with (first | go_quiet (fail))
          have kq : Kp Noone wr (wr.drewN nq) := (Kp.refl _ _).drewN nq
          have C1 := kq.cell c1 id
          have C2 := kq.cell c2 id
          have C3 := kq.cell c3 id
          have C4 := kq.cell c4 id
          have Q1 := kq.cell q1 id
          have F3 := (kq.frozen (p := ⟨g, off + k * 4 + 2, none⟩) hg id).trans f3
          have F4 := (kq.frozen (p := ⟨g, off + k * 4 + 3, none⟩) hg id).trans f4
          have hgq : g < wr.heap.size := hg
          have hgq := Nat.lt_of_lt_of_le hgq kq.size
          have KQ := Lib.hid kq
          clear kq c1 c2 c3 c4 c5 f3 f4 q0 q1 q2 q3 q4 q5 q6 q7 qf
          generalize wr.drewN nq = wq at *
          go_cut [88] from 61 to 88 (fun v wx => v = .bool (skipH s.retry now s.out[k]) ∧ Kp Noone wq wx)
          case first =>
            have HSK : Hid (skipH s.retry now s.out[k] = (s.out[k].sent && (decide (s.out[k].time ≤ now) && decide (now - s.out[k].time < s.retry)))) := Lib.hid rfl
            obtain ⟨-, -, -, ht1, ht2⟩ := hb1
            clear EG
            generalize s.out[k].time = tm at *
            generalize s.out[k].sent = sb at *
            have hwr : IntKind.u64.wrap s.retry = s.retry := IntWalk.u64_in _ (by omega)
            cases sb with
            | false =>
              go_quiet (fail)
              go_wp2_with fail
              go_meet
              case rel => exact ⟨by rw [HSK.out]; rfl, (Kp.refl _ _).drewN _⟩
            | true =>
              by_cases h1 : tm ≤ now
              · have hu : IntKind.u64.wrap (IntKind.u64.wrap now - IntKind.u64.wrap tm) = now - tm := by
                  simp [IntKind.wrap, IntKind.bits, IntKind.signed]; omega
                by_cases h2 : now - tm < s.retry
                · have H1 := Lib.hid h1
                  have H2 := Lib.hid h2
                  go_quiet (fail)
                  go_wp2_with fail
                  go_meet
                  case rel => exact ⟨by rw [HSK.out, decide_eq_true H1.out, decide_eq_true H2.out]; rfl, (Kp.refl _ _).drewN _⟩
                · have H1 := Lib.hid h1
                  have H2 := Lib.hid h2
                  go_quiet (fail)
                  go_wp2_with fail
                  go_meet
                  case rel => exact ⟨by rw [HSK.out, decide_eq_true H1.out, decide_eq_false (show ¬ (now - tm < s.retry) by have := H2.out; omega)]; rfl, (Kp.refl _ _).drewN _⟩
              · have H1 := Lib.hid h1
                go_quiet (fail)
                go_wp2_with fail
                go_meet
                case rel => exact ⟨by rw [HSK.out, decide_eq_false (show ¬ (tm ≤ now) by have := H1.out; omega)]; rfl, (Kp.refl _ _).drewN _⟩
          case rest =>
          obtain ⟨rfl, kx⟩ := hcut
          cases hsk : skipH s.retry now s.out[k] with
          | true =>
            have e1 := Lib.hid (outK_skip s.retry now s.out k hlt hsk)
            have e2 := Lib.hid (datK_skip s.boot s.retry now (baseOf s.out) s.out k hlt hsk)
            have KK := Lib.hid (KQ.out.trans kx)
            clear hsk kx C1 C2 C3 C4 Q1
            go_wp2_with fail
            go_roundw
            case rel =>
              exact OutR.mk ⟨k + 1, nf, fo, fcap, by rfl, by omega, rfl, by rw [e2.out]; exact HFR.out.keep KK.out (fun _ _ c => c), by rw [e1.out]; exact HAT.out.keep KK.out, kr.trans' KK.out (fun _ _ c => c.elim)⟩
            case measure => simp [intOf]; omega
          | false =>
            have e1 := Lib.hid (outK_due s.retry now s.out k hlt hsk)
            have e2 := Lib.hid (datK_due s.boot s.retry now (baseOf s.out) s.out k hlt hsk)
            clear hsk
            have KK := KQ.out.trans kx
            obtain ⟨hmk, kmk⟩ := (HAT.out.keep KK).mark (k := k) (by simp only []; omega) rfl hF now
            simp only [] at hmk
            rw [EG.out] at hmk
            have hdd := (HAT.out.keep KK).outs.data k (by simp only []; omega) (by simp only []; omega)
            simp only [] at hdd
            rw [EG.out] at hdd
            have hd := hdd.kp kmk (fun j c d => by subst d; unfold Col at c hF; omega)
            have D1 : wc.cell? ⟨g, off + k * 4, none⟩ = some (.int .i64 s.out[k].num) := kx.cell C1 id
            have D2 := kx.cell C2 id
            have D3 := kx.cell C3 id
            have D4 := kx.cell C4 id
            have G3 := (kx.frozen (p := ⟨g, off + k * 4 + 2, none⟩) hgq id).trans F3
            have G4 := (kx.frozen (p := ⟨g, off + k * 4 + 3, none⟩) hgq id).trans F4
            have hne : ∀ a b : Nat, a ≠ b → (⟨g, a, none⟩ : Addr) ≠ ⟨g, b, none⟩ := fun a b h c => h (congrArg Addr.off c)
            have E1 : ((wc.setCell ⟨g, off + k * 4 + 2, none⟩ (.bool true)).setCell ⟨g, off + k * 4 + 3, none⟩ (.int .i64 now)).cell? ⟨g, off + k * 4, none⟩ = some (.int .i64 s.out[k].num) := by
              rw [World.cell?_setCell_other (h := hne (off + k * 4 + 3) (off + k * 4) (by omega)), World.cell?_setCell_other (h := hne (off + k * 4 + 2) (off + k * 4) (by omega))]; exact D1
            have E2 : ((wc.setCell ⟨g, off + k * 4 + 2, none⟩ (.bool true)).setCell ⟨g, off + k * 4 + 3, none⟩ (.int .i64 now)).cell? ⟨g, off + k * 4 + 1, none⟩ = some (.slice hs[k].1 hs[k].2.1 hs[k].2.2) := by
              rw [World.cell?_setCell_other (h := hne (off + k * 4 + 3) (off + k * 4 + 1) (by omega)), World.cell?_setCell_other (h := hne (off + k * 4 + 2) (off + k * 4 + 1) (by omega))]; exact D2
            have KR : Kp (fun j => i < col j ∧ col j ≤ i + 5) w ((wc.setCell ⟨g, off + k * 4 + 2, none⟩ (.bool true)).setCell ⟨g, off + k * 4 + 3, none⟩ (.int .i64 now)) :=
              (kr.trans' KK (fun _ _ c => c.elim)).trans' kmk (fun j _ c => by subst c; unfold Col at hF; omega)
            have hfr := (HFR.out.keep KK (fun _ _ c => c)).keep kmk (fun j hj c => by subst c; unfold Col at hF; have := hzc.out j ⟨by omega, by omega⟩; omega)
            clear C1 C2 C3 C4 D1 D2 hdd
            go_upto_region 16 with fail
            clear D3 D4 G3 G4 Q1 F3 F4 kx KK
            generalize (wc.setCell ⟨g, off + k * 4 + 2, none⟩ (.bool true)).setCell ⟨g, off + k * 4 + 3, none⟩ (.int .i64 now) = w2 at *
            obtain ⟨E0, -, -, -⟩ := (cells_eight hmk.head).1
            have hp2 := (Array.getElem?_eq_some_iff.1 hmk.head).1
            have hg2 := World.block_lt_of_cell? w2 _ E1
            simp only [] at hp2 hg2
            have EN1 : 0 ≤ s.out[k].num := by omega
            have EN0 : 0 ≤ s.out[0].num := by omega
            have EL := hd.1.len
            have HX0 : Hid (datFr s.boot (baseOf s.out) s.out[k] = numL 1 ++ numL s.boot.toNat ++ numL s.out[k].num.toNat ++ numL s.out[0].num.toNat ++ numL s.out[k].data.length ++ s.out[k].data) := Lib.hid (by rw [eB.out]; rfl)
            have hnx := HOK.out.next
            obtain ⟨bn1, bn2, bn3, -⟩ := hb1
            obtain ⟨bm1, bm2, -⟩ := hb0
            rw [← e1.out] at hmk
            have HMK2 := Lib.hid hmk
            have HP : Hid (p < w.heap.size) := Lib.hid (hzc.out p ⟨by omega, by omega⟩)
            have hGl : Hid (g < w.heap.size) := Lib.hid (hzc.out g (by unfold Col at hF; omega))
            clear hmk eB EG HAT HFR
            generalize datFr s.boot (baseOf s.out) s.out[k] = X at *
            have hdn := hd
            generalize s.out[k].num = y at *
            generalize s.out[0].num = yb at *
            generalize hs[k] = hx at *
            obtain ⟨da, dn, dc⟩ := hx
            generalize s.out[k].data = dat at *
            simp only [] at EL E2 hd
            obtain ⟨bo, hbo⟩ := Int.eq_ofNat_of_zero_le (show (0 : Int) ≤ s.boot by omega)
            obtain ⟨yn, rfl⟩ := Int.eq_ofNat_of_zero_le EN1
            obtain ⟨bn, rfl⟩ := Int.eq_ofNat_of_zero_le EN0
            rw [hbo] at E0 hbt HX0
            have sN := sizeN_le
            obtain ⟨L1, HL1⟩ : ∃ L1, Hid ([] ++ numL 1 = L1) := ⟨_, Lib.hid rfl⟩
            obtain ⟨L2, HL2⟩ : ∃ L2, Hid (L1 ++ numL bo = L2) := ⟨_, Lib.hid rfl⟩
            obtain ⟨L3, HL3⟩ : ∃ L3, Hid (L2 ++ numL yn = L3) := ⟨_, Lib.hid rfl⟩
            obtain ⟨L5, HL5⟩ : ∃ L5, Hid (L3 ++ numL bn = L5) := ⟨_, Lib.hid rfl⟩
            obtain ⟨L6, HL6⟩ : ∃ L6, Hid (L5 ++ numL dn ++ dat = L6) := ⟨_, Lib.hid rfl⟩
            have hll1 : L1.length ≤ 9 := by rw [← HL1.out]; simp only [List.length_append, length_numL, List.length_nil]; have := sN 1; omega
            have hll2 : L2.length ≤ 18 := by rw [← HL2.out]; simp only [List.length_append, length_numL]; have := sN bo; omega
            have hll3 : L3.length ≤ 27 := by rw [← HL3.out]; simp only [List.length_append, length_numL]; have := sN yn; omega
            have hll5 : L5.length ≤ 36 := by rw [← HL5.out]; simp only [List.length_append, length_numL]; have := sN bn; omega
            have hll6 : L6.length ≤ 65600 := by rw [← HL6.out]; simp only [List.length_append, length_numL]; have := sN dn; omega
            have HXX : Hid (X = L6) := Lib.hid (by
              rw [HX0.out, ← HL6.out, ← HL5.out, ← HL3.out, ← HL2.out, ← HL1.out, EL]
              simp)
            have hwb1 : IntKind.u64.wrap (bo : Int) = (bo : Int) := IntWalk.u64_in _ (by omega)
            have hwb2 : IntKind.u64.wrap (yn : Int) = (yn : Int) := IntWalk.u64_in _ (by omega)
            have hwb3 : IntKind.u64.wrap (bn : Int) = (bn : Int) := IntWalk.u64_in _ (by omega)
            have HD := Lib.hid hd
            have hc5 : Hid (∀ j, Col col (i + 5) j → ¬ w2.heap.size ≤ j) := Lib.hid (fun j c => by unfold Col at c; have := hzc.out j ⟨by omega, by omega⟩; have := KR.size; omega)
            obtain ⟨fhs, fA, fD, fz1, fz2, fAD, fln, fhl, fow, fda⟩ := hfr
            have fow2 := fow.mono (G := fun j => fA j ∧ j < w2.heap.size) (fun j hj c => ⟨c, hj⟩)
            have FD := Lib.hid fda
            have hnf : nf ≤ 1048576 := by
              have h1 := fln
              have h2 : (datK s.boot s.retry now (baseOf s.out) s.out k).length ≤ k := by
                unfold datK
                rw [List.length_map]
                refine Nat.le_trans (List.length_filter_le _ _) ?_
                rw [List.length_take]; omega
              first
                | (rw [List.length_append, List.length_map] at h1; omega)
                | (simp at h1; omega)
            have kD : Kp Noone w2 w2.drew := (Kp.refl _ _).drew
            have d0 := kD.cell E0 id
            have d1 := kD.cell E1 id
            have d2 := kD.cell E2 id
            have hgl : w2.heap.size ≤ w2.drew.heap.size := kD.size
            have hsz := KR.size
            clear fda fow hd hdn E0 E1 E2 hbo
            generalize hgx : w2.heap.size = gx at *
            go_region_held3 (fun w' => w'.cell? ⟨p, 0, none⟩ = some (.int .i64 (bo : Int)) ∧ w'.cell? ⟨g, off + k * 4, none⟩ = some (.int .i64 (yn : Int)) ∧ w'.cell? ⟨g, off + k * 4 + 1, none⟩ = some (.slice da dn dc))
              (first | exact ⟨by assumption, by assumption, by assumption⟩ | exact ⟨hgB0 _, hgB1 _, hgB2 _⟩)
              (first
                | (go_at_call 26; refine (newWriter_any _).mono ?_; rintro e w' ⟨q, rfl, hwr, kw, hq⟩; have d0 := kw.cell d0 id; have d1 := kw.cell d1 id; have d2 := kw.cell d2 id; have k4 := kD.trans kw; have hwr := hwr.mono (G := fun j => gx ≤ j) (fun j _ c => Nat.le_trans hgl (Ex.none c).1); have hgl := Nat.le_trans hgl kw.size)
                | (go_at_call 27; (change Wr _ _ _ [] at hwr); refine (writerNum_any (fun j => gx ≤ j) q [] 1 _ hwr (by unfold W64; omega) (by simp only [List.length_nil]; omega)).mono ?_; rintro e w' ⟨rfl, hwr, kw⟩; rw [HL1.out] at hwr; have d0 := kw.cell d0 (Nat.not_le.2 hp2); have d1 := kw.cell d1 (Nat.not_le.2 hg2); have d2 := kw.cell d2 (Nat.not_le.2 hg2); have k4 := k4.fin kw (fun j c => Or.inr (by rw [hgx]; exact c)); have hwr := hwr.mono (G := fun j => gx ≤ j) (fun j _ c => c.elim id (fun c => Nat.le_trans hgl c.1)); have hgl := Nat.le_trans hgl kw.size)
                | (go_at_call 27; (change Wr _ _ _ L1 at hwr); refine (writerNum_any (fun j => gx ≤ j) q L1 bo _ hwr (by unfold W64; omega) (by omega)).mono ?_; rintro e w' ⟨rfl, hwr, kw⟩; rw [HL2.out] at hwr; have d0 := kw.cell d0 (Nat.not_le.2 hp2); have d1 := kw.cell d1 (Nat.not_le.2 hg2); have d2 := kw.cell d2 (Nat.not_le.2 hg2); have k4 := k4.fin kw (fun j c => Or.inr (by rw [hgx]; exact c)); have hwr := hwr.mono (G := fun j => gx ≤ j) (fun j _ c => c.elim id (fun c => Nat.le_trans hgl c.1)); have hgl := Nat.le_trans hgl kw.size)
                | (go_at_call 27; (change Wr _ _ _ L2 at hwr); refine (writerNum_any (fun j => gx ≤ j) q L2 yn _ hwr (by unfold W64; omega) (by omega)).mono ?_; rintro e w' ⟨rfl, hwr, kw⟩; rw [HL3.out] at hwr; have d0 := kw.cell d0 (Nat.not_le.2 hp2); have d1 := kw.cell d1 (Nat.not_le.2 hg2); have d2 := kw.cell d2 (Nat.not_le.2 hg2); have k4 := k4.fin kw (fun j c => Or.inr (by rw [hgx]; exact c)); have hwr := hwr.mono (G := fun j => gx ≤ j) (fun j _ c => c.elim id (fun c => Nat.le_trans hgl c.1)); have hgl := Nat.le_trans hgl kw.size)
                | (go_at_call 27; (change Wr _ _ _ L3 at hwr); refine (writerNum_any (fun j => gx ≤ j) q L3 bn _ hwr (by unfold W64; omega) (by omega)).mono ?_; rintro e w' ⟨rfl, hwr, kw⟩; rw [HL5.out] at hwr; have d0 := kw.cell d0 (Nat.not_le.2 hp2); have d1 := kw.cell d1 (Nat.not_le.2 hg2); have d2 := kw.cell d2 (Nat.not_le.2 hg2); have k4 := k4.fin kw (fun j c => Or.inr (by rw [hgx]; exact c)); have hwr := hwr.mono (G := fun j => gx ≤ j) (fun j _ c => c.elim id (fun c => Nat.le_trans hgl c.1)); have hgl := Nat.le_trans hgl kw.size)
                | (go_at_call 29; refine (writerTextD_any (fun j => gx ≤ j) (Col col (i + 5)) q L5 da dn dc dat _ hwr (HD.out.kp k4 (fun _ _ c => c)) (fun j c => by have := hc5.out j c; omega) (by omega)).mono ?_; rintro e w' ⟨rfl, hwr, kw⟩; rw [HL6.out] at hwr; have d0 := kw.cell d0 (Nat.not_le.2 hp2); have d1 := kw.cell d1 (Nat.not_le.2 hg2); have d2 := kw.cell d2 (Nat.not_le.2 hg2); have k4 := k4.fin kw (fun j c => Or.inr (by rw [hgx]; exact c)); have hwr := hwr.mono (G := fun j => gx ≤ j) (fun j _ c => c.elim id (fun c => Nat.le_trans hgl c.1)); have hgl := Nat.le_trans hgl kw.size)
                | (go_at_call 28; refine (writerBytes_any (fun j => gx ≤ j) q L6 _ hwr (by omega)).mono ?_; rintro e w' ⟨xo, xc, rfl, hx, kw⟩; have d0 := kw.cell d0 id; have d1 := kw.cell d1 id; have d2 := kw.cell d2 id; have kb := k4; have k4 := k4.trans kw; have hgB0 := fun o : Obj => ((Kp.refl Noone w').alloc o).cell d0 id; have hgB1 := fun o : Obj => ((Kp.refl Noone w').alloc o).cell d1 id; have hgB2 := fun o : Obj => ((Kp.refl Noone w').alloc o).cell d2 id)
                | (refine step_append_gen rfl (.tmp 96) (.tmp 120) 39 (by dsimp only) 31 i0 (.slice none 0 0) 1 24 Try.underlying39 hi hz0 hz1 hz2 rfl fo nf fcap (by rfl) (some ⟨w'.heap.size, 0, none⟩) 1 1 (by rfl) _ _ (fow2.keep (k4.alloc _)) [.slice xo L6.length xc] rfl (Row.ofHeap (heap_alloc_new w' _)) (by intro u hu; simp at hu; subst hu; rfl) (by omega) (by unfold maxLen; omega) ?_; intro ao' cap' w7 ho7 k7; have d0 := k7.cell (hgB0 _) (fun c => absurd (fz1 _ c.1) (Nat.not_le.2 HP.out)); have d1 := k7.cell (hgB1 _) (fun c => absurd (fz1 _ c.1) (Nat.not_le.2 hGl.out)); have d2 := k7.cell (hgB2 _) (fun c => absurd (fz1 _ c.1) (Nat.not_le.2 hGl.out))))
            have hfs : FrsAt w.heap.size w7 ao' (nf + 1) cap' (s.acks.map ackFr ++ datK s.boot s.retry now (baseOf s.out) s.out (k + 1)) := by
              rw [e2.out, HXX.out, ← List.append_assoc]
              exact FrsAt.snoc (by rw [hgx]; exact hsz) (fun j c => fz1 j c.1) fz2 (fun j c => fAD j c.1) (fun j c => by rw [hgx]; exact c.2) fln fhl FD.out kb hx kw ((Kp.refl _ _).alloc _) ho7 k7
            have K7 : Kp (fun j => i < col j ∧ col j ≤ i + 5) w w7 := (KR.trans' (k4.alloc _) (fun _ _ c => c.elim)).trans' k7 (fun j hj c => by have := fz1 j c.1; omega)
            have H7 := (HMK2.out.keep (k4.alloc (.cells #[.slice xo L6.length xc] 31))).far HC.out k7 (fun j c => fz1 j c.1)
            have H8 := Lib.hid H7
            clear H7 hx kw ho7 k7 fow2 d0 d1 d2 hgB0 hgB1 hgB2 k4 kb hwr kD HMK2 KR HXX HX0
            go_wp2_with fail
            go_roundw
            case rel => exact OutR.mk ⟨k + 1, nf + 1, ao', cap', by rfl, by omega, rfl, hfs, H8.out, K7⟩
            case measure => simp [intOf]; omega
        · obtain rfl : k = s.out.length := by omega
          have fln : (s.acks.map ackFr ++ datK s.boot s.retry now (baseOf s.out) s.out s.out.length).length = nf := hfr.bss.len
          have E : (emitF s now).2 = s.acks.map ackFr ++ datK s.boot s.retry now (baseOf s.out) s.out s.out.length := by simp [emitF, datK]
          have E1 : (emitF s now).1 = { s with acks := [], out := outK s.retry now s.out s.out.length } := by simp [emitF, outK_all]
          have hl : (emitF s now).2.length = nf := by rw [E]; exact fln
          have HX : Hid (FrsAt w.heap.size wr fo (emitF s now).2.length fcap (emitF s now).2 ∧ (∃ r', LinkAt col i wr p (emitF s now).1 r') ∧ Kp (fun j => i < col j ∧ col j ≤ i + 5) w wr) := Lib.hid (by
            rw [hl, E, E1]
            exact ⟨hfr, ⟨_, hat⟩, kr⟩)
          have HL' := Lib.hid hl
          clear hl E E1 hfr hat fln
          go_wp2_with fail
          go_ret
          rw [← HL'.out]
          exact ⟨fo, fcap, rfl, HX.out⟩

end Go.Proofs.Ytlpdoefbjhlegaa
