/-
  The texts Acc0, Acc1, Acc2 in one: what the claim reaches of them.
-/
import Derived.Test.YtgbgbokcohfnpaaGreatP18
import Derived.Test.YtgbgbokcohfnpaaGreatP01
import Derived.Deep.MidRow
/-
  AN ACCEPTOR IN MEMORY; the small methods of its state: enter, promiseTo.
-/
namespace Go.Proofs.YtgbgbokcohfnpaaGreat
open Go.RowKit

theorem encI_inj9 : ∀ a c, encI a = encI c → a = c := fun a c h => by cases h; rfl
theorem keyI9 : KeyKind Tryz.prog 3 encI := keyKind_int Tryz.underlying3
def voteV (x : VoteR) (m : VLoc) : Value := .agg #[.int .i64 x.slot, .int .i64 x.bal.round, .int .i64 x.bal.node, .int .i64 x.val.kind, .slice m.co x.val.cmds.length m.cc, .slice m.no x.val.next.length m.nc]
abbrev VoteL := VoteR × VLoc
def voteM (L : List VoteL) : List (Int × Value) := L.map (fun p => (p.1.slot, voteV p.1 p.2))
/-- The colours of an acceptor: its struct c, its map c + 1, what its votes hold c + 2. -/
def SA (c : Nat) : Nat → Prop := fun x => x = c ∨ x = c + 1 ∨ x = c + 2
def acCs (a : AcS) (mb lq : Nat) : Array Value := #[.int .i64 a.epoch, .int .i64 a.floor, .int .i64 a.prom.round, .int .i64 a.prom.node, .map (some mb), .pointer (some ⟨lq, 0, none⟩)]
structure AcP (c : Nat) (col : Nat → Nat) (w : World) (q lq : Nat) (a : AcS) (mb : Nat) (L : List VoteL) : Prop where
  box : w.heap[q]? = some (.cells (acCs a mb lq) 108 (0, 0))
  qc : col q = c
  map : MapIs encI w mb (voteM L)
  mc : col mb = c + 1
  perm : (L.map (·.1)).Perm a.votes
  vals : ∀ p ∈ L, ValOwn (Col col (c + 2)) w p.1.val p.2
def AcAt (c : Nat) (col : Nat → Nat) (w : World) (q lq : Nat) (a : AcS) : Prop := ∃ mb L, AcP c col w q lq a mb L
theorem AcP.keep {c : Nat} {col : Nat → Nat} {w w' : World} {q lq : Nat} {a : AcS} {mb : Nat} {L : List VoteL} (h : AcP c col w q lq a mb L) (k : Kp Noone w w') : AcP c col w' q lq a mb L :=
  ⟨k.heap h.box id, h.qc, h.map.kp k id, h.mc, h.perm, fun p hp => (h.vals p hp).keep k⟩
theorem AcAt.keep {c : Nat} {col : Nat → Nat} {w w' : World} {q lq : Nat} {a : AcS} (h : AcAt c col w q lq a) (k : Kp Noone w w') : AcAt c col w' q lq a := by
  obtain ⟨mb, L, h⟩ := h
  exact ⟨mb, L, h.keep k⟩
theorem ValOwn.ext {B : Nat} {S : Nat → Prop} {col col' : Nat → Nat} {w w' : World} {i : Nat} {v : ValR} {l : VLoc} (h : ValOwn (Col col i) w v l) (e : Ext B S col w col' w') (hi : ¬ S i) : ValOwn (Col col' i) w' v l := by
  have h1 := (h.mono (G := fun j => Col col i j ∧ j < w.heap.size) (fun j hj d => ⟨d, hj⟩)).kp e.kp (fun j d s => by
    have d1 : col j = i := d.1
    rw [d1] at s
    exact hi s)
  exact h1.mono (fun j _ d => (e.old j d.2).trans d.1)
theorem AcP.ext {B c : Nat} {S : Nat → Prop} {col col' : Nat → Nat} {w w' : World} {q lq : Nat} {a : AcS} {mb : Nat} {L : List VoteL} (h : AcP c col w q lq a mb L) (e : Ext B S col w col' w') (h0 : ¬ S c) (h1 : ¬ S (c + 1)) (h2 : ¬ S (c + 2)) : AcP c col' w' q lq a mb L := by
  have hq := (Array.getElem?_eq_some_iff.1 h.box).1
  exact ⟨e.kp.heap h.box (by rw [h.qc]; exact h0), (e.old q hq).trans h.qc, h.map.kp e.kp (by rw [h.mc]; exact h1), (e.old mb h.map.lt).trans h.mc, h.perm, fun p hp => (h.vals p hp).ext e h2⟩
theorem AcAt.ext {B c : Nat} {S : Nat → Prop} {col col' : Nat → Nat} {w w' : World} {q lq : Nat} {a : AcS} (h : AcAt c col w q lq a) (e : Ext B S col w col' w') (h0 : ¬ S c) (h1 : ¬ S (c + 1)) (h2 : ¬ S (c + 2)) : AcAt c col' w' q lq a := by
  obtain ⟨mb, L, h⟩ := h
  exact ⟨mb, L, h.ext e h0 h1 h2⟩
structure Cells6 (w : World) (g : Nat) (a b c d e f : Value) : Prop where
  c0 : w.cell? ⟨g, 0, none⟩ = some a
  c1 : w.cell? ⟨g, 1, none⟩ = some b
  c2 : w.cell? ⟨g, 2, none⟩ = some c
  c3 : w.cell? ⟨g, 3, none⟩ = some d
  c4 : w.cell? ⟨g, 4, none⟩ = some e
  c5 : w.cell? ⟨g, 5, none⟩ = some f
theorem cells_6v {w : World} {g : Nat} {a b c d e f : Value} {T : TypeId} {fr : Nat × Nat} (h : w.heap[g]? = some (.cells #[a, b, c, d, e, f] T fr)) : Cells6 w g a b c d e f :=
  ⟨cell_of_row w g 0 _ T fr h, cell_of_row w g 1 _ T fr h, cell_of_row w g 2 _ T fr h, cell_of_row w g 3 _ T fr h, cell_of_row w g 4 _ T fr h, cell_of_row w g 5 _ T fr h⟩
/-- What a method of the state leaves. -/
structure AcTo (B c : Nat) (col : Nat → Nat) (w : World) (q lq : Nat) (a : AcS) (w' : World) : Prop where
  ex : ∃ col', Ext B (SA c) col w col' w' ∧ AcAt c col' w' q lq a
/-- A new block takes a colour. -/
theorem Ext.one {B : Nat} {S : Nat → Prop} {col : Nat → Nat} {w w' : World} (hc : Cols B w col) (k : Kp (fun j => S (col j)) w w') (g i : Nat) (hg : w.heap.size ≤ g) (hg2 : g < w'.heap.size) (hB : B ≤ w.heap.size) (hi : S i) :
    Ext B S col w (fun j => if j = g then i else col j) w' := by
  refine ⟨fun j hj => ?_, fun j hj => ?_, fun j hj hn => ?_, k⟩
  · by_cases e : j = g
    · subst e; omega
    · rw [if_neg e] at hj
      have := hc j hj
      have := k.size
      omega
  · rw [if_neg (by omega)]
  · by_cases e : j = g
    · rw [if_pos e]; exact hi
    · rw [if_neg e] at hn
      have := hc j hn
      omega
theorem there_at9 {w : World} {g e n : Nat} {cs : Array Value} (h : w.heap[g]? = some (.cells cs e (0, 0))) (o : Nat) (hn : o + n ≤ cs.size) : w.there g o n := by
  intro j hj
  refine ⟨?_, by simp [World.frozen?, h]⟩
  rw [cell_of_row w g (o + j) cs e (0, 0) h, Array.getElem?_eq_getElem (by omega)]
  rfl
theorem info_state : (Tryz.prog.info? 106).map (·.size) = some 5 := by kernel_rfl
/-- The five cells of a state are stored. -/
def putS (w : World) (g : Nat) (p q r s t : Value) : World := w.setCells g 0 [p, q, r, s, t]
theorem five_set {w : World} {g e : Nat} {a b c d x y p q r s t : Value} (h : w.heap[g]? = some (.cells #[a, b, c, d, x, y] e (0, 0))) :
    (putS w g p q r s t).heap[g]? = some (.cells #[p, q, r, s, t, y] e (0, 0)) ∧ Kp (fun j => j = g) w (putS w g p q r s t) :=
  ⟨(heap_set_cell (heap_set_cell (heap_set_cell (heap_set_cell (heap_set_cell h))))).trans (by simp), (((((Kp.refl (fun j => j = g) w).setCell (p := ⟨g, 0, none⟩) (fun _ => rfl) p).setCell (p := ⟨g, 1, none⟩) (fun _ => rfl) q).setCell (p := ⟨g, 2, none⟩) (fun _ => rfl) r).setCell (p := ⟨g, 3, none⟩) (fun _ => rfl) s).setCell (p := ⟨g, 4, none⟩) (fun _ => rfl) t⟩
theorem wpList_store_st {ops : Array Oper} {rest : List Oper} {op : Oper} {a : Act} {w : World} {Q : Exit → Act → World → Prop} (hgd : op.guard = none) (x y : Operand) (ho : op.op = .store 106 x y)
    (g : Nat) (p q r s t : Value) (hx : a.eval x = .pointer (some ⟨g, 0, none⟩)) (hy : a.eval y = .agg #[p, q, r, s, t]) (h1 : ∀ v ∈ [p, q, r, s, t], v.oneCell' = true) {a0 a1 a2 a3 a4 a5 : Value} {T : TypeId} (hb : w.heap[g]? = some (.cells #[a0, a1, a2, a3, a4, a5] T (0, 0)))
    (h : wpList Tryz.prog ops Q rest (a.put op.dst undef) (putS w g p q r s t)) : wpList Tryz.prog ops Q (op :: rest) a w :=
  wpList_store_mid hgd 106 x y ho g 0 #[p, q, r, s, t] hx hy (show w.there g 0 5 from there_at9 (cs := #[a0, a1, a2, a3, a4, a5]) hb 0 (by simp)) info_state (by simpa using h1) h
theorem map_new (w : World) : MapIs encI (w.alloc (.map #[] 0)) w.heap.size [] := ⟨#[], 0, heap_alloc_new w _, ⟨rfl, List.nodup_nil, fun e h => by simp at h, by simp⟩⟩
set_option maxHeartbeats 2000000 in
set_option maxRecDepth 100000 in
theorem enter_a (B c : Nat) (col : Nat → Nat) (w : World) (q lq : Nat) (a : AcS) (ep fl : Int) (h : AcAt c col w q lq a) (hc : Cols B w col) (hB : B ≤ w.heap.size) (_hc0 : c ≠ 0) :
    Calls Tryz.prog 61 #[.pointer (some ⟨q, 0, none⟩), .int .i64 ep, .int .i64 fl] w fun e w' => e = .returned (.tuple #[]) ∧ AcTo B c col w q lq (enterA ep fl) w' := by
  obtain ⟨mb, L, h⟩ := h
  have hb := h.box
  unfold acCs at hb
  have hq := (Array.getElem?_eq_some_iff.1 hb).1
  have hqc := h.qc
  have kA : Kp Noone w (w.alloc (.map #[] 0)) := (Kp.refl _ _).alloc _
  have hbA := kA.heap hb id
  have hm := map_new w
  have hsA : (w.alloc (.map #[] 0)).heap.size = w.heap.size + 1 := by simp
  obtain ⟨x0, x1, x2, x3, x4, x5⟩ := cells_6v hbA
  have xf := frz hbA
  have xf0 := xf 0
  have xf1 := xf 1
  have xf2 := xf 2
  have xf3 := xf 3
  have xf4 := xf 4
  have hfs := five_set (p := .int .i64 ep) (q := .int .i64 fl) (r := .int .i64 0) (s := .int .i64 0) (t := .map (some w.heap.size)) hbA
  have HF : Hid (AcTo B c col w q lq (enterA ep fl) (putS (w.alloc (.map #[] 0)) q (.int .i64 ep) (.int .i64 fl) (.int .i64 0) (.int .i64 0) (.map (some w.heap.size)))) := Lib.hid (by
    have hs := hfs.2.size
    have kk : Kp (fun j => SA c (col j)) w _ := (kA.none (S := fun j => SA c (col j))).trans' (hfs.2) (fun j _ e => by subst e; rw [hqc]; exact Or.inl rfl)
    refine ⟨⟨_, Ext.one hc kk w.heap.size (c + 1) (Nat.le_refl _) (by omega) hB (Or.inr (Or.inl rfl)), w.heap.size, [], hfs.1, ?_, hm.kp hfs.2 (by omega), if_pos rfl, List.Perm.refl _, fun p hp => by cases hp⟩⟩
    rw [if_neg (by omega)]
    exact hqc)
  clear h hb hfs kA hm hc xf x0 x1 x2 x3 x4 x5 xf0 xf1 xf2 xf3 xf4
  have hmm := @run_makeMap Tryz.prog
  go_enter Tryz.func61, Tryz.ntmps61
  go_wp2_with (refine wpList_store_st rfl (.tmp 11) (.tmp 10) rfl q (.int .i64 ep) (.int .i64 fl) (.int .i64 0) (.int .i64 0) (.map (some w.heap.size)) (by rfl) (by rfl) (by simp [Value.oneCell']) hbA ?_)
  go_end0
  exact ⟨rfl, HF.out⟩
theorem two_set2 {w : World} {g e : Nat} {a b c d x y p q : Value} (h : w.heap[g]? = some (.cells #[a, b, c, d, x, y] e (0, 0))) :
    ((w.setCell ⟨g, 2, none⟩ p).setCell ⟨g, 3, none⟩ q).heap[g]? = some (.cells #[a, b, p, q, x, y] e (0, 0)) ∧ Kp (fun j => j = g) w ((w.setCell ⟨g, 2, none⟩ p).setCell ⟨g, 3, none⟩ q) :=
  ⟨(heap_set_cell (heap_set_cell h)).trans (by simp), ((Kp.refl (fun j => j = g) w).setCell (p := ⟨g, 2, none⟩) (fun _ => rfl) p).setCell (p := ⟨g, 3, none⟩) (fun _ => rfl) q⟩
/-- The struct alone changes, and no vote with it. -/
theorem AcP.set {B c : Nat} {col : Nat → Nat} {w w' : World} {q lq : Nat} {a a' : AcS} {mb : Nat} {L : List VoteL} (h : AcP c col w q lq a mb L) (hc : Cols B w col) (_hc0 : c ≠ 0) (k : Kp (fun j => j = q) w w') (hb : w'.heap[q]? = some (.cells (acCs a' mb lq) 108 (0, 0))) (e : a'.votes = a.votes) :
    Ext B (SA c) col w col w' ∧ AcP c col w' q lq a' mb L := by
  have hmc := h.mc
  have hqc := h.qc
  refine ⟨⟨hc.keep k.size, fun _ _ => rfl, fun j hj hn => by have := hc j hn; omega, k.mono (fun j _ a => by subst a; rw [hqc]; exact Or.inl rfl)⟩, ⟨hb, hqc, h.map.kp k (fun d => by subst d; omega), hmc, by rw [e]; exact h.perm, fun p hp => (h.vals p hp).kp k (fun j d d2 => by subst d2; have : col j = c + 2 := d; omega)⟩⟩
set_option maxHeartbeats 2000000 in
set_option maxRecDepth 100000 in
theorem promise_a (B c : Nat) (col : Nat → Nat) (w : World) (q lq : Nat) (a : AcS) (b : BalR) (h : AcAt c col w q lq a) (hc : Cols B w col) (_hB : B ≤ w.heap.size) (hc0 : c ≠ 0) :
    Calls Tryz.prog 93 #[.pointer (some ⟨q, 0, none⟩), .agg #[.int .i64 b.round, .int .i64 b.node]] w fun e w' => e = .returned (.tuple #[]) ∧ AcTo B c col w q lq (promA a b) w' := by
  obtain ⟨mb, L, h⟩ := h
  have hcm := fun W => compare_any b a.prom W
  have hneg := cmpB_pos b a.prom
  obtain ⟨r, n⟩ := b
  have hbx := heap_alloc_new w (.cells #[.int .i64 r, .int .i64 n] 24)
  have kA : Kp Noone w (w.alloc (.cells #[.int .i64 r, .int .i64 n] 24)) := (Kp.refl _ _).alloc _
  have hA := h.keep kA
  have hcA := hc.keep kA.size
  have eA := Ext.quiet (S := SA c) hc kA
  simp only [] at hcm ⊢
  generalize cmpB ⟨r, n⟩ a.prom = z at *
  clear h hc
  go_enter Tryz.func93, Tryz.ntmps93
  go_upto_region 1 with fail
  generalize w.alloc (.cells #[.int .i64 r, .int .i64 n] 24) = wA at *
  generalize hgs : w.heap.size = g at *
  have HEA := Lib.hid eA
  have HA := Lib.hid hA
  have HCA := Lib.hid hcA
  have HBX := Lib.hid hbx
  obtain ⟨b0, b1⟩ := cells_2v hbx
  have hb := hA.box
  unfold acCs at hb
  obtain ⟨x0, x1, x2, x3, x4, x5⟩ := cells_6v hb
  clear eA hA hcA hbx hb kA hgs
  have hS : ∀ W, Kp Noone wA W → (W.cell? ⟨g, 0, none⟩ = some (.int .i64 r) ∧ W.cell? ⟨g, 1, none⟩ = some (.int .i64 n)) ∧ W.cell? ⟨q, 2, none⟩ = some (.int .i64 a.prom.round) ∧ W.cell? ⟨q, 3, none⟩ = some (.int .i64 a.prom.node) := fun W kk => by
    obtain ⟨b0, b1⟩ := cells_2v (kk.heap HBX.out id)
    have hb := (HA.out.keep kk).box
    unfold acCs at hb
    obtain ⟨x0, x1, x2, x3, x4, x5⟩ := cells_6v hb
    exact ⟨⟨b0, b1⟩, x2, x3⟩
  have HS := Lib.hid hS
  have kd : Kp Noone wA wA.drew := (Kp.refl _ _).drew
  clear hS x0 x1 x4 x5
  have HNEG := Lib.hid hneg
  clear hneg
  by_cases hz : 0 < z
  · go_region_held3 (fun w' => (w'.cell? ⟨g, 0, none⟩ = some (.int .i64 r) ∧ w'.cell? ⟨g, 1, none⟩ = some (.int .i64 n)) ∧ w'.cell? ⟨q, 2, none⟩ = some (.int .i64 a.prom.round) ∧ w'.cell? ⟨q, 3, none⟩ = some (.int .i64 a.prom.node))
      (first | with_reducible exact HS.out _ kd | with_reducible exact HS.out _ kk)
      (first | (go_at_call 41; refine (hcm _).mono ?_; rintro e w1 ⟨rfl, k1⟩; have kk := kd.trans k1; clear k1))
    have HA1 := Lib.hid (HA.out.keep kk)
    have HE1 := Lib.hid (HEA.out.trans (Ext.quiet HCA.out kk))
    have HC1 := Lib.hid (HCA.out.keep kk.size)
    obtain ⟨⟨b0, b1⟩, y2, y3⟩ := HS.out _ kk
    have hb1 := HA1.out.box
    unfold acCs at hb1
    have xf := frz hb1
    have xf2 := xf 2
    have xf3 := xf 3
    have HB1 := Lib.hid hb1
    clear kd kk hcm x2 x3 hb1 xf HS
    have hts := two_set2 (p := .int .i64 r) (q := .int .i64 n) HB1.out
    have HF : Hid (AcTo B c col w q lq (promA a ⟨r, n⟩) ((w1.setCell ⟨q, 2, none⟩ (.int .i64 r)).setCell ⟨q, 3, none⟩ (.int .i64 n))) := Lib.hid (by
      have hp : promA a ⟨r, n⟩ = { a with prom := ⟨r, n⟩ } := by unfold promA; rw [if_pos (HNEG.out.1 hz)]
      rw [hp]
      obtain ⟨e9, h9⟩ := HA1.out.set (a' := { a with prom := ⟨r, n⟩ }) HC1.out hc0 hts.2 hts.1 rfl
      exact ⟨⟨col, HE1.out.trans e9, mb, L, h9⟩⟩)
    clear hts
    go_wp2_with fail
    go_end0
    exact ⟨rfl, HF.out⟩
  · go_region_held3 (fun w' => (w'.cell? ⟨g, 0, none⟩ = some (.int .i64 r) ∧ w'.cell? ⟨g, 1, none⟩ = some (.int .i64 n)) ∧ w'.cell? ⟨q, 2, none⟩ = some (.int .i64 a.prom.round) ∧ w'.cell? ⟨q, 3, none⟩ = some (.int .i64 a.prom.node))
      (first | with_reducible exact HS.out _ kd | with_reducible exact HS.out _ kk)
      (first | (go_at_call 41; refine (hcm _).mono ?_; rintro e w1 ⟨rfl, k1⟩; have kk := kd.trans k1; clear k1))
    have HA1 := Lib.hid (HA.out.keep kk)
    have HE1 := Lib.hid (HEA.out.trans (Ext.quiet HCA.out kk))
    have HC1 := Lib.hid (HCA.out.keep kk.size)
    obtain ⟨⟨b0, b1⟩, y2, y3⟩ := HS.out _ kk
    have hb1 := HA1.out.box
    unfold acCs at hb1
    have xf := frz hb1
    have xf2 := xf 2
    have xf3 := xf 3
    have HB1 := Lib.hid hb1
    clear kd kk hcm x2 x3 hb1 xf HS
    have HF : Hid (AcTo B c col w q lq (promA a ⟨r, n⟩) w1) := Lib.hid (by
      have hp : promA a ⟨r, n⟩ = a := by unfold promA; rw [if_neg (fun c => by have := HNEG.out.2 c; omega)]
      rw [hp]
      exact ⟨⟨col, HE1.out, mb, L, HA1.out⟩⟩)
    go_wp2_with fail
    go_end0
    exact ⟨rfl, HF.out⟩

end Go.Proofs.YtgbgbokcohfnpaaGreat

/-
  THE WALK of raise: votes up to a slot go.
-/
namespace Go.Proofs.YtgbgbokcohfnpaaGreat
open Go.RowKit

theorem one_set {w : World} {g e : Nat} {a b c d x y q : Value} (h : w.heap[g]? = some (.cells #[a, b, c, d, x, y] e (0, 0))) :
    (w.setCell ⟨g, 1, none⟩ q).heap[g]? = some (.cells #[a, q, c, d, x, y] e (0, 0)) ∧ Kp (fun j => j = g) w (w.setCell ⟨g, 1, none⟩ q) :=
  ⟨(heap_set_cell h).trans (by simp), (Kp.refl (fun j => j = g) w).setCell (p := ⟨g, 1, none⟩) (fun _ => rfl) q⟩
theorem mem_del9 {k k' : Int} {l : List (Int × Value)} (hn : (l.map (·.1)).Nodup) (h : k' ∈ l.map (·.1)) (hne : k' ≠ k) : k' ∈ (alDel k l).map (·.1) := by
  refine Classical.byContradiction fun c => ?_
  have h1 := (alGet_none _ _).2 c
  rw [alGet_del k k' l hn, if_neg hne, alGet_none] at h1
  exact h1 h
theorem not_mem_del9 {k : Int} {l : List (Int × Value)} (hn : (l.map (·.1)).Nodup) : k ∉ (alDel k l).map (·.1) := by
  rw [← alGet_none, alGet_del k k l hn, if_pos rfl]
theorem alDel_lt9 (k : Int) (l : List (Int × Value)) (h : k ∈ l.map (·.1)) : (alDel k l).length < l.length := by
  induction l with
  | nil => simp at h
  | cons p r ih =>
    unfold alDel
    by_cases e : k = p.1
    · rw [if_pos e]; simp
    · rw [if_neg e]
      simp only [List.map_cons, List.mem_cons] at h
      have := ih (h.resolve_left e)
      simp only [List.length_cons]
      omega
/-- One vote struck out. -/
theorem voteM_del (k : Int) (L : List VoteL) (hn : ((voteM L).map (·.1)).Nodup) : alDel k (voteM L) = voteM (L.filter (fun p => !decide (k = p.1.slot))) := by
  rw [alDel_eq k (voteM L) hn]
  unfold voteM
  rw [List.filter_map]
  rfl
theorem perm_filter {L : List VoteL} {vs : List VoteR} (h : (L.map (·.1)).Perm vs) (p : VoteR → Bool) : ((L.filter (fun x => p x.1)).map (·.1)).Perm (vs.filter p) := by
  have h1 := h.filter p
  rwa [List.filter_map] at h1
theorem mem_key {L : List VoteL} {p : VoteL} (h : p ∈ L) : p.1.slot ∈ (voteM L).map (·.1) := by
  unfold voteM
  rw [List.map_map]
  exact List.mem_map.2 ⟨p, h, rfl⟩
attribute [local irreducible] voteM
set_option maxHeartbeats 4000000 in
set_option maxRecDepth 100000 in
theorem raise_a (B c : Nat) (col : Nat → Nat) (w : World) (q lq : Nat) (a : AcS) (fl : Int) (h : AcAt c col w q lq a) (hc : Cols B w col) (_hB : B ≤ w.heap.size) (hc0 : c ≠ 0) :
    Calls Tryz.prog 47 #[.pointer (some ⟨q, 0, none⟩), .int .i64 fl] w fun e w' => e = .returned (.tuple #[]) ∧ AcTo B c col w q lq (raiseA a fl) w' := by
  obtain ⟨mb, L, h⟩ := h
  have hb := h.box
  unfold acCs at hb
  obtain ⟨x0, x1, x2, x3, x4, x5⟩ := cells_6v hb
  have xf := frz hb
  have xf1 := xf 1
  obtain ⟨ep, f0, pr, vs⟩ := a
  have hos := one_set (q := .int .i64 (max f0 fl)) hb
  have HQ := Lib.hid h.qc
  have HM := Lib.hid h.mc
  obtain ⟨e9, h9⟩ := h.set (a' := ⟨ep, max f0 fl, pr, vs⟩) hc hc0 hos.2 hos.1 rfl
  have HE := Lib.hid e9
  have H9 := Lib.hid h9
  have HRA : Hid (raiseA ⟨ep, f0, pr, vs⟩ fl = ⟨ep, max f0 fl, pr, aboveV vs (max f0 fl)⟩) := Lib.hid rfl
  rw [HRA.out]
  clear h hb xf hos e9 h9 hc HRA
  simp only [] at x0 x1 x2 x3 x4 x5
  go_enter Tryz.func47, Tryz.ntmps47
  go_upto_region 1 with fail
  clear x0 x1 x2 x3 x4 x5 xf1
  generalize hmf : max f0 fl = mf at *
  have HMF := Lib.hid hmf
  clear hmf
  generalize w.setCell ⟨q, 1, none⟩ (.int .i64 mf) = w1 at *
  have hb1 := H9.out.box
  have hm1 := H9.out.map
  unfold acCs at hb1
  simp only [] at hb1
  have HB1 := Lib.hid hb1
  obtain ⟨x0, x1, x2, x3, x4, x5⟩ := cells_6v hb1
  clear hb1 x0 x1 x2 x3 x5
  go_wp2_with (at_range; refine wpList_range_is _ rfl _ 104 rfl 56 Tryz.underlying104 mb (voteM L) rfl hm1 ?_)
  intro w2 hit k2 hsz
  have hq1 := (Array.getElem?_eq_some_iff.1 HB1.out).1
  have hml := hm1.lt
  have H2 := Lib.hid (H9.out.keep k2)
  have HB2 := Lib.hid (k2.heap HB1.out id)
  have HK2 := Lib.hid k2
  have HR := Lib.hid (show w1.heap.size ≠ q ∧ w1.heap.size ≠ mb by omega)
  have HSZ := Lib.hid hsz
  have HNL := Lib.hid hm1.keys
  have HQM : Hid (q ≠ mb) := Lib.hid (fun e => by have h1 := H9.out.mc; have h2 := H9.out.qc; rw [← e] at h1; omega)
  clear hm1 x4 k2 hsz hq1 hml
  have HRS : Hid (w.heap.size ≤ w1.heap.size) := Lib.hid HE.out.size
  generalize hr : w1.heap.size = r at *
  go_wp2_with fail
  go_loopg [4] (voteM L).length (fun g _ wr => ∃ (M : List VoteL) (todo : List (Int × Value)), g = todo.length ∧ (∀ p ∈ M, p ∈ L) ∧ Hid (M.Sublist L) ∧ Iter encI wr r mb (voteM M) todo ∧ Hid (∀ p ∈ L, mf < p.1.slot → p ∈ M) ∧ Hid (∀ p ∈ M, p.1.slot ≤ mf → p.1.slot ∈ todo.map (·.1)) ∧ Hid (Kp (fun j => j = r ∨ j = mb) w2 wr))
  case atStart => exact ⟨L, voteM L, rfl, fun _ h => h, Lib.hid (List.Sublist.refl _), hit, Lib.hid (fun _ h _ => h), Lib.hid (fun p h _ => mem_key h), Lib.hid (Kp.refl _ _)⟩
  case round =>
    obtain ⟨M, todo, hg, hML, hsub, hitr, hab, hbe, kr⟩ := hrel
    have HG := Lib.hid hg
    clear hg hit
    have HHIT := Lib.hid hitr
    go_wp2_with (at_next; refine wpList_next_is _ rfl _ rfl encI_inj9 r mb (voteM M) todo rfl HHIT.out ?_ ?_)
    · intro hdone
      have HF : Hid (AcTo B c col w q lq ⟨ep, mf, pr, aboveV vs mf⟩ wr) := Lib.hid (by
        have hk2 := HK2.out
        have hr2 := HR.out
        have hmm := H2.out.mc
        have hqq := H2.out.qc
        have hqm := HQM.out
        have kk : Kp (fun j => SA c (col j)) w wr := HE.out.kp.fin (((hk2.none (S := fun j => j = r ∨ j = mb)).trans kr.out)) (fun j e => by
          rcases e with e | e
          · exact Or.inr (by have := HRS.out; omega)
          · exact Or.inl (by subst e; rw [hmm]; exact Or.inr (Or.inl rfl)))
        have hcw : Cols B w1 col := HE.out.cols
        have hnL : L.Nodup := nodup_of_map (fun p : VoteL => p.1.slot) (by have := HNL.out; unfold voteM at this; rwa [List.map_map] at this)
        have hnM := hsub.out.nodup hnL
        have hpm : M.Perm (L.filter (fun p => decide (mf < p.1.slot))) := by
          refine (List.perm_ext_iff_of_nodup hnM (hnL.sublist List.filter_sublist)).2 (fun p => ?_)
          rw [List.mem_filter, decide_eq_true_eq]
          constructor
          · intro hp
            refine ⟨hML p hp, ?_⟩
            refine Classical.byContradiction fun cc => ?_
            have := hbe.out p hp (by omega)
            rw [hdone] at this
            simp at this
          · rintro ⟨hp, hs⟩
            exact hab.out p hp hs
        refine ⟨⟨col, ⟨hcw.keep (by have := hk2.size; have := kr.out.size; omega), fun _ _ => rfl, fun j hj hn => by have := HE.out.fresh j hj hn; exact this, kk⟩, mb, M, kr.out.heap HB2.out (by omega), hqq, HHIT.out.map, hmm, ?_, fun p hp => ?_⟩⟩
        · exact (hpm.map (·.1)).trans (perm_filter H2.out.perm (fun v => decide (mf < v.slot)))
        · exact (H2.out.vals p (hML p hp)).kp kr.out (fun j d e => by
            have d1 : col j = c + 2 := d
            rcases e with e | e
            · have := HE.out.cols j (by omega)
              have := HRS.out
              omega
            · subst e; omega))
      clear hdone hML
      go_wp2_with fail
      go_end0
      exact ⟨rfl, by rw [HMF.out]; exact HF.out⟩
    · intro k v w3 hmem hit3 k3 hsz3 hen
      have hnd := HHIT.out.nodup encI_inj9
      have hkm : k ∈ todo.map (·.1) := List.mem_map_of_mem (f := (·.1)) hmem
      have HLT := Lib.hid (alDel_lt9 k todo hkm)
      have HNOT := Lib.hid (not_mem_del9 (k := k) hnd)
      have hbe2 : Hid (∀ p ∈ M, p.1.slot ≤ mf → p.1.slot = k ∨ p.1.slot ∈ (alDel k todo).map (·.1)) := Lib.hid (fun p hp hs => by
        by_cases hk : p.1.slot = k
        · exact Or.inl hk
        · exact Or.inr (mem_del9 hnd (hbe.out p hp hs) hk))
      have HNM := Lib.hid HHIT.out.map.keys
      have HKR : Hid (Kp (fun j => j = r ∨ j = mb) w2 w3) := Lib.hid (kr.out.trans (k3.mono (fun _ _ e => Or.inl e)))
      have hb3 := HKR.out.heap HB2.out (by have := HR.out; have h1 := HQM.out; omega)
      have HB3 := Lib.hid hb3
      have HIT3 := Lib.hid hit3
      obtain ⟨x0, x1, x2, x3, x4, x5⟩ := cells_6v hb3
      unfold encI at hen
      clear hmem hnd hkm hit3 k3 hb3 x0 x2 x3 x5 hsz3 hbe kr HHIT
      by_cases hle : k ≤ mf
      · go_wp2_with (at_delete; refine wpList_delete_iter _ rfl _ _ 104 rfl 56 encI_inj9 keyI9 Tryz.underlying104 r mb (voteM M) _ rfl HIT3.out k HNOT.out rfl ?_)
        intro w4 hit4 k4
        have HIT4 := Lib.hid hit4
        have HKR4 : Hid (Kp (fun j => j = r ∨ j = mb) w2 w4) := Lib.hid (HKR.out.trans (k4.mono (fun _ _ e => Or.inr e)))
        have HLE := Lib.hid hle
        clear hit4 k4 x1 x4 hen hle
        go_wp2_with fail
        go_roundg (alDel k todo).length
        case measure => rw [HG.out]; exact HLT.out
        case rel =>
          have hd := HIT4.out
          rw [voteM_del k M HNM.out] at hd
          refine ⟨M.filter (fun p => !decide (k = p.1.slot)), alDel k todo, rfl, fun p hp => hML p (List.mem_filter.1 hp).1, Lib.hid (List.filter_sublist.trans hsub.out), hd, Lib.hid (fun p hp hs => List.mem_filter.2 ⟨hab.out p hp hs, ?_⟩), Lib.hid (fun p hp hs => ?_), HKR4⟩
          · have := HLE.out
            simp
            omega
          · obtain ⟨h1, h2⟩ := List.mem_filter.1 hp
            have h2 : ¬ k = p.1.slot := by simpa using h2
            exact (hbe2.out p h1 hs).resolve_left (fun e => h2 e.symm)
      · have HLE := Lib.hid hle
        go_wp2_with fail
        go_roundg (alDel k todo).length
        case measure => rw [HG.out]; exact HLT.out
        case rel => exact ⟨M, alDel k todo, rfl, hML, hsub, HIT3.out, hab, Lib.hid (fun p hp hs => (hbe2.out p hp hs).resolve_left (fun e => by have := HLE.out; omega)), HKR⟩

end Go.Proofs.YtgbgbokcohfnpaaGreat

/-
  Votes in a map: got, put; what a value's slices are of.
-/
namespace Go.Proofs.YtgbgbokcohfnpaaGreat
open Go.RowKit

/-- A value whose slices lie in blocks of P. -/
structure ValC (P : Nat → Prop) (w : World) (v : ValR) (l : VLoc) : Prop where
  va : ValAt w v l
  cin : v.cmds ≠ [] → ∀ a, l.co = some a → P a.block ∧ a.block < w.heap.size
  nin : v.next ≠ [] → ∀ a, l.no = some a → P a.block ∧ a.block < w.heap.size
theorem ValC.zero (P : Nat → Prop) (w : World) : ValC P w val0 loc9 := ⟨ValAt.zero w, fun h => (h rfl).elim, fun h => (h rfl).elim⟩
theorem ValC.kp {P S : Nat → Prop} {w w' : World} {v : ValR} {l : VLoc} (h : ValC P w v l) (k : Kp S w w') (hd : ∀ j, P j → ¬ S j) : ValC P w' v l := by
  refine ⟨⟨?_, ?_⟩, fun h0 a e => ⟨(h.cin h0 a e).1, Nat.lt_of_lt_of_le (h.cin h0 a e).2 k.size⟩, fun h0 a e => ⟨(h.nin h0 a e).1, Nat.lt_of_lt_of_le (h.nin h0 a e).2 k.size⟩⟩
  · obtain ⟨h1, h2, h3, h4⟩ := h.va.cmds
    refine ⟨h1, h2, h3, ?_⟩
    by_cases h0 : v.cmds = []
    · rw [h0]; exact Or.inl rfl
    · exact h4.kp k (fun a e => hd _ (h.cin h0 a e).1)
  · obtain ⟨h1, h2, h3, h4⟩ := h.va.next
    refine ⟨h1, h2, h3, ?_⟩
    by_cases h0 : v.next = []
    · rw [h0]; exact Or.inl rfl
    · exact h4.kp k (fun a e => hd _ (h.nin h0 a e).1)
theorem ValC.keep {P : Nat → Prop} {w w' : World} {v : ValR} {l : VLoc} (h : ValC P w v l) (k : Kp Noone w w') : ValC P w' v l := h.kp k (fun _ _ d => d)
theorem ValC.mono {P Q : Nat → Prop} {w : World} {v : ValR} {l : VLoc} (h : ValC P w v l) (hq : ∀ j, j < w.heap.size → P j → Q j) : ValC Q w v l :=
  ⟨h.va, fun h0 a e => ⟨hq _ (h.cin h0 a e).2 (h.cin h0 a e).1, (h.cin h0 a e).2⟩, fun h0 a e => ⟨hq _ (h.nin h0 a e).2 (h.nin h0 a e).1, (h.nin h0 a e).2⟩⟩
theorem ValC.ext {B : Nat} {S : Nat → Prop} {col col' : Nat → Nat} {w w' : World} {v : ValR} {l : VLoc} (h : ValC (fun j => col j = 0) w v l) (e : Ext B S col w col' w') (h0 : ¬ S 0) : ValC (fun j => col' j = 0) w' v l := by
  have h1 := (h.mono (Q := fun j => col j = 0 ∧ j < w.heap.size) (fun j hj d => ⟨d, hj⟩)).kp e.kp (fun j d s => by rw [d.1] at s; exact h0 s)
  exact h1.mono (fun j _ d => (e.old j d.2).trans d.1)
theorem ValOwn.in {F : Nat → Prop} {w : World} {v : ValR} {l : VLoc} (h : ValOwn F w v l) : ValC F w v l := by
  refine ⟨h.at, fun h0 a e => ?_, fun h0 a e => ?_⟩
  · have hl : 0 < (cmdsV v.cmds).length := by rw [length_cmdsV]; have := List.length_pos_iff.2 h0; omega
    obtain ⟨b, off, e1, h1, h2, h3, -⟩ := h.cmds.at (k := 0) hl
    rw [e] at e1
    cases e1
    exact ⟨h1, World.block_lt_of_cell? _ _ h3⟩
  · have hl : 0 < (v.next.map (Value.int .i64)).length := by rw [List.length_map]; exact List.length_pos_iff.2 h0
    obtain ⟨b, off, e1, h1, h2, h3, -⟩ := h.next.at (k := 0) hl
    rw [e] at e1
    cases e1
    exact ⟨h1, World.block_lt_of_cell? _ _ h3⟩

/-! ### One vote of the map -/

theorem voteM_keys {L : List VoteL} : (voteM L).map (·.1) = L.map (fun p => p.1.slot) := by unfold voteM; rw [List.map_map]; rfl
theorem alGet_voteM (s : Int) (L : List VoteL) : alGet s (voteM L) = (L.find? (fun p => decide (p.1.slot = s))).map (fun p => voteV p.1 p.2) := by
  induction L with
  | nil => rfl
  | cons a r ih =>
    have e : voteM (a :: r) = (a.1.slot, voteV a.1 a.2) :: voteM r := rfl
    rw [e, alGet_cons, ih, List.find?_cons]
    by_cases h : s = a.1.slot
    · rw [if_pos h, show decide (a.1.slot = s) = true from decide_eq_true h.symm]
      rfl
    · rw [if_neg h, show decide (a.1.slot = s) = false from decide_eq_false (fun c => h c.symm)]
theorem inj_nodup9 {α β : Type} {f : α → β} {l : List α} (h : (l.map f).Nodup) {a b : α} (ha : a ∈ l) (hb : b ∈ l) (e : f a = f b) : a = b := by
  induction l with
  | nil => cases ha
  | cons c r ih =>
    rw [List.map_cons, List.nodup_cons] at h
    rcases List.mem_cons.1 ha with q1 | q1
    · rcases List.mem_cons.1 hb with q2 | q2
      · rw [q1, q2]
      · exact (h.1 (by rw [← q1, e]; exact List.mem_map_of_mem (f := f) q2)).elim
    · rcases List.mem_cons.1 hb with q2 | q2
      · exact (h.1 (by rw [← q2, ← e]; exact List.mem_map_of_mem (f := f) q1)).elim
      · exact ih h.2 q1 q2
/-- What a look-up finds. -/
theorem get_vote {L : List VoteL} {vs : List VoteR} (hp : (L.map (·.1)).Perm vs) (hn : ((voteM L).map (·.1)).Nodup) (s : Int) :
    (∃ p ∈ L, p.1.slot = s ∧ alGet s (voteM L) = some (voteV p.1 p.2) ∧ getV s vs = some p.1) ∨ (alGet s (voteM L) = none ∧ getV s vs = none) := by
  rw [voteM_keys] at hn
  have huniq : ∀ a ∈ vs, ∀ b ∈ vs, a.slot = b.slot → a = b := by
    have h1 : (vs.map (·.slot)).Nodup := by
      have h2 : (L.map (fun p => p.1.slot)).Perm (vs.map (·.slot)) := by
        have := hp.map (fun v : VoteR => v.slot)
        rwa [List.map_map] at this
      exact h2.nodup hn
    intro a ha b hb e
    exact inj_nodup9 h1 ha hb e
  cases hf : L.find? (fun p => decide (p.1.slot = s)) with
  | some p =>
    have hm := List.mem_of_find?_eq_some hf
    have hs : p.1.slot = s := by simpa using List.find?_some hf
    refine Or.inl ⟨p, hm, hs, by rw [alGet_voteM, hf]; rfl, ?_⟩
    have hv : p.1 ∈ vs := hp.subset (List.mem_map_of_mem (f := (·.1)) hm)
    cases hg : getV s vs with
    | none => exact absurd hs (getV_none hg p.1 hv)
    | some o =>
      obtain ⟨h1, h2⟩ := getV_some hg
      rw [huniq o h1 p.1 hv (by omega)]
  | none =>
    refine Or.inr ⟨by rw [alGet_voteM, hf]; rfl, ?_⟩
    cases hg : getV s vs with
    | none => rfl
    | some o =>
      obtain ⟨h1, h2⟩ := getV_some hg
      obtain ⟨p, hp2, e⟩ := List.mem_map.1 (hp.symm.subset h1)
      have := List.find?_eq_none.1 hf p hp2
      rw [e] at this
      simp [h2] at this
def putL (p : VoteL) : List VoteL → List VoteL
  | [] => [p]
  | a :: r => if p.1.slot = a.1.slot then p :: r else a :: putL p r
theorem voteM_put (p : VoteL) (L : List VoteL) : alPut p.1.slot (voteV p.1 p.2) (voteM L) = voteM (putL p L) := by
  induction L with
  | nil => rfl
  | cons a r ih =>
    have e : voteM (a :: r) = (a.1.slot, voteV a.1 a.2) :: voteM r := rfl
    rw [e]
    unfold alPut putL
    split
    · rfl
    · rw [ih]; rfl
theorem mem_putL {p x : VoteL} {L : List VoteL} (h : x ∈ putL p L) : x = p ∨ x ∈ L := by
  induction L with
  | nil => simp [putL] at h; exact Or.inl h
  | cons a r ih =>
    unfold putL at h
    split at h
    · rcases List.mem_cons.1 h with h | h
      · exact Or.inl h
      · exact Or.inr (List.mem_cons_of_mem _ h)
    · rcases List.mem_cons.1 h with h | h
      · exact Or.inr (by rw [h]; exact List.mem_cons_self ..)
      · exact (ih h).imp id (List.mem_cons_of_mem _)
theorem putL_iff {p : VoteL} {L : List VoteL} (hn : (L.map (fun p => p.1.slot)).Nodup) (v : VoteR) : v ∈ (putL p L).map (·.1) ↔ v = p.1 ∨ v ∈ L.map (·.1) ∧ v.slot ≠ p.1.slot := by
  induction L with
  | nil => simp [putL]
  | cons a r ih =>
    rw [List.map_cons, List.nodup_cons] at hn
    unfold putL
    split
    · rename_i he
      simp only [List.map_cons, List.mem_cons]
      constructor
      · rintro (h | h)
        · exact Or.inl h
        · refine Or.inr ⟨Or.inr h, fun e => hn.1 ?_⟩
          rw [← he, ← e]
          obtain ⟨y, hy, rfl⟩ := List.mem_map.1 h
          exact List.mem_map.2 ⟨y, hy, rfl⟩
      · rintro (h | ⟨h | h, hne⟩)
        · exact Or.inl h
        · rw [h] at hne; exact (hne he.symm).elim
        · exact Or.inr h
    · rename_i he
      rw [List.map_cons, List.mem_cons, ih hn.2, List.map_cons, List.mem_cons]
      constructor
      · rintro (h | h | h)
        · exact Or.inr ⟨Or.inl h, fun e => he (by rw [← e, h])⟩
        · exact Or.inl h
        · exact Or.inr ⟨Or.inr h.1, h.2⟩
      · rintro (h | ⟨h | h, hne⟩)
        · exact Or.inr (Or.inl h)
        · exact Or.inl h
        · exact Or.inr (Or.inr ⟨h, hne⟩)
theorem perm_put {p : VoteL} {L : List VoteL} {vs : List VoteR} (hp : (L.map (·.1)).Perm vs) (hn : ((voteM L).map (·.1)).Nodup) (hn2 : ((voteM (putL p L)).map (·.1)).Nodup) (hu : Up9 vs) : ((putL p L).map (·.1)).Perm (putV p.1 vs) := by
  rw [voteM_keys] at hn hn2
  have h1 : ((putL p L).map (·.1)).Nodup := nodup_of_map (fun v : VoteR => v.slot) (by rw [List.map_map]; exact hn2)
  have h2 : (putV p.1 vs).Nodup := (up_putV hu).imp (fun h e => by subst e; omega)
  refine (List.perm_ext_iff_of_nodup h1 h2).2 (fun v => ?_)
  rw [putL_iff hn, putV_iff hu]
  exact or_congr Iff.rfl (and_congr (hp.mem_iff) Iff.rfl)
theorem zero_vote (w : World) : (zeroValue 56).run Tryz.prog w = .ok (.agg #[.int .i64 0, .int .i64 0, .int .i64 0, .int .i64 0, .slice none 0 0, .slice none 0 0]) w := by kernel_rfl
/-- What is made takes a colour. -/
theorem Ext.born9 {B : Nat} {S : Nat → Prop} {col : Nat → Nat} {w w' : World} (hc : Cols B w col) (hB : B ≤ w.heap.size) (k : Kp Noone w w') (i : Nat) (hi : S i) : Ext B S col w (paint col w w' i) w' := by
  refine ⟨hc.paint hB k.size i, fun j hj => ?_, fun j hj hn => ?_, k.none⟩
  · unfold Proofs.YtgbgbokcohfnpaaGreat.paint
    rw [if_neg (by omega)]
  · unfold Proofs.YtgbgbokcohfnpaaGreat.paint at hn ⊢
    split at hn
    · rename_i c
      rw [if_pos c]; exact hi
    · have := hc j hn
      omega

end Go.Proofs.YtgbgbokcohfnpaaGreat
