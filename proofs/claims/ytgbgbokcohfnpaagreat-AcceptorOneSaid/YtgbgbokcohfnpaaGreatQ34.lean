/-
  The texts Said in one: what the claim reaches of them.
-/
import Derived.Test.YtgbgbokcohfnpaaGreatQ33
import Derived.Test.YtgbgbokcohfnpaaGreatQ32
/-
  WHAT WAS SENT, as a law keeps it: a slice of the law's own, of values that nobody writes.
-/
namespace Go.Proofs.YtgbgbokcohfnpaaGreat
open Go.RowKit

abbrev SentL := SentR × VLoc
def sentCs (p : SentL) : List Value := [.int .i64 p.1.epoch, .int .i64 p.1.bal.round, .int .i64 p.1.bal.node, .int .i64 p.1.slot, .int .i64 p.1.val.kind, .slice p.2.co p.1.val.cmds.length p.2.cc, .slice p.2.no p.1.val.next.length p.2.nc]
def sentV (L : List SentL) : List Value := (L.map sentCs).flatten
theorem length_sentV (L : List SentL) : (sentV L).length = L.length * 7 := by
  induction L with
  | nil => rfl
  | cons a r ih =>
    have : (sentV (a :: r)).length = 7 + (sentV r).length := by unfold sentV; rw [List.map_cons, List.flatten_cons, List.length_append]; rfl
    rw [this, ih, List.length_cons]
    omega
theorem sentV_app (a b : List SentL) : sentV (a ++ b) = sentV a ++ sentV b := by unfold sentV; simp
theorem sentV_get (L : List SentL) (k j : Nat) (hk : k < L.length) (hj : j < 7) : (sentV L)[k * 7 + j]? = (sentCs L[k])[j]? := by
  induction L generalizing k with
  | nil => simp at hk
  | cons a r ih =>
    have e : sentV (a :: r) = sentCs a ++ sentV r := by unfold sentV; simp
    have hl : (sentCs a).length = 7 := rfl
    rw [e]
    cases k with
    | zero =>
      rw [List.getElem?_append_left (by omega)]
      simp
    | succ k =>
      rw [List.getElem?_append_right (by omega), hl, show (k + 1) * 7 + j - 7 = k * 7 + j by omega, ih k (by simpa using hk)]
      rfl
theorem sentCs_one (p : SentL) : ∀ v ∈ sentCs p, v.oneCell' = true := by
  intro u hu
  simp [sentCs] at hu
  rcases hu with rfl | rfl | rfl | rfl | rfl | rfl | rfl <;> rfl
/-- The law's slice of what was sent: its rows in blocks of D, its values in others. -/
structure SentAt (B : Nat) (D : Nat → Prop) (so : Option Addr) (cap : Nat) (S : List SentL) (col : Nat → Nat) (w : World) : Prop where
  own : Own (fun j => B ≤ j ∧ col j = 0 ∧ D j) w 83 7 so S.length cap (sentV S)
  vals : ∀ p ∈ S, ValC (fun j => col j = 0 ∧ ¬ D j) w p.1.val p.2
theorem SentAt.stab (B : Nat) (D : Nat → Prop) (so : Option Addr) (cap : Nat) (S : List SentL) : StabX B (SentAt B D so cap S) := by
  intro col w col' w' e h
  refine ⟨?_, fun p hp => ?_⟩
  · have h1 := (h.own.mono (G := fun j => (B ≤ j ∧ col j = 0 ∧ D j) ∧ j < w.heap.size) (fun j hj d => ⟨d, hj⟩)).kp e.kp (fun j d c => by rw [d.1.2.1] at c; exact sx_zero c)
    exact h1.mono (fun j _ d => ⟨d.1.1, (e.old j d.2).trans d.1.2.1, d.1.2.2⟩)
  · have h1 := ((h.vals p hp).mono (Q := fun j => (col j = 0 ∧ ¬ D j) ∧ j < w.heap.size) (fun j hj d => ⟨d, hj⟩)).kp e.kp (fun j d c => by rw [d.1.1] at c; exact sx_zero c)
    exact h1.mono (fun j _ d => ⟨(e.old j d.2).trans d.1.1, d.1.2⟩)
theorem SentAt.nil (B : Nat) (D : Nat → Prop) (so : Option Addr) (col : Nat → Nat) (w : World) : SentAt B D so 0 [] col w := ⟨Own.nil _ _ _ _ _, fun p hp => by cases hp⟩
/-- One that was sent, its cells. -/
structure Cells7o (w : World) (b o : Nat) (x : SentL) : Prop where
  c0 : w.cell? ⟨b, o, none⟩ = some (.int .i64 x.1.epoch)
  c1 : w.cell? ⟨b, o + 1, none⟩ = some (.int .i64 x.1.bal.round)
  c2 : w.cell? ⟨b, o + 2, none⟩ = some (.int .i64 x.1.bal.node)
  c3 : w.cell? ⟨b, o + 3, none⟩ = some (.int .i64 x.1.slot)
  c4 : w.cell? ⟨b, o + 4, none⟩ = some (.int .i64 x.1.val.kind)
  c5 : w.cell? ⟨b, o + 5, none⟩ = some (.slice x.2.co x.1.val.cmds.length x.2.cc)
  c6 : w.cell? ⟨b, o + 6, none⟩ = some (.slice x.2.no x.1.val.next.length x.2.nc)
theorem SentAt.at {B : Nat} {D : Nat → Prop} {so : Option Addr} {cap : Nat} {S : List SentL} {col : Nat → Nat} {w : World} (h : SentAt B D so cap S col w) {k : Nat} (hk : k < S.length) :
    ∃ b off, so = some ⟨b, off, none⟩ ∧ Cells7o w b (off + k * 7) S[k] ∧ ValAt w S[k].1.val S[k].2 := by
  have hl := length_sentV S
  have hcell : ∀ j (hj : j < 7), ∃ b off, so = some ⟨b, off, none⟩ ∧ w.cell? ⟨b, off + (k * 7 + j), none⟩ = (sentCs S[k])[j]? := by
    intro j hj
    obtain ⟨b, off, e, -, -, h3, -⟩ := h.own.at (k := k * 7 + j) (by omega)
    have := sentV_get S k j hk hj
    rw [List.getElem?_eq_getElem (by omega)] at this
    exact ⟨b, off, e, by rw [h3, this]⟩
  obtain ⟨b, off, e, h0⟩ := hcell 0 (by decide)
  have hc : ∀ j (_ : j < 7), w.cell? ⟨b, off + (k * 7 + j), none⟩ = (sentCs S[k])[j]? := by
    intro j hj
    obtain ⟨b2, o2, e2, h2⟩ := hcell j hj
    rw [e] at e2
    cases e2
    exact h2
  refine ⟨b, off, e, ⟨hc 0 (by decide), ?_, ?_, ?_, ?_, ?_, ?_⟩, (h.vals _ (List.getElem_mem hk)).va⟩
  · rw [Nat.add_assoc]; exact hc 1 (by decide)
  · rw [Nat.add_assoc]; exact hc 2 (by decide)
  · rw [Nat.add_assoc]; exact hc 3 (by decide)
  · rw [Nat.add_assoc]; exact hc 4 (by decide)
  · rw [Nat.add_assoc]; exact hc 5 (by decide)
  · rw [Nat.add_assoc]; exact hc 6 (by decide)
/-- Behind an append: one more. -/
theorem LawY.sent {W : World} {p ql q : Nat} {s : DS} {l : LogP} {a : AcS} {K : Nat} {bs : List (Nat × Obj)} {D : Nat → Prop} {so : Option Addr} {cap : Nat} {S : List SentL} {col : Nat → Nat} {wx w' : World}
    (h : LawY W p ql q s l a K bs (SentAt W.heap.size D so cap S) col wx) (hb : ∀ x ∈ bs, ¬ D x.1) (n : SentL) (hn : ValC (fun j => col j = 0 ∧ ¬ D j) wx n.1.val n.2) {so' : Option Addr} {cap' : Nat}
    (ho : Own (Ex (fun j => W.heap.size ≤ j ∧ col j = 0 ∧ D j) wx w') w' 83 7 so' (S.length + 1) cap' (sentV S ++ sentCs n)) (k : Kp (fun j => W.heap.size ≤ j ∧ col j = 0 ∧ D j) wx w') :
    LawY W p ql q s l a K bs (SentAt W.heap.size (fun j => (D j ∨ wx.heap.size ≤ j) ∧ j < w'.heap.size) so' cap' (S ++ [n])) col w' := by
  refine h.put k (fun j d => ⟨d.1, d.2.1⟩) (fun x hx c => hb x hx c.2.2) ⟨?_, fun x hx => ?_⟩ (SentAt.stab _ _ _ _ _)
  · rw [List.length_append, sentV_app, show sentV [n] = sentCs n from by unfold sentV; simp]
    refine ho.mono (fun j hj d => ?_)
    rcases d with d | d
    · exact ⟨d.1, d.2.1, Or.inl d.2.2, hj⟩
    · exact ⟨by have := h.ext.size; omega, cols_new h.ext.cols d.1, Or.inr d.1, hj⟩
  · have hv : ValC (fun j => col j = 0 ∧ ¬ D j) wx x.1.val x.2 := by
      rcases List.mem_append.1 hx with hx | hx
      · exact h.own.vals x hx
      · rw [List.mem_singleton.1 hx]; exact hn
    have h1 := (hv.mono (Q := fun j => (col j = 0 ∧ ¬ D j) ∧ j < wx.heap.size) (fun j hj d => ⟨d, hj⟩)).kp k (fun j d c => d.1.2 c.2.2)
    exact h1.mono (fun j _ d => ⟨d.1.1, fun c => by
      rcases c.1 with c | c
      · exact d.1.2 c
      · have := d.2
        omega⟩)

end Go.Proofs.YtgbgbokcohfnpaaGreat
