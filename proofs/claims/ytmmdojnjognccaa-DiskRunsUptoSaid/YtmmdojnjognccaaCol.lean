/-
  PLAIN LEMMAS, NO PROGRAM: colours: which of several owners a block belongs to.
-/
import Derived.Test.YtmmdojnjognccaaApp
namespace Go.Proofs.Ytmmdojnjognccaa
open Go.RowKit

/-- The blocks of one colour. -/
def Col (col : Nat → Nat) (i : Nat) : Nat → Prop := fun k => col k = i
/-- What was made between two worlds takes a colour. -/
def paint (col : Nat → Nat) (w w' : World) (i : Nat) : Nat → Nat := fun k => if w.heap.size ≤ k ∧ k < w'.heap.size then i else col k
/-- Only blocks from B on, and none that is not there, bear a colour (but 0). -/
def Cols (B : Nat) (w : World) (col : Nat → Nat) : Prop := ∀ k, col k ≠ 0 → B ≤ k ∧ k < w.heap.size

theorem Cols.zero (B : Nat) (w : World) : Cols B w (fun _ => 0) := fun _ h => (h rfl).elim
theorem Cols.paint {B : Nat} {w w' : World} {col : Nat → Nat} (h : Cols B w col) (hB : B ≤ w.heap.size) (hs : w.heap.size ≤ w'.heap.size) (i : Nat) : Cols B w' (paint col w w' i) := by
  intro k hk
  unfold Proofs.Ytmmdojnjognccaa.paint at hk
  split at hk
  · omega
  · have := h k hk; omega
theorem Cols.keep {B : Nat} {w w' : World} {col : Nat → Nat} (h : Cols B w col) (hs : w.heap.size ≤ w'.heap.size) : Cols B w' col := fun k hk => by have := h k hk; omega
theorem paint_ex {col : Nat → Nat} {w w' : World} {i k : Nat} (h : Ex (Col col i) w w' k) : Col (paint col w w' i) i k := by
  unfold Col Proofs.Ytmmdojnjognccaa.paint
  rcases h with h | h
  · unfold Col at h; split <;> simp [h]
  · rw [if_pos h]
theorem paint_new {col : Nat → Nat} {w w' : World} {i k : Nat} (h : Ex Noone w w' k) : Col (paint col w w' i) i k := by
  unfold Col Proofs.Ytmmdojnjognccaa.paint
  rw [if_pos h.none]
theorem paint_old {col : Nat → Nat} {w w' : World} {i j k : Nat} (hk : k < w.heap.size) (h : Col col j k) : Col (paint col w w' i) j k := by
  unfold Col Proofs.Ytmmdojnjognccaa.paint at *
  rw [if_neg (by omega)]; exact h
theorem Col.ne {col : Nat → Nat} {i j k : Nat} (hij : i ≠ j) (h : Col col i k) : ¬ Col col j k := fun h' => hij (h.symm.trans h')
theorem Col.lt {B : Nat} {w : World} {col : Nat → Nat} {i k : Nat} (hc : Cols B w col) (hi : i ≠ 0) (h : Col col i k) : B ≤ k ∧ k < w.heap.size := hc k (by unfold Col at h; omega)

/-- The owner that acts. -/
theorem Own.painted {col : Nat → Nat} {w w' : World} {e sz : Nat} {ao : Option Addr} {n cap : Nat} {xs : List Value} {i : Nat} (h : Own (Ex (Col col i) w w') w' e sz ao n cap xs) : Own (Col (paint col w w' i) i) w' e sz ao n cap xs :=
  h.mono (fun _ _ h => paint_ex h)
/-- What is new takes its colour. -/
theorem Own.born {col : Nat → Nat} {w w' : World} {e sz : Nat} {ao : Option Addr} {n cap : Nat} {xs : List Value} {i : Nat} (h : Own (Ex Noone w w') w' e sz ao n cap xs) : Own (Col (paint col w w' i) i) w' e sz ao n cap xs :=
  h.mono (fun _ _ h => paint_new h)
/-- Another owner, while the one of colour i acts. -/
theorem Own.other {B : Nat} {col : Nat → Nat} {w w' : World} {e sz : Nat} {ao : Option Addr} {n cap : Nat} {xs : List Value} {i j : Nat} (h : Own (Col col j) w e sz ao n cap xs) (hc : Cols B w col) (hj : j ≠ 0) (hij : j ≠ i) (k : Kp (Col col i) w w') (i' : Nat) :
    Own (Col (paint col w w' i') j) w' e sz ao n cap xs :=
  (h.kp k (fun _ hb => Col.ne hij hb)).mono (fun _ _ hb => paint_old (Col.lt hc hj hb).2 hb)
/-- Another owner, while something new is made. -/
theorem Own.aside {B : Nat} {col : Nat → Nat} {w w' : World} {e sz : Nat} {ao : Option Addr} {n cap : Nat} {xs : List Value} {j : Nat} (h : Own (Col col j) w e sz ao n cap xs) (hc : Cols B w col) (hj : j ≠ 0) (k : Kp Noone w w') (i' : Nat) :
    Own (Col (paint col w w' i') j) w' e sz ao n cap xs :=
  (h.keep k).mono (fun _ _ hb => paint_old (Col.lt hc hj hb).2 hb)
/-- What is not ours is not touched by an owner's act. -/
theorem Kp.col {B i : Nat} {col : Nat → Nat} {W w w' : World} (h : Kp Noone W w) (hB : W.heap.size ≤ B) (hc : Cols B w col) (hi : i ≠ 0) (k : Kp (Col col i) w w') : Kp Noone W w' :=
  Kp.fin h k (fun j hj => Or.inr (by have := Col.lt hc hi hj; omega))

end Go.Proofs.Ytmmdojnjognccaa
