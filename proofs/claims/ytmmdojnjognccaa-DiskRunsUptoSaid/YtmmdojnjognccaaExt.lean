/-
  FROM ONE WORLD TO A LATER ONE: what a call leaves of the blocks of other colours.
-/
import Derived.Test.YtmmdojnjognccaaCol
import Derived.Test.YtmmdojnjognccaaSame
namespace Go.Proofs.Ytmmdojnjognccaa
open Go.RowKit

/-- From one world to a later one: blocks of certain colours alone change, new blocks bear these or none. -/
structure Ext (B : Nat) (S : Nat → Prop) (col : Nat → Nat) (w : World) (col' : Nat → Nat) (w' : World) : Prop where
  cols : Cols B w' col'
  old : ∀ k, k < w.heap.size → col' k = col k
  fresh : ∀ k, w.heap.size ≤ k → col' k ≠ 0 → S (col' k)
  kp : Kp (fun j => S (col j)) w w'
theorem Ext.quiet {B : Nat} {S : Nat → Prop} {col : Nat → Nat} {w w' : World} (hc : Cols B w col) (k : Kp Noone w w') : Ext B S col w col w' :=
  ⟨hc.keep k.size, fun _ _ => rfl, fun k hk hn => by have := hc k hn; omega, k.none⟩
theorem Ext.mono {B : Nat} {S T : Nat → Prop} {col col' : Nat → Nat} {w w' : World} (h : Ext B S col w col' w') (hs : ∀ c, S c → T c) : Ext B T col w col' w' :=
  ⟨h.cols, h.old, fun k a b => hs _ (h.fresh k a b), h.kp.mono (fun _ _ c => hs _ c)⟩
theorem Ext.trans {B : Nat} {S : Nat → Prop} {col col' col2 : Nat → Nat} {w w' w2 : World} (h : Ext B S col w col' w') (k : Ext B S col' w' col2 w2) : Ext B S col w col2 w2 := by
  have s1 := h.kp.size
  refine ⟨k.cols, fun j hj => (k.old j (by omega)).trans (h.old j hj), fun j hj hn => ?_, h.kp.trans' k.kp (fun j hj c => by rw [h.old j hj] at c; exact c)⟩
  by_cases hk : j < w'.heap.size
  · rw [k.old j hk] at hn ⊢
    exact h.fresh j hj hn
  · exact k.fresh j (by omega) hn
theorem Ext.size {B : Nat} {S : Nat → Prop} {col col' : Nat → Nat} {w w' : World} (h : Ext B S col w col' w') : w.heap.size ≤ w'.heap.size := h.kp.size
theorem Ext.drewN {B : Nat} {S : Nat → Prop} {col col' : Nat → Nat} {w w' : World} (h : Ext B S col w col' w') (n : Nat) : Ext B S col w col' (w'.drewN n) := ⟨h.cols, h.old, h.fresh, h.kp.drewN n⟩

/-! ### Cells -/

theorem cells_two {w : World} {p e : Nat} {a b : Value} (h : w.heap[p]? = some (.cells #[a, b] e (0, 0))) :
    w.cell? ⟨p, 0, none⟩ = some a ∧ w.cell? ⟨p, 1, none⟩ = some b ∧ w.frozen? ⟨p, 0, none⟩ = false ∧ w.frozen? ⟨p, 1, none⟩ = false := by
  refine ⟨?_, ?_, ?_, ?_⟩
  · rw [cell_of_row w p 0 _ e (0, 0) h]; rfl
  · rw [cell_of_row w p 1 _ e (0, 0) h]; rfl
  all_goals simp [World.frozen?, h]

theorem set_off {w : World} {g p : Nat} {o : Obj} (h : w.heap[p]? = some o) (hne : g ≠ p) (i : Nat) (u : Value) : (w.setCell ⟨g, i, none⟩ u).heap[p]? = some o := by
  simp [World.setCell, Array.getElem?_modify, hne, h]

theorem kp_new {w w1 : World} (k : Kp Noone w w1) {g : Nat} (hg : w.heap.size ≤ g) (i : Nat) (u : Value) : Kp Noone w (w1.setCell ⟨g, i, none⟩ u) :=
  Kp.setCell (p := ⟨g, i, none⟩) k (fun h => by have h' : g < w.heap.size := h; omega) u

theorem copied2 {w w' : World} {n : Nat} {l : List UInt8} (h : w' = w.alloc (.cells (bv l).toArray 5)) (hl : l.length = n) (hn : n ≤ maxLen) : BS w' (some ⟨w.heap.size, 0, none⟩) n n l ∧ Kp Noone w w' := by
  subst h
  exact ⟨BS.ofHeap (heap_alloc_new _ _) hl hn, (Kp.refl _ _).alloc _⟩

end Go.Proofs.Ytmmdojnjognccaa
