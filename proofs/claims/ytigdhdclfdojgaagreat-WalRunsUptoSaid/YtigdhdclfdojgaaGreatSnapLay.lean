/-
  THE WALK of snap: lay.
-/
import Derived.Test.YtigdhdclfdojgaaGreatSnapRead
import Derived.Test.YtigdhdclfdojgaaGreatRefDiskA
namespace Go.Proofs.YtigdhdclfdojgaaGreat
open Go.RowKit

theorem Ext.data {B i : Nat} {col col' : Nat → Nat} {w w' : World} {ao : Option Addr} {n cap : Nat} {l : List UInt8} (x : Ext B (S3 i) col w col' w') (h : DataP (fun j => col j = 0) w ao n cap l) : DataP (fun j => col' j = 0) w' ao n cap l :=
  ((h.mono (Q := fun j => col j = 0 ∧ j < w.heap.size) (fun _ hj c => ⟨c, hj⟩)).kp x.kp (fun _ _ c e => by rw [c.1] at e; unfold S3 at e; omega)).mono (fun j _ c => (x.old j c.2).trans c.1)
theorem Own.data0 {B : Nat} {col : Nat → Nat} {w w' : World} {ao : Option Addr} {n cap : Nat} {l : List UInt8} (h : Own (Ex Noone w w') w' 5 1 ao n cap (bv l)) (hc : Cols B w col) : DataP (fun j => col j = 0) w' ao n cap l :=
  (h.mono (G := fun j => col j = 0) (fun _ _ c => cols_new hc (Ex.none c).1)).dataP

/-- A call that answers an error and leaves a disk. -/
structure ErrTo (B : Nat) (col : Nat → Nat) (i p : Nat) (w : World) (R : DS × Nat) (e : Ending) (w' : World) : Prop where
  ex : ∃ col', e = .returned (.int .i64 (R.2 : Int)) ∧ Ext B (S3 i) col w col' w' ∧ Dk col' i w' p R.1

attribute [local irreducible] dropF appendF syncF

end Go.Proofs.YtigdhdclfdojgaaGreat
