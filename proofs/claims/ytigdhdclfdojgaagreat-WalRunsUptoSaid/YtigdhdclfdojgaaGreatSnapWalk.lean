/-
  THE WALK of snap: area, a paper's bytes, how a paper is read.
-/
import Derived.Test.YtigdhdclfdojgaaGreatSnapPlain
import Derived.Test.YtigdhdclfdojgaaGreatPackSeal
import Derived.Deep.RegionHeld3
namespace Go.Proofs.YtigdhdclfdojgaaGreat
open Go.RowKit

theorem tmod_two (t : Nat) : (t : Int).tmod 2 = ((t % 2 : Nat) : Int) := by
  rw [Int.tmod_eq_emod_of_nonneg (by omega)]
  omega
theorem length_sealL (l : List UInt8) : (sealL l).length = l.length + 8 := by unfold sealL; rw [List.length_append, length_eightL]
theorem length_paperL (t sl sum : Nat) : (paperL t sl sum).length ≤ 35 := by
  have h1 := sizeN_le t
  have h2 := sizeN_le sl
  have h3 := sizeN_le sum
  unfold paperL
  rw [length_sealL, List.length_append, List.length_append, length_numL, length_numL, length_numL]
  omega

end Go.Proofs.YtigdhdclfdojgaaGreat
