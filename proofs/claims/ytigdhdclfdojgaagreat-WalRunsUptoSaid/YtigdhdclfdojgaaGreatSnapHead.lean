/-
  THE WALK of the laws' head (snap).
-/
import Derived.Test.YtigdhdclfdojgaaGreatSnapClean
import Derived.Test.YtigdhdclfdojgaaGreatRefDiskA
namespace Go.Proofs.YtigdhdclfdojgaaGreat
open Go.RowKit

def sh1 : DS := (saveF (newF 1000) 5 [97, 98, 99]).1
def sh2 : DS := (saveF sh1 9 [100]).1
theorem sh_1 : (saveF (newF 1000) 5 [97, 98, 99]).2 = 0 := by decide +kernel
theorem sh_2 : (saveF sh1 9 [100]).2 = 0 := by decide +kernel
theorem sh_3 : loadF sh2 = (9, [100], true, 0) := by decide +kernel
theorem listF_length (s : DS) : (listF s).length = if s.down = true then 0 else s.areas.length := by
  unfold listF
  split
  · rfl
  · unfold namesF
    rw [sortN_length, List.length_map]
theorem sh_4 : (listF sh2).length = 2 := by
  rw [listF_length]
  decide +kernel
theorem sh_s : (newF 1000).steps < 4611686018427387000 ∧ sh1.steps < 4611686018427387000 := by decide +kernel
theorem sh_e1 : (saveF (newF 1000) 5 [97, 98, 99]).1 = sh1 := rfl
theorem sh_e2 : (saveF sh1 9 [100]).1 = sh2 := rfl

attribute [local irreducible] saveF loadF newF listF sh1 sh2

end Go.Proofs.YtigdhdclfdojgaaGreat
