/-
  THE WALK of snap: Save.
-/
import Derived.Test.YtigdhdclfdojgaaGreatSnapLay
import Derived.Test.YtigdhdclfdojgaaGreatRefDiskC
namespace Go.Proofs.YtigdhdclfdojgaaGreat
open Go.RowKit

attribute [local irreducible] putP layF currentF moveF dropF paperL

end Go.Proofs.YtigdhdclfdojgaaGreat
