/-
  REGIONS THAT DRAW THEIR ORDER: the orders meet in one frame, but for some letters.
-/
import Derived.Test.YtigdhdclfdojgaaGreatSnapRefAll
import Derived.Test.YtigdhdclfdojgaaGreatDiskBase
import Derived.Deep.RegionHeld3
namespace Go.Proofs.YtigdhdclfdojgaaGreat
open Go.RowKit

end Go.Proofs.YtigdhdclfdojgaaGreat
