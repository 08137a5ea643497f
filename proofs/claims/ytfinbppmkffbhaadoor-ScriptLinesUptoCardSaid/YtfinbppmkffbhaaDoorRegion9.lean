/-
  A region that draws its order, with one frame at its end.
-/
import Derived.Test.YtfinbppmkffbhaaDoorBase2
import Derived.Deep.RegionHeld3
namespace Go.Proofs.YtfinbppmkffbhaaDoor
open Go.RowKit

/-- A region to whose end every order comes with one frame. -/
theorem wp_region_0 {P : Program} {id : Nat} {ops : Array Oper} {b : Bool} {Q : Exit → Act → World → Prop} {a : Act} {w : World} {F : Act} {G : World → Prop}
    (h : (Code.region id ops b).wp P (NoPanic fun e a' w' => e = .normal ∧ a' = F ∧ G w') a w) (k : ∀ w', G w' → Q .normal F w') : (Code.region id ops b).wp P Q a w :=
  Code.wp_mono (fun e a' w' q => by
    obtain ⟨rfl, rfl, hg⟩ := NoPanic.imp e a' w' q
    exact k w' hg) h

end Go.Proofs.YtfinbppmkffbhaaDoor
