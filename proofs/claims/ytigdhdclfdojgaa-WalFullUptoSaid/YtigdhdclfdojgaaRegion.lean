/-
  REGIONS THAT DRAW THEIR ORDER: the orders meet in one frame, but for some letters.
-/
import Derived.Test.YtigdhdclfdojgaaDiskBase
import Derived.Deep.RegionHeld3
namespace Go.Proofs.Ytigdhdclfdojgaa
open Go.RowKit

/-- A region to whose end every order comes with one frame, but for two letters. -/
theorem wp_region_two {P : Program} {id : Nat} {ops : Array Oper} {b : Bool} {Q : Exit → Act → World → Prop} {a : Act} {w : World} {F : Option Addr → Nat → Act} {G : Option Addr → Nat → World → Prop}
    (h : (Code.region id ops b).wp P (NoPanic fun e a' w' => e = .normal ∧ ∃ ao cap, a' = F ao cap ∧ G ao cap w') a w) (k : ∀ ao cap w', G ao cap w' → Q .normal (F ao cap) w') : (Code.region id ops b).wp P Q a w :=
  Code.wp_mono (fun e a' w' q => by
    obtain ⟨rfl, ao, cap, rfl, hg⟩ := NoPanic.imp e a' w' q
    exact k ao cap w' hg) h

theorem wp_region_four {P : Program} {id : Nat} {ops : Array Oper} {b : Bool} {Q : Exit → Act → World → Prop} {a : Act} {w : World} {F : Option Addr → Nat → Option Addr → Nat → Act} {G : Option Addr → Nat → Option Addr → Nat → World → Prop}
    (h : (Code.region id ops b).wp P (NoPanic fun e a' w' => e = .normal ∧ ∃ xo xc ao cap, a' = F xo xc ao cap ∧ G xo xc ao cap w') a w) (k : ∀ xo xc ao cap w', G xo xc ao cap w' → Q .normal (F xo xc ao cap) w') : (Code.region id ops b).wp P Q a w :=
  Code.wp_mono (fun e a' w' q => by
    obtain ⟨rfl, xo, xc, ao, cap, rfl, hg⟩ := NoPanic.imp e a' w' q
    exact k xo xc ao cap w' hg) h

theorem wp_region_5 {P : Program} {id : Nat} {ops : Array Oper} {b : Bool} {Q : Exit → Act → World → Prop} {a : Act} {w : World} {F : Nat → Option Addr → Nat → Option Addr → Nat → Act} {G : Nat → Option Addr → Nat → Option Addr → Nat → World → Prop}
    (h : (Code.region id ops b).wp P (NoPanic fun e a' w' => e = .normal ∧ ∃ n xo xc ao cap, a' = F n xo xc ao cap ∧ G n xo xc ao cap w') a w) (k : ∀ n xo xc ao cap w', G n xo xc ao cap w' → Q .normal (F n xo xc ao cap) w') : (Code.region id ops b).wp P Q a w :=
  Code.wp_mono (fun e a' w' q => by
    obtain ⟨rfl, n, xo, xc, ao, cap, rfl, hg⟩ := NoPanic.imp e a' w' q
    exact k n xo xc ao cap w' hg) h

end Go.Proofs.Ytigdhdclfdojgaa
