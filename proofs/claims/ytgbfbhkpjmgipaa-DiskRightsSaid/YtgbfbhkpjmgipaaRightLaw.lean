/-
  DiskRights: for every text the law returns true, and nothing that was there has changed.
-/
import Derived.Test.YtgbfbhkpjmgipaaRight
import Derived.Test.YtgbfbhkpjmgipaaRead
namespace Go.Proofs.Ytgbfbhkpjmgipaa
open Go.RowKit Go.WideShapes

theorem diskRights_core {H : Type} {enc : TypeId × Value → H} (W : World) (base : Nat) (v0 : Value) (d0 : DataW H) (p0 : List MemPlace)
    (h0 : DataW.Trod enc Try.prog W 0 (fun _ => true) true 9 v0 d0 p0) (g0 : Value.okWide Try.prog W .any base 9 v0) (_w0 : ∀ n ∈ d0.weights Try.prog 9, n ≤ reachBytes) :
    Calls Try.prog 5 #[v0] W fun e w' => e = .returned (.bool true) ∧ Kp Noone W w' := by
  obtain ⟨s, rfl, hs, _⟩ := arg_string h0 g0
  exact diskRights_walk s W hs

end Go.Proofs.Ytgbfbhkpjmgipaa
