/-
  AcceptorOne: the walk, of any input.
-/
import Derived.Test.YtgbgbokcohfnpaaGreatOnlyLaw
namespace Go.Proofs.YtgbgbokcohfnpaaGreat
open Go.RowKit Go.ChangeShapes Go.WideShapes Go.ChangeAt

set_option maxRecDepth 100000 in
theorem acceptorOne_core {H : Type} {enc : TypeId × Value → H} (W : World) (base : Nat) (v0 : Value) (d0 : DataW H) (p0 : List MemPlace)
    (h0 : DataW.Trod enc Tryz.prog W 0 (fun _ => true) true 22 v0 d0 p0)
    (g0 : Value.okWide Tryz.prog W .any base 22 v0)
    (w0 : ∀ n ∈ d0.weights Tryz.prog 22, n ≤ reachBytes) :
    Calls Tryz.prog 5 #[v0] W fun e w' => e = .returned (.bool true) ∧ Kp Noone W w' := by
  obtain ⟨ao, n, cap, ps, rfl, hps⟩ := arg_opA h0 g0 w0
  exact only_of tn0.1 tn0.2.1 tn_open ao n cap ps W hps

end Go.Proofs.YtgbgbokcohfnpaaGreat
