/-
  ScriptLong: from the arguments' readings.
-/
import Derived.Test.YtfinbppmkffbhaaDoorScriptLong
import Derived.Test.YtfinbppmkffbhaaDoorScriptTied
namespace Go.Proofs.YtfinbppmkffbhaaDoor
open Go.RowKit

set_option maxRecDepth 100000 in
theorem scriptLong_core {H : Type} {enc : TypeId × Value → H} (W : World) (base : Nat) (v0 : Value) (d0 : DataW H) (p0 : List MemPlace) (v1 : Value) (d1 : DataW H) (p1 : List MemPlace)
    (h0 : DataW.Trod enc Tryd.prog W 0 (fun _ => true) true 3 v0 d0 p0) (h1 : DataW.Trod enc Tryd.prog W 0 (fun _ => true) true 3 v1 d1 p1)
    (g0 : Value.okWide Tryd.prog W .any base 3 v0) (g1 : Value.okWide Tryd.prog W .any base 3 v1)
    (_w0 : ∀ n ∈ d0.weights Tryd.prog 3, n ≤ reachBytes) (_w1 : ∀ n ∈ d1.weights Tryd.prog 3, n ≤ reachBytes) (hS : LaidS W) :
    Calls Tryd.prog 7 #[v0, v1] W fun e w' => e = .returned (.bool true) ∧ Kp Noone W w' := by
  obtain ⟨k0, rfl, -, -⟩ := arg_i64 h0 g0
  obtain ⟨k1, rfl, a1, b1⟩ := arg_i64 h1 g1
  exact scriptLong_walk k0 k1 W a1 b1 hS

end Go.Proofs.YtfinbppmkffbhaaDoor
