/-
  ScriptTexts: from the arguments' readings.
-/
import Derived.Test.YtfinbppmkffbhaaDoorTexts
import Derived.Test.YtfinbppmkffbhaaDoorReadSS
import Derived.Test.YtfinbppmkffbhaaDoorScriptTied
namespace Go.Proofs.YtfinbppmkffbhaaDoor
open Go.RowKit

set_option maxRecDepth 100000 in
theorem scriptTexts_core {H : Type} {enc : TypeId × Value → H} (W : World) (base : Nat) (v0 : Value) (d0 : DataW H) (p0 : List MemPlace) (v1 : Value) (d1 : DataW H) (p1 : List MemPlace)
    (h0 : DataW.Trod enc Tryd.prog W 0 (fun _ => true) true 41 v0 d0 p0) (h1 : DataW.Trod enc Tryd.prog W 0 (fun _ => true) true 4 v1 d1 p1)
    (g0 : Value.okWide Tryd.prog W .any base 41 v0) (g1 : Value.okWide Tryd.prog W .any base 4 v1)
    (w0 : ∀ n ∈ d0.weights Tryd.prog 41, n ≤ reachBytes) (_w1 : ∀ n ∈ d1.weights Tryd.prog 4, n ≤ reachBytes) (hS : LaidS W) :
    Calls Tryd.prog 6 #[v0, v1] W fun e w' => e = .returned (.bool true) ∧ Kp Noone W w' := by
  obtain ⟨ao, n, cap, ls, rfl, hss, hn, hb⟩ := arg_ss h0 g0 w0
  obtain ⟨b, rfl⟩ := arg_bool h1 g1
  exact texts_walk ao n cap ls b W hss hn hb hS

end Go.Proofs.YtfinbppmkffbhaaDoor
