/-
  ScriptLines: from the argument's reading.
-/
import Derived.Test.YtfinbppmkffbhaaDoorLines
import Derived.Test.YtfinbppmkffbhaaDoorReadCmd
import Derived.Test.YtfinbppmkffbhaaDoorScriptTied
namespace Go.Proofs.YtfinbppmkffbhaaDoor
open Go.RowKit

set_option maxRecDepth 100000 in
theorem scriptLines_core {H : Type} {enc : TypeId × Value → H} (W : World) (base : Nat) (v0 : Value) (d0 : DataW H) (p0 : List MemPlace)
    (h0 : DataW.Trod enc Tryd.prog W 0 (fun _ => true) true 27 v0 d0 p0)
    (g0 : Value.okWide Tryd.prog W .any base 27 v0) (hbulk : Rows.uptoBulkAll [d0] ≤ 1048576) (hS : LaidS W) :
    Calls Tryd.prog 3 #[v0] W fun e w' => e = .returned (.bool true) ∧ Kp Noone W w' := by
  simp only [Rows.uptoBulkAll] at hbulk
  obtain ⟨c, l, rfl, hc, -, -⟩ := arg_cmd h0 g0 (by omega)
  exact lines_walk c l W hc hS

end Go.Proofs.YtfinbppmkffbhaaDoor
