/-
  ScriptOps: from the arguments' readings.
-/
import Derived.Test.YtfinbppmkffbhaaDoorOps
import Derived.Test.YtfinbppmkffbhaaDoorReadOp5
import Derived.Test.YtfinbppmkffbhaaDoorScriptTied
namespace Go.Proofs.YtfinbppmkffbhaaDoor
open Go.RowKit

set_option maxRecDepth 100000 in
theorem scriptOps_core {H : Type} {enc : TypeId × Value → H} (W : World) (base : Nat) (v0 : Value) (d0 : DataW H) (p0 : List MemPlace) (v1 : Value) (d1 : DataW H) (p1 : List MemPlace)
    (h0 : DataW.Trod enc Tryd.prog W 0 (fun _ => true) true 24 v0 d0 p0) (h1 : DataW.Trod enc Tryd.prog W 0 (fun _ => true) true 41 v1 d1 p1)
    (g0 : Value.okWide Tryd.prog W .any base 24 v0) (g1 : Value.okWide Tryd.prog W .any base 41 v1) (hbulk : Rows.uptoBulkAll [d0, d1] ≤ 1048576) (hS : LaidS W) :
    Calls Tryd.prog 5 #[v0, v1] W fun e w' => e = .returned (.bool true) ∧ Kp Noone W w' := by
  simp only [Rows.uptoBulkAll] at hbulk
  obtain ⟨o, rfl, -⟩ := arg_op5 h0 g0
  obtain ⟨ao, n, cap, ls, rfl, hss, hn, hb⟩ := arg_ssU h1 g1
  exact ops_walk o ao n cap ls W hss (by omega) (fun l hl => by have := hb l hl; omega) hS

end Go.Proofs.YtfinbppmkffbhaaDoor
