/-
  ScriptBack: from the arguments' readings.
-/
import Derived.Test.YtfinbppmkffbhaaDoorBack
import Derived.Test.YtfinbppmkffbhaaDoorBackPlain
import Derived.Test.YtfinbppmkffbhaaDoorReadCmd
import Derived.Test.YtfinbppmkffbhaaDoorScriptTied
namespace Go.Proofs.YtfinbppmkffbhaaDoor
open Go.RowKit

set_option maxRecDepth 100000 in
theorem scriptBack_core {H : Type} {enc : TypeId × Value → H} (W : World) (base : Nat) (v0 : Value) (d0 : DataW H) (p0 : List MemPlace) (v1 : Value) (d1 : DataW H) (p1 : List MemPlace)
    (h0 : DataW.Trod enc Tryd.prog W 0 (fun _ => true) true 27 v0 d0 p0) (h1 : DataW.Trod enc Tryd.prog W 0 (fun _ => true) true 9 v1 d1 p1)
    (g0 : Value.okWide Tryd.prog W .any base 27 v0) (g1 : Value.okWide Tryd.prog W .any base 9 v1) (hbulk : Rows.uptoBulkAll [d0, d1] ≤ 1048576) (hS : LaidS W) :
    Calls Tryd.prog 4 #[v0, v1] W fun e w' => e = .returned (.bool true) ∧ Kp Noone W w' := by
  simp only [Rows.uptoBulkAll] at hbulk
  obtain ⟨c, l, rfl, hc, hv, hd⟩ := arg_cmd h0 g0 (by omega)
  obtain ⟨s, rfl, rfl, -, -⟩ := Go.ChangeMaps.open_string Tryd.underlying9 g1 h1
  simp only [Rows.uptoBulk] at hbulk
  have hl : s.data.toList.length = s.size := ba_len s
  exact back_walk c l s W hc (by omega) (lineF_len c hv hd hc.nb) hS

end Go.Proofs.YtfinbppmkffbhaaDoor
