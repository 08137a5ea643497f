/-
  HOW AN ARGUMENT READS that is an int.
-/
import Derived.Test.YtfinbppmkffbhaaDoorRows
import Derived.Test.YtfinbppmkffbhaaDoorBase2
import Derived.ProofKit
import Derived.OpenShut
import Derived.ShutString
import Derived.ChangeOld
import Derived.JoinedCond
import Derived.Deep.Slices
import Derived.SizedLaws
namespace Go.Proofs.YtfinbppmkffbhaaDoor
open Go.ChangeShapes Go.WideShapes Go.ChangeAt Go.RowKit Go.Deep

set_option maxRecDepth 100000 in
theorem arg_i64 {H : Type} {enc : TypeId × Value → H} {W : World} {base : Nat} {v : Value} {d : DataW H} {p : List MemPlace}
    (h : DataW.Trod enc Tryd.prog W 0 (fun _ => true) true 3 v d p) (hv : Value.okWide Tryd.prog W .any base 3 v) :
    ∃ k : Int, v = .int .i64 k ∧ -9223372036854775808 ≤ k ∧ k ≤ 9223372036854775807 := by
  obtain ⟨x, rfl, rfl, rfl, wx⟩ := open_int Tryd.underlying3 hv h
  have hb : -9223372036854775808 ≤ x ∧ x ≤ 9223372036854775807 := by simpa [Lit.wf, IntKind.min, IntKind.max, IntKind.signed, IntKind.bits] using wx
  exact ⟨x, rfl, hb.1, hb.2⟩
theorem kp_same {W w' : World} (h : W = w') : Kp Noone W w' := by subst h; exact Kp.refl _ _

end Go.Proofs.YtfinbppmkffbhaaDoor
