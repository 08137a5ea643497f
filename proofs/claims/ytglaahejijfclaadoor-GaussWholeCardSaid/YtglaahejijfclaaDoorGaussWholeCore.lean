/-
  GaussWhole: from an argument as it reads to the walk.
-/
import Derived.Test.YtglaahejijfclaaDoorGaussWhole
import Derived.Test.YtglaahejijfclaaDoorRows
import Derived.ProofKit
import Derived.Laws.Cover2
namespace Go.Proofs.YtglaahejijfclaaDoor
open Go.RowKit Go.ChangeShapes Go.WideShapes

theorem wf64 {x : Nat} (h : (Lit.float .f64 x).wf = true) : x < 18446744073709551616 := by
  have h2 : decide (x < 2 ^ 64) = true := h
  have := of_decide_eq_true h2
  omega

set_option maxRecDepth 100000 in
theorem gaussWhole_core {H : Type} {enc : TypeId × Value → H} (W : World) (base : Nat) (v0 : Value) (d0 : DataW H) (p0 : List MemPlace) (v1 : Value) (d1 : DataW H) (p1 : List MemPlace)
    (h0 : DataW.Trod enc Tryd.prog W 0 (fun _ => true) true 30 v0 d0 p0) (h1 : DataW.Trod enc Tryd.prog W 0 (fun _ => true) true 30 v1 d1 p1)
    (g0 : Value.okWide Tryd.prog W .any base 30 v0) (g1 : Value.okWide Tryd.prog W .any base 30 v1) (_w0 : ∀ n ∈ d0.weights Tryd.prog 30, n ≤ reachBytes) (_w1 : ∀ n ∈ d1.weights Tryd.prog 30, n ≤ reachBytes)
    (_hL : laidMetH Tryd.prog Rows.gaussWholeRow.laid W) :
    Calls Tryd.prog 4 #[v0, v1] W fun e w' => e = .returned (.bool true) ∧ Kp Noone W w' := by
  obtain ⟨x, rfl, -, -, hx⟩ := open_float Tryd.underlying30 g0 h0
  obtain ⟨y, rfl, -, -, hy⟩ := open_float Tryd.underlying30 g1 h1
  exact (gaussWhole_walk x y (wf64 hx) (wf64 hy) W).mono fun e w' h => ⟨h.1, h.2.kp⟩

end Go.Proofs.YtglaahejijfclaaDoor
