/-
  GaussParts, GaussReckons, GaussRules: from an argument as it reads to the walk.
-/
import Derived.Test.YtglaahejijfclaaGaussLaws
import Derived.Test.YtglaahejijfclaaReadI
namespace Go.Proofs.Ytglaahejijfclaa
open Go.RowKit

theorem gaussParts_core {H : Type} {enc : TypeId × Value → H} (W : World) (base : Nat) (v0 : Value) (d0 : DataW H) (p0 : List MemPlace) (v1 : Value) (d1 : DataW H) (p1 : List MemPlace)
    (h0 : DataW.Trod enc Try.prog W 0 (fun _ => true) true 3 v0 d0 p0) (h1 : DataW.Trod enc Try.prog W 0 (fun _ => true) true 3 v1 d1 p1)
    (g0 : Value.okWide Try.prog W .any base 3 v0) (g1 : Value.okWide Try.prog W .any base 3 v1) (_w0 : ∀ n ∈ d0.weights Try.prog 3, n ≤ reachBytes) (_w1 : ∀ n ∈ d1.weights Try.prog 3, n ≤ reachBytes) :
    Calls Try.prog 3 #[v0, v1] W fun e w' => e = .returned (.bool true) ∧ Kp Noone W w' := by
  obtain ⟨k0, rfl, a0, b0⟩ := arg_i64 h0 g0
  obtain ⟨k1, rfl, a1, b1⟩ := arg_i64 h1 g1
  exact (gaussParts_walk k0 k1 W).mono fun e w' h => ⟨h.1, kp_same h.2⟩

theorem gaussReckons_core {H : Type} {enc : TypeId × Value → H} (W : World) (base : Nat) (v0 : Value) (d0 : DataW H) (p0 : List MemPlace) (v1 : Value) (d1 : DataW H) (p1 : List MemPlace) (v2 : Value) (d2 : DataW H) (p2 : List MemPlace) (v3 : Value) (d3 : DataW H) (p3 : List MemPlace) (v4 : Value) (d4 : DataW H) (p4 : List MemPlace)
    (h0 : DataW.Trod enc Try.prog W 0 (fun _ => true) true 3 v0 d0 p0) (h1 : DataW.Trod enc Try.prog W 0 (fun _ => true) true 3 v1 d1 p1) (h2 : DataW.Trod enc Try.prog W 0 (fun _ => true) true 3 v2 d2 p2) (h3 : DataW.Trod enc Try.prog W 0 (fun _ => true) true 3 v3 d3 p3) (h4 : DataW.Trod enc Try.prog W 0 (fun _ => true) true 3 v4 d4 p4)
    (g0 : Value.okWide Try.prog W .any base 3 v0) (g1 : Value.okWide Try.prog W .any base 3 v1) (g2 : Value.okWide Try.prog W .any base 3 v2) (g3 : Value.okWide Try.prog W .any base 3 v3) (g4 : Value.okWide Try.prog W .any base 3 v4) (_w0 : ∀ n ∈ d0.weights Try.prog 3, n ≤ reachBytes) (_w1 : ∀ n ∈ d1.weights Try.prog 3, n ≤ reachBytes) (_w2 : ∀ n ∈ d2.weights Try.prog 3, n ≤ reachBytes) (_w3 : ∀ n ∈ d3.weights Try.prog 3, n ≤ reachBytes) (_w4 : ∀ n ∈ d4.weights Try.prog 3, n ≤ reachBytes) :
    Calls Try.prog 4 #[v0, v1, v2, v3, v4] W fun e w' => e = .returned (.bool true) ∧ Kp Noone W w' := by
  obtain ⟨k0, rfl, a0, b0⟩ := arg_i64 h0 g0
  obtain ⟨k1, rfl, a1, b1⟩ := arg_i64 h1 g1
  obtain ⟨k2, rfl, a2, b2⟩ := arg_i64 h2 g2
  obtain ⟨k3, rfl, a3, b3⟩ := arg_i64 h3 g3
  obtain ⟨k4, rfl, a4, b4⟩ := arg_i64 h4 g4
  exact (gaussReckons_walk k0 k1 k2 k3 k4 W ⟨a4, b4⟩).mono fun e w' h => ⟨h.1, kp_same h.2⟩

theorem gaussRules_core {H : Type} {enc : TypeId × Value → H} (W : World) (base : Nat) (v0 : Value) (d0 : DataW H) (p0 : List MemPlace) (v1 : Value) (d1 : DataW H) (p1 : List MemPlace) (v2 : Value) (d2 : DataW H) (p2 : List MemPlace) (v3 : Value) (d3 : DataW H) (p3 : List MemPlace) (v4 : Value) (d4 : DataW H) (p4 : List MemPlace)
    (h0 : DataW.Trod enc Try.prog W 0 (fun _ => true) true 3 v0 d0 p0) (h1 : DataW.Trod enc Try.prog W 0 (fun _ => true) true 3 v1 d1 p1) (h2 : DataW.Trod enc Try.prog W 0 (fun _ => true) true 3 v2 d2 p2) (h3 : DataW.Trod enc Try.prog W 0 (fun _ => true) true 3 v3 d3 p3) (h4 : DataW.Trod enc Try.prog W 0 (fun _ => true) true 3 v4 d4 p4)
    (g0 : Value.okWide Try.prog W .any base 3 v0) (g1 : Value.okWide Try.prog W .any base 3 v1) (g2 : Value.okWide Try.prog W .any base 3 v2) (g3 : Value.okWide Try.prog W .any base 3 v3) (g4 : Value.okWide Try.prog W .any base 3 v4) (_w0 : ∀ n ∈ d0.weights Try.prog 3, n ≤ reachBytes) (_w1 : ∀ n ∈ d1.weights Try.prog 3, n ≤ reachBytes) (_w2 : ∀ n ∈ d2.weights Try.prog 3, n ≤ reachBytes) (_w3 : ∀ n ∈ d3.weights Try.prog 3, n ≤ reachBytes) (_w4 : ∀ n ∈ d4.weights Try.prog 3, n ≤ reachBytes) :
    Calls Try.prog 5 #[v0, v1, v2, v3, v4] W fun e w' => e = .returned (.bool true) ∧ Kp Noone W w' := by
  obtain ⟨k0, rfl, a0, b0⟩ := arg_i64 h0 g0
  obtain ⟨k1, rfl, a1, b1⟩ := arg_i64 h1 g1
  obtain ⟨k2, rfl, a2, b2⟩ := arg_i64 h2 g2
  obtain ⟨k3, rfl, a3, b3⟩ := arg_i64 h3 g3
  obtain ⟨k4, rfl, a4, b4⟩ := arg_i64 h4 g4
  exact (gaussRules_walk k0 k1 k2 k3 k4 W).mono fun e w' h => ⟨h.1, kp_same h.2⟩

end Go.Proofs.Ytglaahejijfclaa
