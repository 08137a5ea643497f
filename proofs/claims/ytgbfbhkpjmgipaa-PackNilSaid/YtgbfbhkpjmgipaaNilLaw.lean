/-
  PackNil: of a nil writer and a nil reader everything is nothing.
-/
import Derived.Test.YtgbfbhkpjmgipaaHead
import Derived.Test.YtgbfbhkpjmgipaaRead
namespace Go.Proofs.Ytgbfbhkpjmgipaa
open Go.RowKit

set_option maxHeartbeats 400000
theorem nilNum (u : Int) (w : World) : Calls Try.prog 27 #[.pointer none, .int .u64 u] w fun e w' => e = .returned (.pointer none) ∧ w = w' := by
  go_enter Try.func27, Try.ntmps27
  go_wp2_with fail
  go_ret
  exact ⟨rfl, rfl⟩
theorem nilInt (i : Int) (h0 : -9223372036854775808 ≤ i) (h1 : i ≤ 9223372036854775807) (w : World) : Calls Try.prog 30 #[.pointer none, .int .i64 i] w fun e w' => e = .returned (.pointer none) ∧ w = w' := by
  go_enter Try.func30, Try.ntmps30
  go_wp2_with fail
  refine (fold_any i h0 h1 _).mono ?_
  rintro e w1 ⟨rfl, rfl⟩
  go_wp2_with fail
  refine (nilNum _ _).mono ?_
  rintro e w1 ⟨rfl, rfl⟩
  go_wp2_with fail
  go_ret
  exact ⟨rfl, rfl⟩
theorem nilText (ao : Option Addr) (n cap : Nat) (w : World) : Calls Try.prog 31 #[.pointer none, .slice ao n cap] w fun e w' => e = .returned (.pointer none) ∧ w = w' := by
  go_enter Try.func31, Try.ntmps31
  go_wp2_with fail
  go_ret
  exact ⟨rfl, rfl⟩
theorem nilBytes (w : World) : Calls Try.prog 33 #[.pointer none] w fun e w' => e = .returned (.slice none 0 0) ∧ w = w' := by
  go_enter Try.func33, Try.ntmps33
  go_wp2_with fail
  go_ret
  exact ⟨rfl, rfl⟩
theorem nilRNum (w : World) : Calls Try.prog 35 #[.pointer none] w fun e w' => e = .returned (.int .u64 0) ∧ w = w' := by
  go_enter Try.func35, Try.ntmps35
  go_wp2_with fail
  refine wp_scope_straight ?_
  go_wp2_with fail
  try rw [Exit.noGoto_ret]
  go_ret
  exact ⟨rfl, rfl⟩
theorem nilRInt (w : World) : Calls Try.prog 39 #[.pointer none] w fun e w' => e = .returned (.int .i64 0) ∧ w = w' := by
  go_enter Try.func39, Try.ntmps39
  go_wp2_with fail
  refine (nilRNum _).mono ?_
  rintro e w1 ⟨rfl, rfl⟩
  go_wp2_with fail
  refine (unfold_any 0 (by unfold W64; omega) _).mono ?_
  rintro e w1 ⟨rfl, rfl⟩
  have hz : unfoldN 0 = 0 := rfl
  rw [hz]
  go_wp2_with fail
  go_ret
  exact ⟨rfl, rfl⟩
theorem nilCount (most : Int) (h0 : -9223372036854775808 ≤ most) (h1 : most ≤ 9223372036854775807) (w : World) : Calls Try.prog 42 #[.pointer none, .int .i64 most] w fun e w' => e = .returned (.int .i64 0) ∧ w = w' := by
  go_enter Try.func42, Try.ntmps42
  go_wp2_with fail
  refine (nilRNum _).mono ?_
  rintro e w1 ⟨rfl, rfl⟩
  rcases Int.lt_or_le most 0 with hs | hs
  · go_wp2_with fail
    all_goals (
      go_ret
      exact ⟨rfl, rfl⟩)
  · obtain ⟨t, rfl⟩ := Int.eq_ofNat_of_zero_le hs
    go_wp2_with fail
    all_goals (
      go_ret
      exact ⟨rfl, rfl⟩)
theorem nilRText (most : Int) (h0 : -9223372036854775808 ≤ most) (h1 : most ≤ 9223372036854775807) (w : World) : Calls Try.prog 44 #[.pointer none, .int .i64 most] w fun e w' => e = .returned (.slice none 0 0) ∧ w = w' := by
  go_enter Try.func44, Try.ntmps44
  go_wp2_with fail
  refine (nilCount most h0 h1 _).mono ?_
  rintro e w1 ⟨rfl, rfl⟩
  go_wp2_with fail
  go_ret
  exact ⟨rfl, rfl⟩
theorem nilErr (w : World) : Calls Try.prog 36 #[.pointer none] w fun e w' => e = .returned (.int .i64 1) ∧ w = w' := by
  go_enter Try.func36, Try.ntmps36
  go_wp2_with fail
  go_ret
  exact ⟨rfl, rfl⟩
theorem nilDone (w : World) : Calls Try.prog 37 #[.pointer none] w fun e w' => e = .returned (.int .i64 1) ∧ Kp Noone w w' := by
  go_enter Try.func37, Try.ntmps37
  go_wp2_with fail
  go_quiet (fail)
  go_wp2_with fail
  refine (nilErr _).mono ?_
  rintro e w1 ⟨rfl, rfl⟩
  go_wp2_with fail
  go_ret
  exact ⟨rfl, (Kp.refl _ _).drewN _⟩

theorem packNil_walk (i : Int) (h0 : -9223372036854775808 ≤ i) (h1 : i ≤ 9223372036854775807) (ao : Option Addr) (n cap : Nat) (l : List UInt8) (W : World) (hb : BS W ao n cap l) (hn : n ≤ 140737488353000) :
    Calls Try.prog 13 #[.int .i64 i, .slice ao n cap] W fun e w' => e = .returned (.bool true) ∧ Kp Noone W w' := by
  go_enter Try.func13, Try.ntmps13
  go_wp2_with fail
  refine (head_any _).mono ?_
  rintro e w1 ⟨rfl, k1⟩
  have hb1 := hb.keep k1
  go_wp2_with fail
  refine (nilNum _ _).mono ?_
  rintro e w2 ⟨rfl, rfl⟩
  go_wp2_with fail
  refine (nilInt i h0 h1 _).mono ?_
  rintro e w2 ⟨rfl, rfl⟩
  go_wp2_with fail
  refine (copy_exact ao n cap l _ hb1 (by omega)).mono ?_
  rintro e w2 ⟨rfl, hw2⟩
  obtain ⟨-, k2⟩ := copied2 hw2 hb.len (by unfold maxLen; omega)
  clear hw2
  have K2 := k1.trans k2
  go_wp2_with fail
  refine (nilText _ _ _ _).mono ?_
  rintro e w3 ⟨rfl, rfl⟩
  go_wp2_with fail
  refine (nilBytes _).mono ?_
  rintro e w3 ⟨rfl, rfl⟩
  go_wp2_with fail
  refine (nilRNum _).mono ?_
  rintro e w3 ⟨rfl, rfl⟩
  go_wp2_with fail
  refine (nilRInt _).mono ?_
  rintro e w3 ⟨rfl, rfl⟩
  go_wp2_with fail
  refine (nilCount i h0 h1 _).mono ?_
  rintro e w3 ⟨rfl, rfl⟩
  go_wp2_with fail
  refine (nilRText i h0 h1 _).mono ?_
  rintro e w3 ⟨rfl, rfl⟩
  go_wp2_with fail
  refine (nilErr _).mono ?_
  rintro e w3 ⟨rfl, rfl⟩
  go_wp2_with fail
  refine (nilDone _).mono ?_
  rintro e w3 ⟨rfl, k3⟩
  go_wp2_with fail
  go_ret
  exact ⟨rfl, K2.trans k3⟩

theorem packNil_core {H : Type} {enc : TypeId × Value → H} (W : World) (base : Nat) (v0 : Value) (d0 : DataW H) (p0 : List MemPlace) (v1 : Value) (d1 : DataW H) (p1 : List MemPlace)
    (h0 : DataW.Trod enc Try.prog W 0 (fun _ => true) true 3 v0 d0 p0) (h1 : DataW.Trod enc Try.prog W 0 (fun _ => true) true 24 v1 d1 p1)
    (g0 : Value.okWide Try.prog W .any base 3 v0) (g1 : Value.okWide Try.prog W .any base 24 v1) (_w0 : ∀ n ∈ d0.weights Try.prog 3, n ≤ reachBytes) (w1 : ∀ n ∈ d1.weights Try.prog 24, n ≤ reachBytes) :
    Calls Try.prog 13 #[v0, v1] W fun e w' => e = .returned (.bool true) ∧ Kp Noone W w' := by
  obtain ⟨ao, n, cap, l, rfl, hb, hc⟩ := arg_bytesR h1 g1 w1
  obtain ⟨k, rfl, hk⟩ := arg_int h0 g0
  have := hb.le
  have hkb : -9223372036854775808 ≤ k ∧ k ≤ 9223372036854775807 := by simpa [Lit.wf, IntKind.min, IntKind.max, IntKind.signed, IntKind.bits] using hk
  exact packNil_walk k hkb.1 hkb.2 ao n cap l W hb (by omega)

end Go.Proofs.Ytgbfbhkpjmgipaa
