/-
  THE WALKS of package gauss at any complex number: what isn't whole is refused.
-/
import Derived.Test.YtglaahejijfclaaDoorGaussTurn
import Derived.Test.YtglaahejijfclaaDoorFloatRun
namespace Go.Proofs.YtglaahejijfclaaDoor
open Go.RowKit

/-- Only answers were drawn. -/
def Dr (w w' : World) : Prop := ∃ q, w' = w.drewN q
theorem Dr.refl (w : World) : Dr w w := ⟨0, rfl⟩
theorem Dr.trans {a b c : World} (h : Dr a b) (k : Dr b c) : Dr a c := by
  obtain ⟨q, rfl⟩ := h
  obtain ⟨r, rfl⟩ := k
  exact ⟨_, World.drewN_drewN _ _ _⟩
theorem Dr.same {a b : World} (h : a = b) : Dr a b := by subst h; exact Dr.refl _
theorem Dr.kp {a b : World} (h : Dr a b) : Kp Noone a b := by
  obtain ⟨q, rfl⟩ := h
  exact (Kp.refl _ _).drewN q

set_option maxHeartbeats 400000 in
theorem trunc_no (x : Nat) (hx : x < 18446744073709551616) (hno : NoW x) (w : World) :
    Calls Tryd.prog 29 #[.float .f64 x] w fun e w' => ∃ r, e = .returned (.float .f64 r) ∧ Dr w w' ∧ Hid ((FloatKind.f64.format.order r x == some .eq) = false ∨ (FloatKind.f64.format.order (x % 9223372036854775808) 4697254411347427328 == some .gt) = true) := by
  obtain ⟨r, q, hrun, hc⟩ := trunc_gen x hx hno Tryd.prog w
  have HC := Lib.hid hc
  have hcall : (callFunc 40 #[.float .f64 x]).run Tryd.prog w = .ok (.value (.float .f64 r)) (w.drewN q) := by
    rw [run_callFunc_extern Tryd.func40 (by kernel_rfl) (by kernel_rfl) (by kernel_rfl) (e := Extern.MathFloor.toIntegral "math.archTrunc" .zero) (by kernel_rfl), hrun]; rfl
  clear hrun hc
  go_enter Tryd.func29, Tryd.ntmps29
  go_wp2_with fail
  go_ret
  exact ⟨r, rfl, ⟨q, rfl⟩, HC⟩

set_option maxHeartbeats 400000 in
theorem abs_word (x : Nat) (w : World) (hx : x < 18446744073709551616) : Calls Tryd.prog 30 #[.float .f64 x] w fun e w' => e = .returned (.float .f64 (x % 9223372036854775808)) ∧ w = w' := by
  have h1 : ∀ W : World, (callFunc 43 #[.float .f64 x]).run Tryd.prog W = .ok (.value (.int .u64 (x : Int))) W := fun W => by
    rw [run_callFunc_extern Tryd.func43 (by kernel_rfl) (by kernel_rfl) (by kernel_rfl) (e := Extern.MathFloatBits.float64bits) (by kernel_rfl)]; rfl
  have h2 : ∀ W : World, (callFunc 42 #[.int .u64 (bits .andNot .u64 (x : Int) 9223372036854775808)]).run Tryd.prog W = .ok (.value (.float .f64 (x % 9223372036854775808))) W := fun W => by
    rw [u64_andNot_high x hx, run_callFunc_extern Tryd.func42 (by kernel_rfl) (by kernel_rfl) (by kernel_rfl) (e := Extern.MathFloatBits.float64frombits) (by kernel_rfl)]; rfl
  go_enter Tryd.func30, Tryd.ntmps30
  go_wp2_with fail
  go_ret
  exact ⟨rfl, rfl⟩

set_option maxHeartbeats 1000000 in
theorem whole_no (x : Nat) (hx : x < 18446744073709551616) (hno : NoW x) (w : World) :
    Calls Tryd.prog 23 #[.float .f64 x] w fun e w' => e = .returned (.tuple #[.int .i64 0, .bool false]) ∧ Dr w w' := by
  go_enter Tryd.func23, Tryd.ntmps23
  go_wp2_with fail
  refine (trunc_no x hx hno _).mono ?_
  rintro e w1 ⟨r, rfl, hd, hc⟩
  cases h1 : (FloatKind.f64.format.order r x == some .eq) with
  | false =>
    have h1' : (FloatKind.f64.format.order r x != some .eq) = true := by unfold bne; rw [h1]; rfl
    clear h1
    go_wp2_with fail
    go_ret2
    exact ⟨rfl, hd⟩
  | true =>
    have h2 : (FloatKind.f64.format.order (x % 9223372036854775808) 4697254411347427328 == some .gt) = true := by
      rcases hc.out with h | h
      · rw [h1] at h; cases h
      · exact h
    have h1' : (FloatKind.f64.format.order r x != some .eq) = false := by unfold bne; rw [h1]; rfl
    clear h1
    go_wp2_with fail
    refine (abs_word x _ hx).mono ?_
    rintro e w2 ⟨rfl, rfl⟩
    go_wp2_with fail
    go_ret2
    exact ⟨rfl, hd⟩

theorem whole_some (x : Nat) (hx : x < 18446744073709551616) (w : World) :
    Calls Tryd.prog 23 #[.float .f64 x] w fun e w' => ∃ n b, e = .returned (.tuple #[.int .i64 n, .bool b]) ∧ Dr w w' ∧ (NoW x → n = 0 ∧ b = false) := by
  by_cases h : NoW x
  · exact (whole_no x hx h w).mono fun e w' ⟨he, hd⟩ => ⟨0, false, he, hd, fun _ => ⟨rfl, rfl⟩⟩
  · obtain ⟨n, hn, hb⟩ : ∃ n, FI x n ∧ (-1048576 ≤ n ∧ n ≤ 1048576) := by
      unfold NoW at h
      simp only [Classical.not_forall, Classical.not_not] at h
      obtain ⟨n, h1, h2⟩ := h
      exact ⟨n, h1, h2⟩
    refine (whole_any x n w hn (by omega)).mono fun e w' ⟨he, hd⟩ => ⟨n, true, ?_, Dr.same hd, fun c => (h c).elim⟩
    rw [he, wholeT_in hb]

set_option maxHeartbeats 1000000 in
theorem parts_some (a b : Nat) (ha : a < 18446744073709551616) (hb : b < 18446744073709551616) (w : World) :
    Calls Tryd.prog 11 #[.complex .f64 a b] w fun e w' => ∃ n m ok, e = .returned (.tuple #[.int .i64 n, .int .i64 m, .bool ok]) ∧ Dr w w' ∧ (NoW a ∨ NoW b → n = 0 ∧ m = 0 ∧ ok = false) := by
  go_enter Tryd.func11, Tryd.ntmps11
  go_wp2_with fail
  refine (whole_some a ha _).mono ?_
  rintro e w1 ⟨n, o1, rfl, d1, c1⟩
  have C1 := Lib.hid c1
  clear c1
  go_wp2_with fail
  refine (whole_some b hb _).mono ?_
  rintro e w2 ⟨m, o2, rfl, d2, c2⟩
  have C2 := Lib.hid c2
  clear c2
  cases o1 with
  | false =>
    go_wp2_with fail
    go_ret3
    exact ⟨0, 0, false, rfl, d1.trans d2, fun _ => ⟨rfl, rfl, rfl⟩⟩
  | true =>
    cases o2 with
    | false =>
      go_wp2_with fail
      go_ret3
      exact ⟨0, 0, false, rfl, d1.trans d2, fun _ => ⟨rfl, rfl, rfl⟩⟩
    | true =>
      go_wp2_with fail
      go_ret3
      refine ⟨n, m, true, rfl, d1.trans d2, fun h => ?_⟩
      rcases h with h | h
      · have := (C1.out h).2; cases this
      · have := (C2.out h).2; cases this

theorem parts_no (a b : Nat) (ha : a < 18446744073709551616) (hb : b < 18446744073709551616) (h : NoW a ∨ NoW b) (w : World) :
    Calls Tryd.prog 11 #[.complex .f64 a b] w fun e w' => e = .returned (.tuple #[.int .i64 0, .int .i64 0, .bool false]) ∧ Dr w w' :=
  (parts_some a b ha hb w).mono fun e w' ⟨n, m, ok, he, hd, hc⟩ => by
    obtain ⟨rfl, rfl, rfl⟩ := hc h
    exact ⟨he, hd⟩

/-- A refused number. -/
def noT : Value := .tuple #[.complex .f64 0 0, .bool false]

set_option maxHeartbeats 1000000 in
theorem right_no (ok : Bool) (a b : Nat) (ha : a < 18446744073709551616) (hb : b < 18446744073709551616) (h : ok = false ∨ NoW a ∨ NoW b) (w : World) :
    Calls Tryd.prog 20 #[.complex .f64 a b, .bool ok] w fun e w' => e = .returned (.tuple #[.complex .f64 0 0, .bool false]) ∧ Dr w w' := by
  have H := Lib.hid h
  clear h
  go_enter Tryd.func20, Tryd.ntmps20
  go_wp2_with fail
  refine (parts_some a b ha hb _).mono ?_
  rintro e w1 ⟨n, m, o, rfl, hd, hc⟩
  have HC := Lib.hid hc
  clear hc
  cases o with
  | false =>
    cases ok <;> (go_wp2_with fail; go_ret2; exact ⟨rfl, hd⟩)
  | true =>
    obtain rfl : ok = false := by
      rcases H.out with h | h
      · exact h
      · have := (HC.out h).2.2; cases this
    go_wp2_with fail
    go_ret2
    exact ⟨rfl, hd⟩

set_option maxHeartbeats 1000000 in
theorem both_no (a b c d : Nat) (ha : a < 18446744073709551616) (hb : b < 18446744073709551616) (hc : c < 18446744073709551616) (hd : d < 18446744073709551616) (h : (NoW a ∨ NoW b) ∨ (NoW c ∨ NoW d)) (w : World) :
    Calls Tryd.prog 21 #[.complex .f64 a b, .complex .f64 c d] w fun e w' => e = .returned (.bool false) ∧ Dr w w' := by
  have H := Lib.hid h
  clear h
  go_enter Tryd.func21, Tryd.ntmps21
  go_wp2_with fail
  refine (parts_some a b ha hb _).mono ?_
  rintro e w1 ⟨n, m, o, rfl, d1, hc1⟩
  have C1 := Lib.hid hc1
  clear hc1
  go_wp2_with fail
  refine (parts_some c d hc hd _).mono ?_
  rintro e w2 ⟨n', m', o', rfl, d2, hc2⟩
  have C2 := Lib.hid hc2
  clear hc2
  cases o with
  | false =>
    go_wp2_with fail
    go_ret
    exact ⟨rfl, d1.trans d2⟩
  | true =>
    obtain rfl : o' = false := by
      rcases H.out with h | h
      · have := (C1.out h).2.2; cases this
      · exact (C2.out h).2.2
    go_wp2_with fail
    go_ret
    exact ⟨rfl, d1.trans d2⟩

end Go.Proofs.YtglaahejijfclaaDoor
