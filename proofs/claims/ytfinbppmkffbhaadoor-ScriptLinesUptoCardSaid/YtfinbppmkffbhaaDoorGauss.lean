/-
  THE WALKS of package gauss at numbers of whole parts.
-/
import Derived.Test.YtfinbppmkffbhaaDoorProg
import Derived.Test.YtfinbppmkffbhaaDoorFloatInt
import Derived.Test.YtfinbppmkffbhaaDoorBase2
namespace Go.Proofs.YtfinbppmkffbhaaDoor
open Go.RowKit

/-- Within the bounds. -/
def rB (re im : Int) : Bool := decide (-1048576 ≤ re ∧ re ≤ 1048576 ∧ -1048576 ≤ im ∧ im ≤ 1048576)
/-- What is answered: the number of these parts, or nothing. -/
def cP (re im : Int) : Nat × Nat := if rB re im then (floatOfInt .f64 re, floatOfInt .f64 im) else (0, 0)

theorem fl_eq {a b : Int} (h : a = b) : floatOfInt .f64 a = floatOfInt .f64 b := by rw [h]
theorem ret_eq {u v : Value} (h : u = v) : Ending.returned u = .returned v := by rw [h]
theorem int_eq {k : IntKind} {a b : Int} (h : a = b) : Value.int k a = .int k b := by rw [h]

set_option maxHeartbeats 400000 in
theorem trunc_any (x : Nat) (n : Int) (w : World) (hx : FI x n) (hb : n.natAbs < 2 ^ 53) : Calls Tryd.prog 59 #[.float .f64 x] w fun e w' => ∃ r, e = .returned (.float .f64 r) ∧ FI r n ∧ w = w' := by
  obtain ⟨r, hr, hrun⟩ := fi_trunc hx hb
  have hc : ∀ W : World, (callFunc 80 #[.float .f64 x]).run Tryd.prog W = .ok (.value (.float .f64 r)) W := fun W => by
    rw [run_callFunc_extern Tryd.func80 (by kernel_rfl) (by kernel_rfl) (by kernel_rfl) (e := Extern.MathFloor.toIntegral "math.archTrunc" .zero) (by kernel_rfl), hrun]; rfl
  go_enter Tryd.func59, Tryd.ntmps59
  go_wp2_with fail
  go_ret
  exact ⟨r, rfl, hr, rfl⟩

set_option maxHeartbeats 400000 in
theorem abs_any (x : Nat) (n : Int) (w : World) (hx : FI x n) : Calls Tryd.prog 60 #[.float .f64 x] w fun e w' => ∃ r, e = .returned (.float .f64 r) ∧ FI r n.natAbs ∧ w = w' := by
  have h1 : ∀ W : World, (callFunc 83 #[.float .f64 x]).run Tryd.prog W = .ok (.value (.int .u64 (x : Int))) W := fun W => by
    rw [run_callFunc_extern Tryd.func83 (by kernel_rfl) (by kernel_rfl) (by kernel_rfl) (e := Extern.MathFloatBits.float64bits) (by kernel_rfl)]; rfl
  have h2 : ∀ W : World, (callFunc 82 #[.int .u64 (bits .andNot .u64 (x : Int) 9223372036854775808)]).run Tryd.prog W = .ok (.value (.float .f64 (x % 9223372036854775808))) W := fun W => by
    rw [u64_andNot_high x hx.lt, run_callFunc_extern Tryd.func82 (by kernel_rfl) (by kernel_rfl) (by kernel_rfl) (e := Extern.MathFloatBits.float64frombits) (by kernel_rfl)]; rfl
  go_enter Tryd.func60, Tryd.ntmps60
  go_wp2_with fail
  go_ret
  exact ⟨_, rfl, fi_abs hx, rfl⟩


/-- A float of a whole number is that number, if it is within the bounds. -/
def wholeT (n : Int) : Value := if -1048576 ≤ n ∧ n ≤ 1048576 then .tuple #[.int .i64 n, .bool true] else .tuple #[.int .i64 0, .bool false]

theorem wholeT_in {n : Int} (h : -1048576 ≤ n ∧ n ≤ 1048576) : wholeT n = .tuple #[.int .i64 n, .bool true] := if_pos h
theorem wholeT_out {n : Int} (h : ¬(-1048576 ≤ n ∧ n ≤ 1048576)) : wholeT n = .tuple #[.int .i64 0, .bool false] := if_neg h
def partsT (re im : Int) : Value := if rB re im then .tuple #[.int .i64 re, .int .i64 im, .bool true] else .tuple #[.int .i64 0, .int .i64 0, .bool false]
theorem partsT_in {re im : Int} (h : rB re im = true) : partsT re im = .tuple #[.int .i64 re, .int .i64 im, .bool true] := if_pos h
theorem partsT_out {re im : Int} (h : rB re im = false) : partsT re im = .tuple #[.int .i64 0, .int .i64 0, .bool false] := by unfold partsT; rw [h]; rfl
/-- What a call that reckons answers. -/
def ofT (ok : Bool) (re im : Int) : Value := if ok && rB re im then .tuple #[.complex .f64 (floatOfInt .f64 re) (floatOfInt .f64 im), .bool true] else .tuple #[.complex .f64 0 0, .bool false]
theorem ofT_in {re im : Int} (h : rB re im = true) : ofT true re im = .tuple #[.complex .f64 (floatOfInt .f64 re) (floatOfInt .f64 im), .bool true] := by unfold ofT; rw [h]; rfl
theorem ofT_out {ok : Bool} {re im : Int} (h : rB re im = false) : ofT ok re im = .tuple #[.complex .f64 0 0, .bool false] := by unfold ofT; rw [h]; cases ok <;> rfl
theorem ofT_no {re im : Int} : ofT false re im = .tuple #[.complex .f64 0 0, .bool false] := rfl
theorem rB_in {re im : Int} (h1 : -1048576 ≤ re ∧ re ≤ 1048576) (h2 : -1048576 ≤ im ∧ im ≤ 1048576) : rB re im = true := by simp [rB]; omega
theorem rB_out {re im : Int} (h : ¬(-1048576 ≤ re ∧ re ≤ 1048576) ∨ ¬(-1048576 ≤ im ∧ im ≤ 1048576)) : rB re im = false := by simp [rB]; omega

set_option maxHeartbeats 1000000 in
theorem whole_any (x : Nat) (n : Int) (w : World) (hx : FI x n) (hb : n.natAbs < 9007199254740992) : Calls Tryd.prog 44 #[.float .f64 x] w fun e w' => e = .returned (wholeT n) ∧ w = w' := by
  have hcv : -1048576 ≤ n ∧ n ≤ 1048576 → ∀ W : World, (convert 81 3 (.float .f64 x)).run Tryd.prog W = .ok (.int .i64 n) W := fun h W =>
    run_convert_float_int W _ _ .f64 .i64 x n (by kernel_rfl) Tryd.underlying3 (fi_toInt hx (by omega) (by omega))
  go_enter Tryd.func44, Tryd.ntmps44
  go_wp2_with fail
  refine (trunc_any x n _ hx hb).mono ?_
  rintro e w1 ⟨r, rfl, hr, rfl⟩
  have h1 : (FloatKind.f64.format.order r x != some .eq) = false := by
    have := fi_eq hr hx
    simp at this
    simp [this]
  go_wp2_with fail
  refine (abs_any x n _ hx).mono ?_
  rintro e w1 ⟨q, rfl, hq, rfl⟩
  by_cases hin : -1048576 ≤ n ∧ n ≤ 1048576
  · have h2 : (FloatKind.f64.format.order q 4697254411347427328 == some .gt) = false := by
      rw [fi_gt hq fi_max]; simp; omega
    have hcv' := hcv hin
    have H := Lib.hid hin
    clear hin hcv
    go_wp2_with fail
    go_ret2
    exact ⟨ret_eq (wholeT_in H.out).symm, rfl⟩
  · have h2 : (FloatKind.f64.format.order q 4697254411347427328 == some .gt) = true := by
      rw [fi_gt hq fi_max]; simp; omega
    have H := Lib.hid hin
    clear hin hcv
    go_wp2_with fail
    go_ret2
    exact ⟨ret_eq (wholeT_out H.out).symm, rfl⟩

set_option maxHeartbeats 1000000 in
theorem parts_any (a b : Nat) (re im : Int) (w : World) (ha : FI a re) (hb : FI b im) (h1 : re.natAbs < 9007199254740992) (h2 : im.natAbs < 9007199254740992) :
    Calls Tryd.prog 34 #[.complex .f64 a b] w fun e w' => e = .returned (partsT re im) ∧ w = w' := by
  go_enter Tryd.func34, Tryd.ntmps34
  go_wp2_with fail
  refine (whole_any a re _ ha h1).mono ?_
  rintro e w1 ⟨rfl, rfl⟩
  by_cases c1 : -1048576 ≤ re ∧ re ≤ 1048576
  · rw [wholeT_in c1]
    have H1 := Lib.hid c1
    clear c1
    go_wp2_with fail
    refine (whole_any b im _ hb h2).mono ?_
    rintro e w1 ⟨rfl, rfl⟩
    by_cases c2 : -1048576 ≤ im ∧ im ≤ 1048576
    · rw [wholeT_in c2]
      have H2 := Lib.hid c2
      clear c2
      go_wp2_with fail
      go_ret3
      exact ⟨ret_eq (partsT_in (rB_in H1.out H2.out)).symm, rfl⟩
    · rw [wholeT_out c2]
      have H2 := Lib.hid c2
      clear c2
      go_wp2_with fail
      go_ret3
      exact ⟨ret_eq (partsT_out (rB_out (Or.inr H2.out))).symm, rfl⟩
  · rw [wholeT_out c1]
    have H1 := Lib.hid c1
    clear c1
    go_wp2_with fail
    refine (whole_any b im _ hb h2).mono ?_
    rintro e w1 ⟨rfl, rfl⟩
    by_cases c2 : -1048576 ≤ im ∧ im ≤ 1048576
    · rw [wholeT_in c2]
      clear c2
      go_wp2_with fail
      go_ret3
      exact ⟨ret_eq (partsT_out (rB_out (Or.inl H1.out))).symm, rfl⟩
    · rw [wholeT_out c2]
      clear c2
      go_wp2_with fail
      go_ret3
      exact ⟨ret_eq (partsT_out (rB_out (Or.inl H1.out))).symm, rfl⟩

set_option maxHeartbeats 1000000 in
theorem of_any (re im : Int) (w : World) : Calls Tryd.prog 28 #[.int .i64 re, .int .i64 im] w fun e w' => e = .returned (ofT true re im) ∧ w = w' := by
  go_enter Tryd.func28, Tryd.ntmps28
  by_cases c1 : -1048576 ≤ re
  · by_cases c2 : re ≤ 1048576
    · by_cases c3 : -1048576 ≤ im
      · by_cases c4 : im ≤ 1048576
        · go_wp2_with fail
          go_ret2
          exact ⟨ret_eq (ofT_in (rB_in ⟨c1, c2⟩ ⟨c3, c4⟩)).symm, rfl⟩
        · go_wp2_with fail
          go_ret2
          exact ⟨ret_eq (ofT_out (rB_out (by omega))).symm, rfl⟩
      · go_wp2_with fail
        go_ret2
        exact ⟨ret_eq (ofT_out (rB_out (by omega))).symm, rfl⟩
    · go_wp2_with fail
      go_ret2
      exact ⟨ret_eq (ofT_out (rB_out (by omega))).symm, rfl⟩
  · go_wp2_with fail
    go_ret2
    exact ⟨ret_eq (ofT_out (rB_out (by omega))).symm, rfl⟩

theorem rB_bound {n m : Int} (h : rB n m = true) : (-1048576 ≤ n ∧ n ≤ 1048576) ∧ (-1048576 ≤ m ∧ m ≤ 1048576) := by simp [rB] at h; omega

theorem abs_mul_le {n k : Int} {A B : Nat} (h1 : n.natAbs ≤ A) (h2 : k.natAbs ≤ B) : (n * k).natAbs ≤ A * B := by
  rw [Int.natAbs_mul]; exact Nat.mul_le_mul h1 h2
/-- The products of right numbers' parts. -/
theorem mul_bounds {n m k l : Int} (h1 : rB n m = true) (h2 : rB k l = true) :
    ((n * k).natAbs ≤ 1099511627776 ∧ (m * l).natAbs ≤ 1099511627776) ∧ (n * l).natAbs ≤ 1099511627776 ∧ (m * k).natAbs ≤ 1099511627776 := by
  have b1 := rB_bound h1
  have b2 := rB_bound h2
  exact ⟨⟨abs_mul_le (A := 1048576) (B := 1048576) (by omega) (by omega), abs_mul_le (A := 1048576) (B := 1048576) (by omega) (by omega)⟩, abs_mul_le (A := 1048576) (B := 1048576) (by omega) (by omega), abs_mul_le (A := 1048576) (B := 1048576) (by omega) (by omega)⟩

end Go.Proofs.YtfinbppmkffbhaaDoor
