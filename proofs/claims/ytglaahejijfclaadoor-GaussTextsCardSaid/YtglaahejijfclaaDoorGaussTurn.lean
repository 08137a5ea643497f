/-
  THE WALKS of Turn, of the document's own words, and of the law's 'is' and 'head'.
-/
import Derived.Test.YtglaahejijfclaaDoorGauss
namespace Go.Proofs.YtglaahejijfclaaDoor
open Go.RowKit

/-- So many quarters. -/
def turnN : Nat → Int × Int → Int × Int
  | 0, p => p
  | k + 1, p => (-(turnN k p).2, (turnN k p).1)

theorem turnN_in (k : Nat) (p : Int × Int) (h : rB p.1 p.2 = true) : rB (turnN k p).1 (turnN k p).2 = true := by
  induction k with
  | zero => exact h
  | succ k ih => have := rB_bound ih; exact rB_in (by simp only [turnN]; omega) this.1

theorem i64_and_three (q : Int) : bits .and .i64 q 3 = q % 4 := by
  show IntKind.i64.wrap ((BitVec.ofInt 64 q &&& BitVec.ofInt 64 3).toNat : Int) = _
  have h3 : (BitVec.ofInt 64 3).toNat = 2 ^ 2 - 1 := by decide
  rw [BitVec.toNat_and, h3, Nat.and_two_pow_sub_one_eq_mod, IntKind.wrap_i64, BitVec.toNat_ofInt]
  omega

set_option maxHeartbeats 1000000 in
theorem turn_any (a b : Nat) (n m q : Int) (w : World) (ha : FI a n) (hb : FI b m) (h1 : rB n m = true) :
    Calls Tryd.prog 15 #[.complex .f64 a b, .int .i64 q] w fun e w' => e = .returned (ofT true (turnN (q % 4).toNat (n, m)).1 (turnN (q % 4).toNat (n, m)).2) ∧ w = w' := by
  have b1 := rB_bound h1
  have HT : Hid (∀ k, rB (turnN k (n, m)).1 (turnN k (n, m)).2 = true) := Lib.hid (fun k => turnN_in k (n, m) h1)
  have hq := i64_and_three q
  obtain ⟨K, hK⟩ := Int.eq_ofNat_of_zero_le (show 0 ≤ q % 4 by omega)
  have hK4 : K < 4 := by omega
  rw [hK] at hq
  rw [hK, Int.toNat_natCast]
  have H := Lib.hid h1
  clear h1 hK
  go_enter Tryd.func15, Tryd.ntmps15
  go_wp2_with fail
  refine (parts_any a b n m _ ha hb (by omega) (by omega)).mono ?_
  rintro e w1 ⟨rfl, rfl⟩
  rw [partsT_in H.out]
  go_wp2_with fail
  go_loop [0, 17] (fun z i => ∃ (k a' b' : Nat), k ≤ K ∧ i = .int .i64 (k : Int) ∧ z = .complex .f64 a' b' ∧ FI a' (turnN k (n, m)).1 ∧ FI b' (turnN k (n, m)).2) (fun _ i => K - (intOf i).toNat)
  case atStart => exact ⟨0, a, b, Nat.zero_le _, rfl, rfl, ha, hb⟩
  case round =>
    obtain ⟨k, a', b', hk, rfl, rfl, ha', hb'⟩ := hrel
    have hr := HT.out k
    have bd := rB_bound hr
    by_cases hlt : k < K
    · obtain ⟨r, i, fr, fi, hrun⟩ := fi_cmul ha' hb' fi_zero fi_one (by omega) (by omega) (by omega) (by omega) (by omega) (by omega)
      have hrun' := fun w => hrun Tryd.prog 23 w
      have fr' : FI r (turnN (k + 1) (n, m)).1 := by
        have e : (turnN (k + 1) (n, m)).1 = (turnN k (n, m)).1 * 0 - (turnN k (n, m)).2 * 1 := by simp only [turnN]; omega
        rw [e]; exact fr
      have fi' : FI i (turnN (k + 1) (n, m)).2 := by
        have e : (turnN (k + 1) (n, m)).2 = (turnN k (n, m)).1 * 1 + (turnN k (n, m)).2 * 0 := by simp only [turnN]; omega
        rw [e]; exact fi
      clear hrun fr fi hr
      go_wp2_with fail
      go_round
      case rel => exact ⟨k + 1, r, i, by omega, by go_num, rfl, fr', fi'⟩
      case measure => simp [intOf]; omega
    · obtain rfl : k = K := by omega
      have HR := Lib.hid hr
      clear hr
      go_wp2_with fail
      refine (right_any true a' b' _ _ _ ha' hb' (by omega) (by omega)).mono ?_
      rintro e w1 ⟨rfl, rfl⟩
      rw [ofT_in HR.out]
      go_wp2_with fail
      go_ret2
      exact ⟨ret_eq (ofT_in HR.out).symm, rfl⟩

set_option maxHeartbeats 1000000 in
theorem refRight_any (re im : Int) (w : World) : Calls Tryd.prog 12 #[.int .i64 re, .int .i64 im] w fun e w' => e = .returned (.bool (rB re im)) ∧ w = w' := by
  go_enter Tryd.func12, Tryd.ntmps12
  by_cases c1 : -1048576 ≤ re
  · by_cases c2 : re ≤ 1048576
    · by_cases c3 : -1048576 ≤ im
      · by_cases c4 : im ≤ 1048576
        · go_wp2_with fail
          go_ret
          exact ⟨ret_eq (by rw [rB_in ⟨c1, c2⟩ ⟨c3, by omega⟩]; rfl), rfl⟩
        · go_wp2_with fail
          go_ret
          exact ⟨ret_eq (by rw [rB_out (by omega)]; rfl), rfl⟩
      · go_wp2_with fail
        go_ret
        exact ⟨ret_eq (by rw [rB_out (by omega)]; rfl), rfl⟩
    · go_wp2_with fail
      go_ret
      exact ⟨ret_eq (by rw [rB_out (by omega)]; rfl), rfl⟩
  · go_wp2_with fail
    go_ret
    exact ⟨ret_eq (by rw [rB_out (by omega)]; rfl), rfl⟩

set_option maxHeartbeats 1000000 in
theorem is_in (re im : Int) (w : World) (h : rB re im = true) :
    Calls Tryd.prog 19 #[.complex .f64 (floatOfInt .f64 re) (floatOfInt .f64 im), .bool true, .int .i64 re, .int .i64 im] w fun e w' => e = .returned (.bool true) ∧ w = w' := by
  have b1 := rB_bound h
  have f1 := fi_of re (by omega)
  have f2 := fi_of im (by omega)
  have e1 := fi_eq f1 f1
  have e2 := fi_eq f2 f2
  simp only [decide_true] at e1 e2
  have H := Lib.hid h
  clear h
  go_enter Tryd.func19, Tryd.ntmps19
  go_wp2_with fail
  refine (refRight_any re im _).mono ?_
  rintro e w1 ⟨rfl, rfl⟩
  rw [H.out]
  go_wp2_with fail
  refine (parts_any _ _ re im _ f1 f2 (by omega) (by omega)).mono ?_
  rintro e w1 ⟨rfl, rfl⟩
  rw [partsT_in H.out]
  go_wp2_with fail
  go_ret
  exact ⟨rfl, rfl⟩

set_option maxHeartbeats 1000000 in
theorem is_out (re im : Int) (w : World) (h : rB re im = false) :
    Calls Tryd.prog 19 #[.complex .f64 0 0, .bool false, .int .i64 re, .int .i64 im] w fun e w' => e = .returned (.bool true) ∧ w = w' := by
  have e1 := fi_eq fi_zero fi_zero
  simp only [decide_true] at e1
  have H := Lib.hid h
  clear h
  go_enter Tryd.func19, Tryd.ntmps19
  go_wp2_with fail
  refine (refRight_any re im _).mono ?_
  rintro e w1 ⟨rfl, rfl⟩
  rw [H.out]
  go_wp2_with fail
  go_ret
  exact ⟨rfl, rfl⟩

set_option maxHeartbeats 1000000 in
theorem head3_any (w : World) : Calls Tryd.prog 6 #[] w fun e w' => e = .returned (.bool true) ∧ w = w' := by
  have f3 := fi_of 3 (by decide)
  have f4 := fi_of 4 (by decide)
  have e1 := fi_eq f3 f3
  have e2 := fi_eq f4 f4
  simp only [decide_true] at e1 e2
  have v3 : floatOfInt .f64 3 = 4613937818241073152 := by decide +kernel
  have v4 : floatOfInt .f64 4 = 4616189618054758400 := by decide +kernel
  have h34 := ofT_in (re := 3) (im := 4) (by decide)
  rw [v3] at f3 e1 h34
  rw [v4] at f4 e2 h34
  have H34 := Lib.hid h34
  clear h34 v3 v4
  go_enter Tryd.func6, Tryd.ntmps6
  go_wp2_with fail
  refine (of_any 3 4 _).mono ?_
  rintro e w1 ⟨rfl, rfl⟩
  rw [H34.out]
  go_wp2_with fail
  refine (norm_any _ _ 3 4 _ f3 f4 (by decide)).mono ?_
  rintro e w1 ⟨rfl, rfl⟩
  go_wp2_with fail
  go_ret
  exact ⟨rfl, rfl⟩

end Go.Proofs.YtglaahejijfclaaDoor
