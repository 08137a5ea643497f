/-
  THE WALKS of package gauss at numbers of whole parts.
-/
import Derived.Test.YtglaahejijfclaaDoorProg
import Derived.Test.YtglaahejijfclaaDoorFloatInt
import Derived.Test.YtglaahejijfclaaDoorBase2
namespace Go.Proofs.YtglaahejijfclaaDoor
open Go.RowKit

/-- Within the bounds. -/
def rB (re im : Int) : Bool := decide (-1048576 ≤ re ∧ re ≤ 1048576 ∧ -1048576 ≤ im ∧ im ≤ 1048576)
/-- What is answered: the number of these parts, or nothing. -/
def cP (re im : Int) : Nat × Nat := if rB re im then (floatOfInt .f64 re, floatOfInt .f64 im) else (0, 0)

theorem fl_eq {a b : Int} (h : a = b) : floatOfInt .f64 a = floatOfInt .f64 b := by rw [h]
theorem ret_eq {u v : Value} (h : u = v) : Ending.returned u = .returned v := by rw [h]
theorem int_eq {k : IntKind} {a b : Int} (h : a = b) : Value.int k a = .int k b := by rw [h]

set_option maxHeartbeats 400000 in
theorem trunc_any (x : Nat) (n : Int) (w : World) (hx : FI x n) (hb : n.natAbs < 2 ^ 53) : Calls Tryd.prog 29 #[.float .f64 x] w fun e w' => ∃ r, e = .returned (.float .f64 r) ∧ FI r n ∧ w = w' := by
  obtain ⟨r, hr, hrun⟩ := fi_trunc hx hb
  have hc : ∀ W : World, (callFunc 40 #[.float .f64 x]).run Tryd.prog W = .ok (.value (.float .f64 r)) W := fun W => by
    rw [run_callFunc_extern Tryd.func40 (by kernel_rfl) (by kernel_rfl) (by kernel_rfl) (e := Extern.MathFloor.toIntegral "math.archTrunc" .zero) (by kernel_rfl), hrun]; rfl
  go_enter Tryd.func29, Tryd.ntmps29
  go_wp2_with fail
  go_ret
  exact ⟨r, rfl, hr, rfl⟩

set_option maxHeartbeats 400000 in
theorem abs_any (x : Nat) (n : Int) (w : World) (hx : FI x n) : Calls Tryd.prog 30 #[.float .f64 x] w fun e w' => ∃ r, e = .returned (.float .f64 r) ∧ FI r n.natAbs ∧ w = w' := by
  have h1 : ∀ W : World, (callFunc 43 #[.float .f64 x]).run Tryd.prog W = .ok (.value (.int .u64 (x : Int))) W := fun W => by
    rw [run_callFunc_extern Tryd.func43 (by kernel_rfl) (by kernel_rfl) (by kernel_rfl) (e := Extern.MathFloatBits.float64bits) (by kernel_rfl)]; rfl
  have h2 : ∀ W : World, (callFunc 42 #[.int .u64 (bits .andNot .u64 (x : Int) 9223372036854775808)]).run Tryd.prog W = .ok (.value (.float .f64 (x % 9223372036854775808))) W := fun W => by
    rw [u64_andNot_high x hx.lt, run_callFunc_extern Tryd.func42 (by kernel_rfl) (by kernel_rfl) (by kernel_rfl) (e := Extern.MathFloatBits.float64frombits) (by kernel_rfl)]; rfl
  go_enter Tryd.func30, Tryd.ntmps30
  go_wp2_with fail
  go_ret
  exact ⟨_, rfl, fi_abs hx, rfl⟩


/-- A float of a whole number is that number, if it is within the bounds. -/
def wholeT (n : Int) : Value := if -1048576 ≤ n ∧ n ≤ 1048576 then .tuple #[.int .i64 n, .bool true] else .tuple #[.int .i64 0, .bool false]

theorem wholeT_in {n : Int} (h : -1048576 ≤ n ∧ n ≤ 1048576) : wholeT n = .tuple #[.int .i64 n, .bool true] := if_pos h
theorem wholeT_out {n : Int} (h : ¬(-1048576 ≤ n ∧ n ≤ 1048576)) : wholeT n = .tuple #[.int .i64 0, .bool false] := if_neg h
def partsT (re im : Int) : Value := if rB re im then .tuple #[.int .i64 re, .int .i64 im, .bool true] else .tuple #[.int .i64 0, .int .i64 0, .bool false]
theorem partsT_in {re im : Int} (h : rB re im = true) : partsT re im = .tuple #[.int .i64 re, .int .i64 im, .bool true] := if_pos h
theorem partsT_out {re im : Int} (h : rB re im = false) : partsT re im = .tuple #[.int .i64 0, .int .i64 0, .bool false] := by unfold partsT; rw [h]; rfl
/-- What a call that reckons answers. -/
def ofT (ok : Bool) (re im : Int) : Value := if ok && rB re im then .tuple #[.complex .f64 (floatOfInt .f64 re) (floatOfInt .f64 im), .bool true] else .tuple #[.complex .f64 0 0, .bool false]
theorem ofT_in {re im : Int} (h : rB re im = true) : ofT true re im = .tuple #[.complex .f64 (floatOfInt .f64 re) (floatOfInt .f64 im), .bool true] := by unfold ofT; rw [h]; rfl
theorem ofT_out {ok : Bool} {re im : Int} (h : rB re im = false) : ofT ok re im = .tuple #[.complex .f64 0 0, .bool false] := by unfold ofT; rw [h]; cases ok <;> rfl
theorem ofT_no {re im : Int} : ofT false re im = .tuple #[.complex .f64 0 0, .bool false] := rfl
theorem rB_in {re im : Int} (h1 : -1048576 ≤ re ∧ re ≤ 1048576) (h2 : -1048576 ≤ im ∧ im ≤ 1048576) : rB re im = true := by simp [rB]; omega
theorem rB_out {re im : Int} (h : ¬(-1048576 ≤ re ∧ re ≤ 1048576) ∨ ¬(-1048576 ≤ im ∧ im ≤ 1048576)) : rB re im = false := by simp [rB]; omega

set_option maxHeartbeats 1000000 in
theorem whole_any (x : Nat) (n : Int) (w : World) (hx : FI x n) (hb : n.natAbs < 9007199254740992) : Calls Tryd.prog 23 #[.float .f64 x] w fun e w' => e = .returned (wholeT n) ∧ w = w' := by
  have hcv : -1048576 ≤ n ∧ n ≤ 1048576 → ∀ W : World, (convert 30 3 (.float .f64 x)).run Tryd.prog W = .ok (.int .i64 n) W := fun h W =>
    run_convert_float_int W _ _ .f64 .i64 x n (by kernel_rfl) Tryd.underlying3 (fi_toInt hx (by omega) (by omega))
  go_enter Tryd.func23, Tryd.ntmps23
  go_wp2_with fail
  refine (trunc_any x n _ hx hb).mono ?_
  rintro e w1 ⟨r, rfl, hr, rfl⟩
  have h1 : (FloatKind.f64.format.order r x != some .eq) = false := by
    have := fi_eq hr hx
    simp at this
    simp [this]
  go_wp2_with fail
  refine (abs_any x n _ hx).mono ?_
  rintro e w1 ⟨q, rfl, hq, rfl⟩
  by_cases hin : -1048576 ≤ n ∧ n ≤ 1048576
  · have h2 : (FloatKind.f64.format.order q 4697254411347427328 == some .gt) = false := by
      rw [fi_gt hq fi_max]; simp; omega
    have hcv' := hcv hin
    have H := Lib.hid hin
    clear hin hcv
    go_wp2_with fail
    go_ret2
    exact ⟨ret_eq (wholeT_in H.out).symm, rfl⟩
  · have h2 : (FloatKind.f64.format.order q 4697254411347427328 == some .gt) = true := by
      rw [fi_gt hq fi_max]; simp; omega
    have H := Lib.hid hin
    clear hin hcv
    go_wp2_with fail
    go_ret2
    exact ⟨ret_eq (wholeT_out H.out).symm, rfl⟩

set_option maxHeartbeats 1000000 in
theorem parts_any (a b : Nat) (re im : Int) (w : World) (ha : FI a re) (hb : FI b im) (h1 : re.natAbs < 9007199254740992) (h2 : im.natAbs < 9007199254740992) :
    Calls Tryd.prog 11 #[.complex .f64 a b] w fun e w' => e = .returned (partsT re im) ∧ w = w' := by
  go_enter Tryd.func11, Tryd.ntmps11
  go_wp2_with fail
  refine (whole_any a re _ ha h1).mono ?_
  rintro e w1 ⟨rfl, rfl⟩
  by_cases c1 : -1048576 ≤ re ∧ re ≤ 1048576
  · rw [wholeT_in c1]
    have H1 := Lib.hid c1
    clear c1
    go_wp2_with fail
    refine (whole_any b im _ hb h2).mono ?_
    rintro e w1 ⟨rfl, rfl⟩
    by_cases c2 : -1048576 ≤ im ∧ im ≤ 1048576
    · rw [wholeT_in c2]
      have H2 := Lib.hid c2
      clear c2
      go_wp2_with fail
      go_ret3
      exact ⟨ret_eq (partsT_in (rB_in H1.out H2.out)).symm, rfl⟩
    · rw [wholeT_out c2]
      have H2 := Lib.hid c2
      clear c2
      go_wp2_with fail
      go_ret3
      exact ⟨ret_eq (partsT_out (rB_out (Or.inr H2.out))).symm, rfl⟩
  · rw [wholeT_out c1]
    have H1 := Lib.hid c1
    clear c1
    go_wp2_with fail
    refine (whole_any b im _ hb h2).mono ?_
    rintro e w1 ⟨rfl, rfl⟩
    by_cases c2 : -1048576 ≤ im ∧ im ≤ 1048576
    · rw [wholeT_in c2]
      clear c2
      go_wp2_with fail
      go_ret3
      exact ⟨ret_eq (partsT_out (rB_out (Or.inl H1.out))).symm, rfl⟩
    · rw [wholeT_out c2]
      clear c2
      go_wp2_with fail
      go_ret3
      exact ⟨ret_eq (partsT_out (rB_out (Or.inl H1.out))).symm, rfl⟩

set_option maxHeartbeats 1000000 in
theorem of_any (re im : Int) (w : World) : Calls Tryd.prog 7 #[.int .i64 re, .int .i64 im] w fun e w' => e = .returned (ofT true re im) ∧ w = w' := by
  go_enter Tryd.func7, Tryd.ntmps7
  by_cases c1 : -1048576 ≤ re
  · by_cases c2 : re ≤ 1048576
    · by_cases c3 : -1048576 ≤ im
      · by_cases c4 : im ≤ 1048576
        · go_wp2_with fail
          go_ret2
          exact ⟨ret_eq (ofT_in (rB_in ⟨c1, c2⟩ ⟨c3, c4⟩)).symm, rfl⟩
        · go_wp2_with fail
          go_ret2
          exact ⟨ret_eq (ofT_out (rB_out (by omega))).symm, rfl⟩
      · go_wp2_with fail
        go_ret2
        exact ⟨ret_eq (ofT_out (rB_out (by omega))).symm, rfl⟩
    · go_wp2_with fail
      go_ret2
      exact ⟨ret_eq (ofT_out (rB_out (by omega))).symm, rfl⟩
  · go_wp2_with fail
    go_ret2
    exact ⟨ret_eq (ofT_out (rB_out (by omega))).symm, rfl⟩

set_option maxHeartbeats 1000000 in
theorem right_any (ok : Bool) (a b : Nat) (re im : Int) (w : World) (ha : FI a re) (hb : FI b im) (h1 : re.natAbs < 9007199254740992) (h2 : im.natAbs < 9007199254740992) :
    Calls Tryd.prog 20 #[.complex .f64 a b, .bool ok] w fun e w' => e = .returned (ofT ok re im) ∧ w = w' := by
  go_enter Tryd.func20, Tryd.ntmps20
  go_wp2_with fail
  refine (parts_any a b re im _ ha hb h1 h2).mono ?_
  rintro e w1 ⟨rfl, rfl⟩
  cases hr : rB re im with
  | true =>
    rw [partsT_in hr]
    cases ok with
    | true =>
      have H := Lib.hid hr
      clear hr
      go_wp2_with fail
      refine (of_any re im _).mono ?_
      rintro e w1 ⟨rfl, rfl⟩
      rw [ofT_in H.out]
      go_wp2_with fail
      go_ret2
      exact ⟨ret_eq (ofT_in H.out).symm, rfl⟩
    | false =>
      clear hr
      go_wp2_with fail
      go_ret2
      exact ⟨rfl, rfl⟩
  | false =>
    rw [partsT_out hr]
    have H := Lib.hid hr
    clear hr
    cases ok <;> (go_wp2_with fail; go_ret2; exact ⟨ret_eq (ofT_out H.out).symm, rfl⟩)

theorem rB_bound {n m : Int} (h : rB n m = true) : (-1048576 ≤ n ∧ n ≤ 1048576) ∧ (-1048576 ≤ m ∧ m ≤ 1048576) := by simp [rB] at h; omega

set_option maxHeartbeats 1000000 in
theorem both_any (a b c d : Nat) (n m k l : Int) (w : World) (ha : FI a n) (hb : FI b m) (hc : FI c k) (hd : FI d l) (h1 : rB n m = true) (h2 : rB k l = true) :
    Calls Tryd.prog 21 #[.complex .f64 a b, .complex .f64 c d] w fun e w' => e = .returned (.bool true) ∧ w = w' := by
  have b1 := rB_bound h1
  have b2 := rB_bound h2
  have H1 := Lib.hid h1
  have H2 := Lib.hid h2
  clear h1 h2
  go_enter Tryd.func21, Tryd.ntmps21
  go_wp2_with fail
  refine (parts_any a b n m _ ha hb (by omega) (by omega)).mono ?_
  rintro e w1 ⟨rfl, rfl⟩
  rw [partsT_in H1.out]
  go_wp2_with fail
  refine (parts_any c d k l _ hc hd (by omega) (by omega)).mono ?_
  rintro e w1 ⟨rfl, rfl⟩
  rw [partsT_in H2.out]
  go_wp2_with fail
  go_ret
  exact ⟨rfl, rfl⟩

set_option maxHeartbeats 1000000 in
theorem add_any (a b c d : Nat) (n m k l : Int) (w : World) (ha : FI a n) (hb : FI b m) (hc : FI c k) (hd : FI d l) (h1 : rB n m = true) (h2 : rB k l = true) :
    Calls Tryd.prog 8 #[.complex .f64 a b, .complex .f64 c d] w fun e w' => e = .returned (ofT true (n + k) (m + l)) ∧ w = w' := by
  have b1 := rB_bound h1
  have b2 := rB_bound h2
  obtain ⟨r, i, hr, hi, hrun⟩ := fi_cadd ha hb hc hd (by omega) (by omega)
  have hrun' := fun w => hrun Tryd.prog 23 w
  have H1 := Lib.hid h1
  have H2 := Lib.hid h2
  clear h1 h2 hrun
  go_enter Tryd.func8, Tryd.ntmps8
  go_wp2_with fail
  refine (both_any a b c d n m k l _ ha hb hc hd H1.out H2.out).mono ?_
  rintro e w1 ⟨rfl, rfl⟩
  go_wp2_with fail
  refine (right_any true r i _ _ _ hr hi (by omega) (by omega)).mono ?_
  rintro e w1 ⟨rfl, rfl⟩
  cases hq : rB (n + k) (m + l) with
  | true =>
    rw [ofT_in hq]
    have H := Lib.hid hq
    clear hq
    go_wp2_with fail
    go_ret2
    exact ⟨ret_eq (ofT_in H.out).symm, rfl⟩
  | false =>
    rw [ofT_out hq]
    have H := Lib.hid hq
    clear hq
    go_wp2_with fail
    go_ret2
    exact ⟨ret_eq (ofT_out H.out).symm, rfl⟩

set_option maxHeartbeats 1000000 in
theorem sub_any (a b c d : Nat) (n m k l : Int) (w : World) (ha : FI a n) (hb : FI b m) (hc : FI c k) (hd : FI d l) (h1 : rB n m = true) (h2 : rB k l = true) :
    Calls Tryd.prog 13 #[.complex .f64 a b, .complex .f64 c d] w fun e w' => e = .returned (ofT true (n - k) (m - l)) ∧ w = w' := by
  have b1 := rB_bound h1
  have b2 := rB_bound h2
  obtain ⟨r, i, hr, hi, hrun⟩ := fi_csub ha hb hc hd (by omega) (by omega)
  have hrun' := fun w => hrun Tryd.prog 23 w
  have H1 := Lib.hid h1
  have H2 := Lib.hid h2
  clear h1 h2 hrun
  go_enter Tryd.func13, Tryd.ntmps13
  go_wp2_with fail
  refine (both_any a b c d n m k l _ ha hb hc hd H1.out H2.out).mono ?_
  rintro e w1 ⟨rfl, rfl⟩
  go_wp2_with fail
  refine (right_any true r i _ _ _ hr hi (by omega) (by omega)).mono ?_
  rintro e w1 ⟨rfl, rfl⟩
  cases hq : rB (n - k) (m - l) with
  | true =>
    rw [ofT_in hq]
    have H := Lib.hid hq
    clear hq
    go_wp2_with fail
    go_ret2
    exact ⟨ret_eq (ofT_in H.out).symm, rfl⟩
  | false =>
    rw [ofT_out hq]
    have H := Lib.hid hq
    clear hq
    go_wp2_with fail
    go_ret2
    exact ⟨ret_eq (ofT_out H.out).symm, rfl⟩

theorem abs_mul_le {n k : Int} {A B : Nat} (h1 : n.natAbs ≤ A) (h2 : k.natAbs ≤ B) : (n * k).natAbs ≤ A * B := by
  rw [Int.natAbs_mul]; exact Nat.mul_le_mul h1 h2
/-- The products of right numbers' parts. -/
theorem mul_bounds {n m k l : Int} (h1 : rB n m = true) (h2 : rB k l = true) :
    ((n * k).natAbs ≤ 1099511627776 ∧ (m * l).natAbs ≤ 1099511627776) ∧ (n * l).natAbs ≤ 1099511627776 ∧ (m * k).natAbs ≤ 1099511627776 := by
  have b1 := rB_bound h1
  have b2 := rB_bound h2
  exact ⟨⟨abs_mul_le (A := 1048576) (B := 1048576) (by omega) (by omega), abs_mul_le (A := 1048576) (B := 1048576) (by omega) (by omega)⟩, abs_mul_le (A := 1048576) (B := 1048576) (by omega) (by omega), abs_mul_le (A := 1048576) (B := 1048576) (by omega) (by omega)⟩

set_option maxHeartbeats 1000000 in
theorem mul_any (a b c d : Nat) (n m k l : Int) (w : World) (ha : FI a n) (hb : FI b m) (hc : FI c k) (hd : FI d l) (h1 : rB n m = true) (h2 : rB k l = true) :
    Calls Tryd.prog 9 #[.complex .f64 a b, .complex .f64 c d] w fun e w' => e = .returned (ofT true (n * k - m * l) (n * l + m * k)) ∧ w = w' := by
  have hb1 := mul_bounds h1 h2
  obtain ⟨r, i, hr, hi, hrun⟩ := fi_cmul ha hb hc hd (by omega) (by omega) (by omega) (by omega) (by omega) (by omega)
  have hrun' := fun w => hrun Tryd.prog 23 w
  have H1 := Lib.hid h1
  have H2 := Lib.hid h2
  clear h1 h2 hrun
  generalize hp : n * k - m * l = p at *
  generalize hq : n * l + m * k = q at *
  have hb2 : p.natAbs < 9007199254740992 ∧ q.natAbs < 9007199254740992 := by omega
  clear hp hq hb1
  go_enter Tryd.func9, Tryd.ntmps9
  go_wp2_with fail
  refine (both_any a b c d n m k l _ ha hb hc hd H1.out H2.out).mono ?_
  rintro e w1 ⟨rfl, rfl⟩
  go_wp2_with fail
  refine (right_any true r i _ _ _ hr hi hb2.1 hb2.2).mono ?_
  rintro e w1 ⟨rfl, rfl⟩
  cases hq : rB p q with
  | true =>
    rw [ofT_in hq]
    have H := Lib.hid hq
    clear hq
    go_wp2_with fail
    go_ret2
    exact ⟨ret_eq (ofT_in H.out).symm, rfl⟩
  | false =>
    rw [ofT_out hq]
    have H := Lib.hid hq
    clear hq
    go_wp2_with fail
    go_ret2
    exact ⟨ret_eq (ofT_out H.out).symm, rfl⟩

set_option maxHeartbeats 1000000 in
theorem conj_any (a b : Nat) (n m : Int) (w : World) (ha : FI a n) (hb : FI b m) (h1 : rB n m = true) :
    Calls Tryd.prog 14 #[.complex .f64 a b] w fun e w' => e = .returned (ofT true n (-m)) ∧ w = w' := by
  have b1 := rB_bound h1
  have hr2 : rB n (-m) = true := rB_in (by omega) (by omega)
  have hn := fi_neg hb
  have hrun : ∀ W : World, (Op.unary .neg (.float .f64 b)).run Tryd.prog W = .ok (.float .f64 (Op.negFloat .f64 b)) W := fun _ => rfl
  have H := Lib.hid hr2
  clear h1 hr2
  go_enter Tryd.func14, Tryd.ntmps14
  go_wp2_with fail
  refine (right_any true a _ _ _ _ ha hn (by omega) (by omega)).mono ?_
  rintro e w1 ⟨rfl, rfl⟩
  rw [ofT_in H.out]
  go_wp2_with fail
  go_ret2
  exact ⟨ret_eq (ofT_in H.out).symm, rfl⟩

set_option maxHeartbeats 1000000 in
theorem norm_any (a b : Nat) (n m : Int) (w : World) (ha : FI a n) (hb : FI b m) (h1 : rB n m = true) :
    Calls Tryd.prog 16 #[.complex .f64 a b] w fun e w' => e = .returned (.tuple #[.int .i64 (n * n + m * m), .bool true]) ∧ w = w' := by
  have b1 := rB_bound h1
  have b2 := mul_bounds (n := n) (m := m) (k := n) (l := m) h1 h1
  have H := Lib.hid h1
  clear h1
  go_enter Tryd.func16, Tryd.ntmps16
  go_wp2_with fail
  refine (parts_any a b n m _ ha hb (by omega) (by omega)).mono ?_
  rintro e w1 ⟨rfl, rfl⟩
  rw [partsT_in H.out]
  go_wp2_with fail
  go_ret2
  exact ⟨rfl, rfl⟩

end Go.Proofs.YtglaahejijfclaaDoor
