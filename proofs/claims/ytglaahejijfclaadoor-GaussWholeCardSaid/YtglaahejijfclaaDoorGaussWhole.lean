/-
  GaussWhole: a complex number with a part that isn't whole, or leaves the bounds, is refused by everything.
-/
import Derived.Test.YtglaahejijfclaaDoorGaussAny
namespace Go.Proofs.YtglaahejijfclaaDoor
open Go.RowKit

set_option maxHeartbeats 1000000 in
theorem add_no (a b c d : Nat) (ha : a < 18446744073709551616) (hb : b < 18446744073709551616) (hc : c < 18446744073709551616) (hd : d < 18446744073709551616) (h : (NoW a ∨ NoW b) ∨ (NoW c ∨ NoW d)) (w : World) :
    Calls Tryd.prog 8 #[.complex .f64 a b, .complex .f64 c d] w fun e w' => e = .returned (.tuple #[.complex .f64 0 0, .bool false]) ∧ Dr w w' := by
  obtain ⟨r, i, q, hrun, hr, hi⟩ := run_csum_any .add (Or.inl rfl) 23 a b c d Tryd.prog w
  have H := Lib.hid h
  have D0 : Dr w (w.drewN q) := ⟨q, rfl⟩
  clear h
  go_enter Tryd.func8, Tryd.ntmps8
  go_wp2_with fail
  refine (both_no a b c d ha hb hc hd H.out _).mono ?_
  rintro e w1 ⟨rfl, d1⟩
  go_wp2_with fail
  refine (right_no false r i hr hi (Or.inl rfl) _).mono ?_
  rintro e w2 ⟨rfl, d2⟩
  go_wp2_with fail
  go_ret2
  exact ⟨rfl, (D0.trans d1).trans d2⟩

set_option maxHeartbeats 1000000 in
theorem sub_no (a b c d : Nat) (ha : a < 18446744073709551616) (hb : b < 18446744073709551616) (hc : c < 18446744073709551616) (hd : d < 18446744073709551616) (h : (NoW a ∨ NoW b) ∨ (NoW c ∨ NoW d)) (w : World) :
    Calls Tryd.prog 13 #[.complex .f64 a b, .complex .f64 c d] w fun e w' => e = .returned (.tuple #[.complex .f64 0 0, .bool false]) ∧ Dr w w' := by
  obtain ⟨r, i, q, hrun, hr, hi⟩ := run_csum_any .sub (Or.inr rfl) 23 a b c d Tryd.prog w
  have H := Lib.hid h
  have D0 : Dr w (w.drewN q) := ⟨q, rfl⟩
  clear h
  go_enter Tryd.func13, Tryd.ntmps13
  go_wp2_with fail
  refine (both_no a b c d ha hb hc hd H.out _).mono ?_
  rintro e w1 ⟨rfl, d1⟩
  go_wp2_with fail
  refine (right_no false r i hr hi (Or.inl rfl) _).mono ?_
  rintro e w2 ⟨rfl, d2⟩
  go_wp2_with fail
  go_ret2
  exact ⟨rfl, (D0.trans d1).trans d2⟩

set_option maxHeartbeats 1000000 in
theorem mul_no (a b c d : Nat) (ha : a < 18446744073709551616) (hb : b < 18446744073709551616) (hc : c < 18446744073709551616) (hd : d < 18446744073709551616) (h : (NoW a ∨ NoW b) ∨ (NoW c ∨ NoW d)) (w : World) :
    Calls Tryd.prog 9 #[.complex .f64 a b, .complex .f64 c d] w fun e w' => e = .returned (.tuple #[.complex .f64 0 0, .bool false]) ∧ Dr w w' := by
  obtain ⟨r, i, q, hrun, hr, hi⟩ := run_cmul_any 23 a b c d Tryd.prog w
  have H := Lib.hid h
  have D0 : Dr w (w.drewN q) := ⟨q, rfl⟩
  clear h
  go_enter Tryd.func9, Tryd.ntmps9
  go_wp2_with fail
  refine (both_no a b c d ha hb hc hd H.out _).mono ?_
  rintro e w1 ⟨rfl, d1⟩
  go_wp2_with fail
  refine (right_no false r i hr hi (Or.inl rfl) _).mono ?_
  rintro e w2 ⟨rfl, d2⟩
  go_wp2_with fail
  go_ret2
  exact ⟨rfl, (D0.trans d1).trans d2⟩

theorem neg_neg (x : Nat) : Op.negFloat .f64 (Op.negFloat .f64 x) = x := by
  show (x ^^^ _) ^^^ _ = x
  rw [Nat.xor_assoc, Nat.xor_self, Nat.xor_zero]
theorem noW_neg {x : Nat} (h : NoW x) : NoW (Op.negFloat .f64 x) := fun n hn => by
  have h2 := fi_neg hn
  rw [neg_neg] at h2
  have := h _ h2
  omega
theorem neg_lt (x : Nat) (h : x < 18446744073709551616) : Op.negFloat .f64 x < 18446744073709551616 := Nat.xor_lt_two_pow (n := 64) h (by decide)

set_option maxHeartbeats 1000000 in
theorem conj_no (a b : Nat) (ha : a < 18446744073709551616) (hb : b < 18446744073709551616) (h : NoW a ∨ NoW b) (w : World) :
    Calls Tryd.prog 14 #[.complex .f64 a b] w fun e w' => e = .returned (.tuple #[.complex .f64 0 0, .bool false]) ∧ Dr w w' := by
  have hrun : ∀ W : World, (Op.unary .neg (.float .f64 b)).run Tryd.prog W = .ok (.float .f64 (Op.negFloat .f64 b)) W := fun _ => rfl
  have hn := neg_lt b hb
  have H : Hid (NoW a ∨ NoW (Op.negFloat .f64 b)) := Lib.hid (h.imp id noW_neg)
  clear h
  go_enter Tryd.func14, Tryd.ntmps14
  go_wp2_with fail
  refine (right_no true a _ ha hn (Or.inr H.out) _).mono ?_
  rintro e w2 ⟨rfl, d2⟩
  go_wp2_with fail
  go_ret2
  exact ⟨rfl, d2⟩

set_option maxHeartbeats 1000000 in
theorem turn_no (a b : Nat) (q : Int) (ha : a < 18446744073709551616) (hb : b < 18446744073709551616) (h : NoW a ∨ NoW b) (w : World) :
    Calls Tryd.prog 15 #[.complex .f64 a b, .int .i64 q] w fun e w' => e = .returned (.tuple #[.complex .f64 0 0, .bool false]) ∧ Dr w w' := by
  have hq := i64_and_three q
  obtain ⟨K, hK⟩ := Int.eq_ofNat_of_zero_le (show 0 ≤ q % 4 by omega)
  have hK4 : K < 4 := by omega
  rw [hK] at hq
  have H := Lib.hid h
  clear h hK
  go_enter Tryd.func15, Tryd.ntmps15
  go_wp2_with fail
  refine (parts_no a b ha hb H.out _).mono ?_
  rintro e w1 ⟨rfl, d1⟩
  go_wp2_with fail
  go_loopw [0, 17] (fun z i wr => ∃ (k a' b' : Nat), k ≤ K ∧ i = .int .i64 (k : Int) ∧ z = .complex .f64 a' b' ∧ a' < 18446744073709551616 ∧ b' < 18446744073709551616 ∧ Dr w wr) (fun _ i _ => K - (intOf i).toNat)
  case atStart => exact ⟨0, a, b, Nat.zero_le _, rfl, rfl, ha, hb, d1⟩
  case round =>
    obtain ⟨k, a', b', hk, rfl, rfl, ha', hb', dr⟩ := hrel
    by_cases hlt : k < K
    · obtain ⟨r, i, q', hrun, hr, hi⟩ := run_cmul_any 23 a' b' 0 4607182418800017408 Tryd.prog wr
      have D0 : Dr w (wr.drewN q') := dr.trans ⟨q', rfl⟩
      go_wp2_with fail
      go_roundw
      case rel => exact ⟨k + 1, r, i, by omega, by go_num, rfl, hr, hi, D0⟩
      case measure => simp [intOf]; omega
    · go_wp2_with fail
      refine (right_no false a' b' ha' hb' (Or.inl rfl) _).mono ?_
      rintro e w2 ⟨rfl, d2⟩
      go_wp2_with fail
      go_ret2
      exact ⟨rfl, dr.trans d2⟩

set_option maxHeartbeats 1000000 in
theorem norm_no (a b : Nat) (ha : a < 18446744073709551616) (hb : b < 18446744073709551616) (h : NoW a ∨ NoW b) (w : World) :
    Calls Tryd.prog 16 #[.complex .f64 a b] w fun e w' => e = .returned (.tuple #[.int .i64 0, .bool false]) ∧ Dr w w' := by
  have H := Lib.hid h
  clear h
  go_enter Tryd.func16, Tryd.ntmps16
  go_wp2_with fail
  refine (parts_no a b ha hb H.out _).mono ?_
  rintro e w1 ⟨rfl, d1⟩
  go_wp2_with fail
  go_ret2
  exact ⟨rfl, d1⟩

set_option maxHeartbeats 1000000 in
theorem show_no (a b : Nat) (ha : a < 18446744073709551616) (hb : b < 18446744073709551616) (h : NoW a ∨ NoW b) (w : World) :
    Calls Tryd.prog 10 #[.complex .f64 a b] w fun e w' => e = .returned (.tuple #[.string .empty, .bool false]) ∧ Dr w w' := by
  have H := Lib.hid h
  clear h
  go_enter Tryd.func10, Tryd.ntmps10
  go_wp2_with fail
  refine (parts_no a b ha hb H.out _).mono ?_
  rintro e w1 ⟨rfl, d1⟩
  go_wp2_with fail
  go_ret2
  exact ⟨rfl, d1⟩

set_option maxHeartbeats 4000000 in
set_option maxRecDepth 100000 in
theorem gaussWhole_walk (x y : Nat) (hx : x < 18446744073709551616) (hy : y < 18446744073709551616) (w : World) :
    Calls Tryd.prog 4 #[.float .f64 x, .float .f64 y] w fun e w' => e = .returned (.bool true) ∧ Dr w w' := by
  by_cases hW : NoW x ∨ NoW y
  · have H := Lib.hid hW
    clear hW
    have z0 : (0 : Nat) < 18446744073709551616 := by decide
    have z1 : (4607182418800017408 : Nat) < 18446744073709551616 := by decide
    have e00 := fi_eq fi_zero fi_zero
    simp only [decide_true] at e00
    go_enter Tryd.func4, Tryd.ntmps4
    go_wp2_with fail
    refine (head3_any _).mono ?_
    rintro e w1 ⟨rfl, rfl⟩
    go_wp2_with fail
    refine (parts_no x y hx hy H.out _).mono ?_
    rintro e w1 ⟨rfl, d1⟩
    go_wp2_with fail
    refine (add_no x y 0 0 hx hy z0 z0 (Or.inl H.out) _).mono ?_
    rintro e w2 ⟨rfl, d2⟩
    go_wp2_with fail
    refine (mul_no _ 0 x y z1 z0 hx hy (Or.inr H.out) _).mono ?_
    rintro e w3 ⟨rfl, d3⟩
    go_wp2_with fail
    refine (sub_no 0 0 x y z0 z0 hx hy (Or.inr H.out) _).mono ?_
    rintro e w4 ⟨rfl, d4⟩
    go_wp2_with fail
    refine (conj_no x y hx hy H.out _).mono ?_
    rintro e w5 ⟨rfl, d5⟩
    go_wp2_with fail
    refine (turn_no x y 1 hx hy H.out _).mono ?_
    rintro e w6 ⟨rfl, d6⟩
    go_wp2_with fail
    refine (norm_no x y hx hy H.out _).mono ?_
    rintro e w7 ⟨rfl, d7⟩
    go_wp2_with fail
    refine (show_no x y hx hy H.out _).mono ?_
    rintro e w8 ⟨rfl, d8⟩
    have D := d1.trans (d2.trans (d3.trans (d4.trans (d5.trans (d6.trans (d7.trans d8))))))
    clear d1 d2 d3 d4 d5 d6 d7 d8
    cases h1 : (FloatKind.f64.format.order x x != some .eq) with
    | true =>
      go_wp2_with fail
      go_ret
      exact ⟨rfl, D⟩
    | false =>
      cases h2 : (FloatKind.f64.format.order y y != some .eq) with
      | true =>
        go_wp2_with fail
        go_ret
        exact ⟨rfl, D⟩
      | false =>
        cases h3 : (FloatKind.f64.format.order x 13920626448202203136 == some .lt) with
        | true =>
          go_wp2_with fail
          go_ret
          exact ⟨rfl, D⟩
        | false =>
          cases h4 : (FloatKind.f64.format.order x 4697254411347427328 == some .gt) with
          | true =>
            go_wp2_with fail
            go_ret
            exact ⟨rfl, D⟩
          | false =>
            cases h5 : (FloatKind.f64.format.order y 13920626448202203136 == some .lt) with
            | true =>
              go_wp2_with fail
              go_ret
              exact ⟨rfl, D⟩
            | false =>
              cases h6 : (FloatKind.f64.format.order y 4697254411347427328 == some .gt) with
              | true =>
                go_wp2_with fail
                go_ret
                exact ⟨rfl, D⟩
              | false =>
                obtain ⟨n, hn, cn, fn⟩ := toInt_gen x hx h1 h3 h4
                obtain ⟨m, hm, cm, fm⟩ := toInt_gen y hy h2 h5 h6
                have rx : ∀ W : World, (convert 30 3 (.float .f64 x)).run Tryd.prog W = .ok (.int .i64 n) W := fun W =>
                  run_convert_float_int W _ _ .f64 .i64 x n (by kernel_rfl) Tryd.underlying3 cn
                have ry : ∀ W : World, (convert 30 3 (.float .f64 y)).run Tryd.prog W = .ok (.int .i64 m) W := fun W =>
                  run_convert_float_int W _ _ .f64 .i64 y m (by kernel_rfl) Tryd.underlying3 cm
                have FN := Lib.hid fn
                have FM := Lib.hid fm
                have HN := Lib.hid hn
                have HM := Lib.hid hm
                clear fn fm cn cm hn hm
                cases h7 : (FloatKind.f64.format.order (floatOfInt .f64 n) x == some .eq) with
                | false =>
                  have h7' : (FloatKind.f64.format.order (floatOfInt .f64 n) x != some .eq) = true := by unfold bne; rw [h7]; rfl
                  clear h7
                  go_wp2_with fail
                  go_ret
                  exact ⟨rfl, D⟩
                | true =>
                  have h7' : (FloatKind.f64.format.order (floatOfInt .f64 n) x != some .eq) = false := by unfold bne; rw [h7]; rfl
                  have h8 : (FloatKind.f64.format.order (floatOfInt .f64 m) y != some .eq) = true := by
                    cases h9 : (FloatKind.f64.format.order (floatOfInt .f64 m) y == some .eq) with
                    | false => unfold bne; rw [h9]; rfl
                    | true =>
                      rcases H.out with h | h
                      · exact (h n (FN.out h7) HN.out).elim
                      · exact (h m (FM.out h9) HM.out).elim
                  clear h7
                  go_wp2_with fail
                  go_ret
                  exact ⟨rfl, D⟩
  · have hx2 : ∃ n, FI x n ∧ (-1048576 ≤ n ∧ n ≤ 1048576) := by
      have h : ¬ NoW x := fun c => hW (Or.inl c)
      unfold NoW at h
      simp only [Classical.not_forall, Classical.not_not] at h
      obtain ⟨n, h1, h2⟩ := h
      exact ⟨n, h1, h2⟩
    have hy2 : ∃ n, FI y n ∧ (-1048576 ≤ n ∧ n ≤ 1048576) := by
      have h : ¬ NoW y := fun c => hW (Or.inr c)
      unfold NoW at h
      simp only [Classical.not_forall, Classical.not_not] at h
      obtain ⟨n, h1, h2⟩ := h
      exact ⟨n, h1, h2⟩
    clear hW
    obtain ⟨n, fn, bn⟩ := hx2
    obtain ⟨m, fm, bm⟩ := hy2
    have HR := Lib.hid (rB_in bn bm)
    have fn2 := fi_of n (by omega)
    have fm2 := fi_of m (by omega)
    have e1 := fi_eq fn2 fn
    have e2 := fi_eq fm2 fm
    simp only [decide_true] at e1 e2
    go_enter Tryd.func4, Tryd.ntmps4
    go_wp2_with fail
    refine (head3_any _).mono ?_
    rintro e w1 ⟨rfl, rfl⟩
    go_wp2_with fail
    refine (parts_any x y n m _ fn fm (by omega) (by omega)).mono ?_
    rintro e w1 ⟨rfl, rfl⟩
    rw [partsT_in HR.out]
    go_wp2_with fail
    refine (refRight_any n m _).mono ?_
    rintro e w1 ⟨rfl, rfl⟩
    rw [HR.out]
    go_wp2_with fail
    go_ret
    exact ⟨rfl, Dr.refl _⟩

end Go.Proofs.YtglaahejijfclaaDoor
