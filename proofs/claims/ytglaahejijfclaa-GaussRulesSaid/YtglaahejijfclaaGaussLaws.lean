/-
  GaussReckons, GaussRules: the walks of the laws.
-/
import Derived.Test.YtglaahejijfclaaGaussTurn
import Derived.IntWalk
namespace Go.Proofs.Ytglaahejijfclaa
open Go.RowKit

def I64' (n : Int) : Prop := -9223372036854775808 ≤ n ∧ n ≤ 9223372036854775807

set_option maxHeartbeats 4000000 in
theorem gaussReckons_walk (a b c d q : Int) (w : World) (hq : I64' q) : Calls Try.prog 4 #[.int .i64 a, .int .i64 b, .int .i64 c, .int .i64 d, .int .i64 q] w fun e w' => e = .returned (.bool true) ∧ w = w' := by
  obtain ⟨hq0, hq1⟩ := hq
  go_enter Try.func4, Try.ntmps4
  go_wp2_with fail
  refine (head3_any _).mono ?_
  rintro e w1 ⟨rfl, rfl⟩
  go_wp2_with fail
  refine (of_any a b _).mono ?_
  rintro e w1 ⟨rfl, rfl⟩
  cases h1 : rB a b with
  | false =>
    rw [ofT_out h1]
    have H1 := Lib.hid h1
    clear h1
    go_wp2_with fail
    refine (of_any c d _).mono ?_
    rintro e w1 ⟨rfl, rfl⟩
    cases h2 : rB c d with
    | false =>
      rw [ofT_out h2]
      clear h2
      go_wp2_with fail
      refine (refRight_any a b _).mono ?_
      rintro e w1 ⟨rfl, rfl⟩
      rw [H1.out]
      go_wp2_with fail
      go_ret
      exact ⟨rfl, rfl⟩
    | true =>
      rw [ofT_in h2]
      clear h2
      go_wp2_with fail
      refine (refRight_any a b _).mono ?_
      rintro e w1 ⟨rfl, rfl⟩
      rw [H1.out]
      go_wp2_with fail
      go_ret
      exact ⟨rfl, rfl⟩
  | true =>
    rw [ofT_in h1]
    have H1 := Lib.hid h1
    have b1 := rB_bound h1
    clear h1
    go_wp2_with fail
    refine (of_any c d _).mono ?_
    rintro e w1 ⟨rfl, rfl⟩
    cases h2 : rB c d with
    | false =>
      rw [ofT_out h2]
      have H2 := Lib.hid h2
      clear h2
      go_wp2_with fail
      refine (refRight_any a b _).mono ?_
      rintro e w1 ⟨rfl, rfl⟩
      rw [H1.out]
      go_wp2_with fail
      refine (refRight_any c d _).mono ?_
      rintro e w1 ⟨rfl, rfl⟩
      rw [H2.out]
      go_wp2_with fail
      go_ret
      exact ⟨rfl, rfl⟩
    | true =>
      rw [ofT_in h2]
      have H2 := Lib.hid h2
      have b2 := rB_bound h2
      clear h2
      have fa := fi_of a (by omega)
      have fb := fi_of b (by omega)
      have fc := fi_of c (by omega)
      have fd := fi_of d (by omega)
      have mb := mul_bounds H1.out H2.out
      have nb := mul_bounds H1.out H1.out
      go_wp2_with fail
      refine (add_any _ _ _ _ a b c d _ fa fb fc fd H1.out H2.out).mono ?_
      rintro e w1 ⟨rfl, rfl⟩
      have is1 : ∀ (re im : Int) (ok : Bool) (x y : Nat) (W : World), ofT true re im = .tuple #[.complex .f64 x y, .bool ok] → Calls Try.prog 8 #[.complex .f64 x y, .bool ok, .int .i64 re, .int .i64 im] W fun e w' => e = .returned (.bool true) ∧ W = w' := by
        intro re im ok x y W h
        cases hr : rB re im with
        | true =>
          rw [ofT_in hr] at h
          simp at h
          obtain ⟨⟨rfl, rfl⟩, rfl⟩ := h
          exact is_in re im W hr
        | false =>
          rw [ofT_out hr] at h
          simp at h
          obtain ⟨⟨rfl, rfl⟩, rfl⟩ := h
          exact is_out re im W hr
      have HI := Lib.hid is1
      clear is1
      have hof : ∀ re im : Int, ∃ (x y : Nat) (ok : Bool), ofT true re im = .tuple #[.complex .f64 x y, .bool ok] := by
        intro re im
        cases hr : rB re im with
        | true => exact ⟨_, _, _, ofT_in hr⟩
        | false => exact ⟨_, _, _, ofT_out hr⟩
      have HF := Lib.hid hof
      clear hof
      obtain ⟨x1, y1, o1, e1⟩ := HF.out (a + c) (b + d)
      rw [e1]
      have E1 := Lib.hid e1
      clear e1
      go_wp2_with fail
      refine (HI.out _ _ _ _ _ _ E1.out).mono ?_
      rintro e w1 ⟨rfl, rfl⟩
      go_wp2_with fail
      refine (sub_any _ _ _ _ a b c d _ fa fb fc fd H1.out H2.out).mono ?_
      rintro e w1 ⟨rfl, rfl⟩
      obtain ⟨x2, y2, o2, e2⟩ := HF.out (a - c) (b - d)
      rw [e2]
      have E2 := Lib.hid e2
      clear e2
      go_wp2_with fail
      refine (HI.out _ _ _ _ _ _ E2.out).mono ?_
      rintro e w1 ⟨rfl, rfl⟩
      go_wp2_with fail
      refine (mul_any _ _ _ _ a b c d _ fa fb fc fd H1.out H2.out).mono ?_
      rintro e w1 ⟨rfl, rfl⟩
      obtain ⟨x3, y3, o3, e3⟩ := HF.out (a * c - b * d) (a * d + b * c)
      rw [e3]
      have E3 := Lib.hid e3
      clear e3
      go_wp2_with fail
      refine (HI.out _ _ _ _ _ _ E3.out).mono ?_
      rintro e w1 ⟨rfl, rfl⟩
      go_wp2_with fail
      refine (conj_any _ _ a b _ fa fb H1.out).mono ?_
      rintro e w1 ⟨rfl, rfl⟩
      obtain ⟨x4, y4, o4, e4⟩ := HF.out a (-b)
      rw [e4]
      have E4 := Lib.hid e4
      clear e4
      go_wp2_with fail
      refine (HI.out _ _ _ _ _ _ E4.out).mono ?_
      rintro e w1 ⟨rfl, rfl⟩
      go_wp2_with fail
      refine (turn_any _ _ a b q _ fa fb H1.out).mono ?_
      rintro e w1 ⟨rfl, rfl⟩
      have hT := turnN_in (q % 4).toNat (a, b) H1.out
      rw [ofT_in hT]
      have HT := Lib.hid hT
      clear hT
      go_wp2_with fail
      refine (refTurn_any a b q _ H1.out hq0 hq1).mono ?_
      rintro e w1 ⟨rfl, rfl⟩
      go_wp2_with fail
      refine (norm_any _ _ a b _ fa fb H1.out).mono ?_
      rintro e w1 ⟨rfl, rfl⟩
      go_wp2_with fail
      refine (is_in _ _ _ HT.out).mono ?_
      rintro e w1 ⟨rfl, rfl⟩
      go_wp2_with fail
      go_ret
      exact ⟨rfl, rfl⟩


theorem turnN_add (k : Nat) (a b c d : Int) : turnN k (a + c, b + d) = ((turnN k (a, b)).1 + (turnN k (c, d)).1, (turnN k (a, b)).2 + (turnN k (c, d)).2) := by
  induction k with
  | zero => rfl
  | succ k ih => simp only [turnN, ih, Int.neg_add]
theorem norm_mul (a b c d : Int) : (a * c - b * d) * (a * c - b * d) + (a * d + b * c) * (a * d + b * c) = (a * a + b * b) * (c * c + d * d) := by grind
theorem turnN_small (k : Nat) (p : Int × Int) (M : Int) (h : -M ≤ p.1 ∧ p.1 ≤ M ∧ -M ≤ p.2 ∧ p.2 ≤ M) : -M ≤ (turnN k p).1 ∧ (turnN k p).1 ≤ M ∧ -M ≤ (turnN k p).2 ∧ (turnN k p).2 ≤ M := by
  induction k with
  | zero => exact h
  | succ k ih => simp only [turnN]; omega

set_option maxHeartbeats 4000000 in
set_option maxRecDepth 100000 in
theorem gaussRules_walk (a b c d q : Int) (w : World) : Calls Try.prog 5 #[.int .i64 a, .int .i64 b, .int .i64 c, .int .i64 d, .int .i64 q] w fun e w' => e = .returned (.bool true) ∧ w = w' := by
  have T1 : Hid (-699 ≤ a.tmod 700 ∧ a.tmod 700 ≤ 699) := Lib.hid (by rw [Int.tmod_eq_emod]; split <;> simp <;> omega)
  have T2 : Hid (-699 ≤ b.tmod 700 ∧ b.tmod 700 ≤ 699) := Lib.hid (by rw [Int.tmod_eq_emod]; split <;> simp <;> omega)
  have T3 : Hid (-699 ≤ c.tmod 700 ∧ c.tmod 700 ≤ 699) := Lib.hid (by rw [Int.tmod_eq_emod]; split <;> simp <;> omega)
  have T4 : Hid (-699 ≤ d.tmod 700 ∧ d.tmod 700 ≤ 699) := Lib.hid (by rw [Int.tmod_eq_emod]; split <;> simp <;> omega)
  go_enter Try.func5, Try.ntmps5
  go_wp2_with fail
  refine (head3_any _).mono ?_
  rintro e w1 ⟨rfl, rfl⟩
  go_wp2_with fail
  refine (of_any (a.tmod 700) (b.tmod 700) _).mono ?_
  rintro e w1 ⟨rfl, rfl⟩
  generalize a.tmod 700 = A at *
  generalize b.tmod 700 = B at *
  have t1 := T1.out
  have t2 := T2.out
  clear T1 T2
  have H1 := Lib.hid (rB_in (re := A) (im := B) (by omega) (by omega))
  rw [ofT_in H1.out]
  go_wp2_with fail
  refine (of_any (c.tmod 700) (d.tmod 700) _).mono ?_
  rintro e w1 ⟨rfl, rfl⟩
  generalize c.tmod 700 = C at *
  generalize d.tmod 700 = D at *
  have t3 := T3.out
  have t4 := T4.out
  clear T3 T4
  have H2 := Lib.hid (rB_in (re := C) (im := D) (by omega) (by omega))
  rw [ofT_in H2.out]
  have fa := fi_of A (by omega)
  have fb := fi_of B (by omega)
  have fc := fi_of C (by omega)
  have fd := fi_of D (by omega)
  have p1 := abs_mul_le (n := A) (k := C) (A := 699) (B := 699) (by omega) (by omega)
  have p2 := abs_mul_le (n := B) (k := D) (A := 699) (B := 699) (by omega) (by omega)
  have p3 := abs_mul_le (n := A) (k := D) (A := 699) (B := 699) (by omega) (by omega)
  have p4 := abs_mul_le (n := B) (k := C) (A := 699) (B := 699) (by omega) (by omega)
  have p5 := abs_mul_le (n := A) (k := A) (A := 699) (B := 699) (by omega) (by omega)
  have p6 := abs_mul_le (n := B) (k := B) (A := 699) (B := 699) (by omega) (by omega)
  have p7 := abs_mul_le (n := C) (k := C) (A := 699) (B := 699) (by omega) (by omega)
  have p8 := abs_mul_le (n := D) (k := D) (A := 699) (B := 699) (by omega) (by omega)
  have HP := Lib.hid (rB_in (re := A * C - B * D) (im := A * D + B * C) (by omega) (by omega))
  have HS := Lib.hid (rB_in (re := A + C) (im := B + D) (by omega) (by omega))
  have HU := Lib.hid (rB_in (re := A) (im := -B) (by omega) (by omega))
  have HV := Lib.hid (rB_in (re := C) (im := -D) (by omega) (by omega))
  have HZ := Lib.hid (rB_in (re := A * C - B * D) (im := -(A * D + B * C)) (by omega) (by omega))
  have HN := Lib.hid (norm_mul A B C D)
  have hn1 : (A * A + B * B).natAbs ≤ 977202 := by omega
  have hn2 : (C * C + D * D).natAbs ≤ 977202 := by omega
  have hnn := abs_mul_le hn1 hn2
  go_wp2_with fail
  refine (mul_any _ _ _ _ A B C D _ fa fb fc fd H1.out H2.out).mono ?_
  rintro e w1 ⟨rfl, rfl⟩
  rw [ofT_in HP.out]
  go_wp2_with fail
  refine (add_any _ _ _ _ A B C D _ fa fb fc fd H1.out H2.out).mono ?_
  rintro e w1 ⟨rfl, rfl⟩
  rw [ofT_in HS.out]
  go_wp2_with fail
  refine (norm_any _ _ A B _ fa fb H1.out).mono ?_
  rintro e w1 ⟨rfl, rfl⟩
  go_wp2_with fail
  refine (norm_any _ _ C D _ fc fd H2.out).mono ?_
  rintro e w1 ⟨rfl, rfl⟩
  have fp := fi_of (A * C - B * D) (by omega)
  have fq := fi_of (A * D + B * C) (by omega)
  go_wp2_with fail
  refine (norm_any _ _ _ _ _ fp fq HP.out).mono ?_
  rintro e w1 ⟨rfl, rfl⟩
  rw [HN.out]
  generalize A * A + B * B = N1 at *
  generalize C * C + D * D = N2 at *
  generalize hNN : N1 * N2 = NN at *
  have HNN := Lib.hid hNN
  have hnx : IntKind.i64.wrap (N1 * N2) = NN := by rw [HNN.out]; exact IntWalk.i64_in _ (by omega)
  clear hNN
  go_wp2_with fail
  refine (conj_any _ _ A B _ fa fb H1.out).mono ?_
  rintro e w1 ⟨rfl, rfl⟩
  rw [ofT_in HU.out]
  go_wp2_with fail
  refine (conj_any _ _ C D _ fc fd H2.out).mono ?_
  rintro e w1 ⟨rfl, rfl⟩
  rw [ofT_in HV.out]
  have fb' := fi_of (-B) (by omega)
  have fd' := fi_of (-D) (by omega)
  go_wp2_with fail
  have hm := mul_any _ _ _ _ A (-B) C (-D) w fa fb' fc fd' HU.out HV.out
  rw [show A * C - -B * -D = A * C - B * D by grind, show A * -D + -B * C = -(A * D + B * C) by grind] at hm
  refine hm.mono ?_
  clear hm
  rintro e w1 ⟨rfl, rfl⟩
  rw [ofT_in HZ.out]
  go_wp2_with fail
  refine (conj_any _ _ _ _ _ fp fq HP.out).mono ?_
  rintro e w1 ⟨rfl, rfl⟩
  rw [ofT_in HZ.out]
  have fq' := fi_of (-(A * D + B * C)) (by omega)
  have e1 := fi_eq fp fp
  have e2 := fi_eq fq' fq'
  simp only [decide_true] at e1 e2
  go_wp2_with fail
  refine (turn_any _ _ A B q _ fa fb H1.out).mono ?_
  rintro e w1 ⟨rfl, rfl⟩
  have HT := Lib.hid (turnN_in (q % 4).toNat (A, B) H1.out)
  rw [ofT_in HT.out]
  have hq1 := turnN_small (q % 4).toNat (A, B) 699 (by simp; omega)
  go_wp2_with fail
  refine (turn_any _ _ C D q _ fc fd H2.out).mono ?_
  rintro e w1 ⟨rfl, rfl⟩
  have HR := Lib.hid (turnN_in (q % 4).toNat (C, D) H2.out)
  rw [ofT_in HR.out]
  have hq2 := turnN_small (q % 4).toNat (C, D) 699 (by simp; omega)
  have fs1 := fi_of (A + C) (by omega)
  have fs2 := fi_of (B + D) (by omega)
  go_wp2_with fail
  have hts := turn_any _ _ (A + C) (B + D) q w fs1 fs2 HS.out
  rw [turnN_add] at hts
  generalize turnN (q % 4).toNat (A, B) = tp at *
  generalize turnN (q % 4).toNat (C, D) = rp at *
  obtain ⟨t1, t2⟩ := tp
  obtain ⟨r1, r2⟩ := rp
  simp only [] at hts hq1 hq2 HT HR ⊢
  have HSum := Lib.hid (rB_in (re := t1 + r1) (im := t2 + r2) (by omega) (by omega))
  rw [ofT_in HSum.out] at hts
  refine hts.mono ?_
  clear hts
  rintro e w1 ⟨rfl, rfl⟩
  have ft1 := fi_of t1 (by omega)
  have ft2 := fi_of t2 (by omega)
  have fr1 := fi_of r1 (by omega)
  have fr2 := fi_of r2 (by omega)
  go_wp2_with fail
  refine (add_any _ _ _ _ t1 t2 r1 r2 _ ft1 ft2 fr1 fr2 HT.out HR.out).mono ?_
  rintro e w1 ⟨rfl, rfl⟩
  rw [ofT_in HSum.out]
  have fu1 := fi_of (t1 + r1) (by omega)
  have fu2 := fi_of (t2 + r2) (by omega)
  go_wp2_with fail
  have hsb := sub_any _ _ _ _ (t1 + r1) (t2 + r2) r1 r2 w fu1 fu2 fr1 fr2 HSum.out HR.out
  rw [Int.add_sub_cancel, Int.add_sub_cancel, ofT_in HT.out] at hsb
  refine hsb.mono ?_
  clear hsb
  rintro e w1 ⟨rfl, rfl⟩
  have e3 := fi_eq fu1 fu1
  have e4 := fi_eq fu2 fu2
  have e5 := fi_eq ft1 ft1
  have e6 := fi_eq ft2 ft2
  simp only [decide_true] at e3 e4 e5 e6
  go_wp2_with fail
  go_ret
  exact ⟨rfl, rfl⟩

end Go.Proofs.Ytglaahejijfclaa
