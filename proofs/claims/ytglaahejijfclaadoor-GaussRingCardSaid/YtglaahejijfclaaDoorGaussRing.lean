/-
  GaussRing: products go over sums; what is shown tells numbers apart.
-/
import Derived.Test.YtglaahejijfclaaDoorGaussShow
import Derived.IntWalk
import Derived.Test.YtglaahejijfclaaDoorReadI
import Derived.Stop.LaidErr
import Derived.LaidMore
import Derived.Stop.Joined
namespace Go.Proofs.YtglaahejijfclaaDoor
open Go.RowKit

theorem ba_inj {a b : List UInt8} (h : (⟨a.toArray⟩ : ByteArray) = ⟨b.toArray⟩) : a = b := by
  have := congrArg (fun s : ByteArray => s.data.toList) h
  simpa using this

set_option maxHeartbeats 4000000 in
set_option maxRecDepth 100000 in
theorem gaussRing_walk (a b c d e' f : Int) (w : World) (ht : PowTab w) :
    Calls Tryd.prog 3 #[.int .i64 a, .int .i64 b, .int .i64 c, .int .i64 d, .int .i64 e', .int .i64 f] w fun e w' => e = .returned (.bool true) ∧ Kp Noone w w' := by
  have T1 : Hid (-399 ≤ a.tmod 400 ∧ a.tmod 400 ≤ 399) := Lib.hid (by rw [Int.tmod_eq_emod]; split <;> simp <;> omega)
  have T2 : Hid (-399 ≤ b.tmod 400 ∧ b.tmod 400 ≤ 399) := Lib.hid (by rw [Int.tmod_eq_emod]; split <;> simp <;> omega)
  have T3 : Hid (-399 ≤ c.tmod 400 ∧ c.tmod 400 ≤ 399) := Lib.hid (by rw [Int.tmod_eq_emod]; split <;> simp <;> omega)
  have T4 : Hid (-399 ≤ d.tmod 400 ∧ d.tmod 400 ≤ 399) := Lib.hid (by rw [Int.tmod_eq_emod]; split <;> simp <;> omega)
  have T5 : Hid (-399 ≤ e'.tmod 400 ∧ e'.tmod 400 ≤ 399) := Lib.hid (by rw [Int.tmod_eq_emod]; split <;> simp <;> omega)
  have T6 : Hid (-399 ≤ f.tmod 400 ∧ f.tmod 400 ≤ 399) := Lib.hid (by rw [Int.tmod_eq_emod]; split <;> simp <;> omega)
  go_enter Tryd.func3, Tryd.ntmps3
  go_wp2_with fail
  refine (head3_any _).mono ?_
  rintro e w1 ⟨rfl, rfl⟩
  go_wp2_with fail
  refine (of_any (a.tmod 400) (b.tmod 400) _).mono ?_
  rintro e w1 ⟨rfl, rfl⟩
  generalize a.tmod 400 = A at *
  generalize b.tmod 400 = B at *
  have t1 := T1.out
  have t2 := T2.out
  have H1 := Lib.hid (rB_in (re := A) (im := B) (by omega) (by omega))
  rw [ofT_in H1.out]
  go_wp2_with fail
  refine (of_any (c.tmod 400) (d.tmod 400) _).mono ?_
  rintro e w1 ⟨rfl, rfl⟩
  generalize c.tmod 400 = C at *
  generalize d.tmod 400 = D at *
  have t3 := T3.out
  have t4 := T4.out
  have H2 := Lib.hid (rB_in (re := C) (im := D) (by omega) (by omega))
  rw [ofT_in H2.out]
  go_wp2_with fail
  refine (of_any (e'.tmod 400) (f.tmod 400) _).mono ?_
  rintro e w1 ⟨rfl, rfl⟩
  generalize e'.tmod 400 = E at *
  generalize f.tmod 400 = F at *
  have t5 := T5.out
  have t6 := T6.out
  clear T1 T2 T3 T4 T5 T6
  have H3 := Lib.hid (rB_in (re := E) (im := F) (by omega) (by omega))
  rw [ofT_in H3.out]
  have fa := fi_of A (by omega)
  have fb := fi_of B (by omega)
  have fc := fi_of C (by omega)
  have fd := fi_of D (by omega)
  have fe := fi_of E (by omega)
  have ff := fi_of F (by omega)
  have HS := Lib.hid (rB_in (re := A + C) (im := B + D) (by omega) (by omega))
  have fs1 := fi_of (A + C) (by omega)
  have fs2 := fi_of (B + D) (by omega)
  have p1 := abs_mul_le (n := A) (k := E) (A := 399) (B := 399) (by omega) (by omega)
  have p2 := abs_mul_le (n := B) (k := F) (A := 399) (B := 399) (by omega) (by omega)
  have p3 := abs_mul_le (n := A) (k := F) (A := 399) (B := 399) (by omega) (by omega)
  have p4 := abs_mul_le (n := B) (k := E) (A := 399) (B := 399) (by omega) (by omega)
  have p5 := abs_mul_le (n := C) (k := E) (A := 399) (B := 399) (by omega) (by omega)
  have p6 := abs_mul_le (n := D) (k := F) (A := 399) (B := 399) (by omega) (by omega)
  have p7 := abs_mul_le (n := C) (k := F) (A := 399) (B := 399) (by omega) (by omega)
  have p8 := abs_mul_le (n := D) (k := E) (A := 399) (B := 399) (by omega) (by omega)
  have g1 : (A + C) * E - (B + D) * F = (A * E - B * F) + (C * E - D * F) := by grind
  have g2 : (A + C) * F + (B + D) * E = (A * F + B * E) + (C * F + D * E) := by grind
  have G1 := Lib.hid g1
  have G2 := Lib.hid g2
  clear g1 g2
  have hmul1 := fun w => mul_any _ _ _ _ (A + C) (B + D) E F w fs1 fs2 fe ff HS.out H3.out
  rw [G1.out, G2.out] at hmul1
  have hmul2 := fun w => mul_any _ _ _ _ A B E F w fa fb fe ff H1.out H3.out
  have hmul3 := fun w => mul_any _ _ _ _ C D E F w fc fd fe ff H2.out H3.out
  have hmul4 := fun w => mul_any _ _ _ _ E F A B w fe ff fa fb H3.out H1.out
  rw [show E * A - F * B = A * E - B * F by grind, show E * B + F * A = A * F + B * E by grind] at hmul4
  clear G1 G2
  have hq1 : (A * E - B * F).natAbs ≤ 318402 := by omega
  have hq2 : (A * F + B * E).natAbs ≤ 318402 := by omega
  have hr1 : (C * E - D * F).natAbs ≤ 318402 := by omega
  have hr2 : (C * F + D * E).natAbs ≤ 318402 := by omega
  generalize A * E - B * F = Q1 at *
  generalize A * F + B * E = Q2 at *
  generalize C * E - D * F = R1 at *
  generalize C * F + D * E = R2 at *
  clear p1 p2 p3 p4 p5 p6 p7 p8
  have HQ := Lib.hid (rB_in (re := Q1) (im := Q2) (by omega) (by omega))
  have HR := Lib.hid (rB_in (re := R1) (im := R2) (by omega) (by omega))
  have HT := Lib.hid (rB_in (re := Q1 + R1) (im := Q2 + R2) (by omega) (by omega))
  have fq1 := fi_of Q1 (by omega)
  have fq2 := fi_of Q2 (by omega)
  have fr1 := fi_of R1 (by omega)
  have fr2 := fi_of R2 (by omega)
  have fu1 := fi_of (Q1 + R1) (by omega)
  have fu2 := fi_of (Q2 + R2) (by omega)
  have e1 := fi_eq fu1 fu1
  have e2 := fi_eq fu2 fu2
  have e3 := fi_eq fq1 fq1
  have e4 := fi_eq fq2 fq2
  simp only [decide_true] at e1 e2 e3 e4
  have HM1 := Lib.hid hmul1
  have HM2 := Lib.hid hmul2
  have HM3 := Lib.hid hmul3
  have HM4 := Lib.hid hmul4
  clear hmul1 hmul2 hmul3 hmul4
  go_wp2_with fail
  refine (add_any _ _ _ _ A B C D _ fa fb fc fd H1.out H2.out).mono ?_
  rintro e w1 ⟨rfl, rfl⟩
  rw [ofT_in HS.out]
  go_wp2_with fail
  refine (HM1.out _).mono ?_
  rintro e w1 ⟨rfl, rfl⟩
  rw [ofT_in HT.out]
  go_wp2_with fail
  refine (HM2.out _).mono ?_
  rintro e w1 ⟨rfl, rfl⟩
  rw [ofT_in HQ.out]
  go_wp2_with fail
  refine (HM3.out _).mono ?_
  rintro e w1 ⟨rfl, rfl⟩
  rw [ofT_in HR.out]
  go_wp2_with fail
  refine (add_any _ _ _ _ Q1 Q2 R1 R2 _ fq1 fq2 fr1 fr2 HQ.out HR.out).mono ?_
  rintro e w1 ⟨rfl, rfl⟩
  rw [ofT_in HT.out]
  go_wp2_with fail
  refine (HM4.out _).mono ?_
  rintro e w1 ⟨rfl, rfl⟩
  rw [ofT_in HQ.out]
  go_wp2_with fail
  refine (show_ok _ _ A B _ fa fb H1.out ht).mono ?_
  rintro e w1 ⟨rfl, k1⟩
  go_wp2_with fail
  refine (show_ok _ _ C D _ fc fd H2.out (ht.keep k1)).mono ?_
  rintro e w2 ⟨rfl, k2⟩
  have k3 := k1.trans k2
  have e5 := fi_eq fa fc
  have e6 := fi_eq fb fd
  have HV : Hid (((showL A B == showL C D) == (decide (A = C) && decide (B = D))) = true) := Lib.hid (by
    by_cases h : A = C ∧ B = D
    · obtain ⟨rfl, rfl⟩ := h
      simp
    · have h1 : (showL A B == showL C D) = false := by
        cases hc : (showL A B == showL C D) with
        | false => rfl
        | true => exact (h (showL_inj (beq_iff_eq.1 hc))).elim
      have h2 : (decide (A = C) && decide (B = D)) = false := by
        cases hc : (decide (A = C) && decide (B = D)) with
        | false => rfl
        | true => simp at hc; exact (h hc).elim
      rw [h1, h2]; rfl)
  clear k1 k2
  go_wp2_with fail
  go_ret
  exact ⟨ret_eq (by show Value.bool _ = _; rw [← HV.out]), k3⟩

theorem powTab_of {W : World} (h : laidMetH Tryd.prog Rows.gaussRingRow.laid W) : PowTab W := by
  rw [MakeChecks.laidMetH_plain _ _ _ (by kernel_rfl)] at h
  have h2 : laidMet Tryd.prog [("internal/strconv.uint64pow10", Rows.laid_internal_strconv_uint64pow10)] W := h.tail.tail
  exact Lib.tabIs_of_head (t := 96) (e := 69) (n := 20) gTab (by kernel_rfl) (by kernel_rfl) (by kernel_rfl) (by kernel_rfl) (by kernel_rfl) h2

set_option maxRecDepth 100000 in
theorem gaussRing_core {H : Type} {enc : TypeId × Value → H} (W : World) (base : Nat) (v0 : Value) (d0 : DataW H) (p0 : List MemPlace) (v1 : Value) (d1 : DataW H) (p1 : List MemPlace) (v2 : Value) (d2 : DataW H) (p2 : List MemPlace) (v3 : Value) (d3 : DataW H) (p3 : List MemPlace) (v4 : Value) (d4 : DataW H) (p4 : List MemPlace) (v5 : Value) (d5 : DataW H) (p5 : List MemPlace)
    (h0 : DataW.Trod enc Tryd.prog W 0 (fun _ => true) true 3 v0 d0 p0) (h1 : DataW.Trod enc Tryd.prog W 0 (fun _ => true) true 3 v1 d1 p1) (h2 : DataW.Trod enc Tryd.prog W 0 (fun _ => true) true 3 v2 d2 p2)
    (h3 : DataW.Trod enc Tryd.prog W 0 (fun _ => true) true 3 v3 d3 p3) (h4 : DataW.Trod enc Tryd.prog W 0 (fun _ => true) true 3 v4 d4 p4) (h5 : DataW.Trod enc Tryd.prog W 0 (fun _ => true) true 3 v5 d5 p5)
    (g0 : Value.okWide Tryd.prog W .any base 3 v0) (g1 : Value.okWide Tryd.prog W .any base 3 v1) (g2 : Value.okWide Tryd.prog W .any base 3 v2) (g3 : Value.okWide Tryd.prog W .any base 3 v3) (g4 : Value.okWide Tryd.prog W .any base 3 v4) (g5 : Value.okWide Tryd.prog W .any base 3 v5)
    (_w0 : ∀ n ∈ d0.weights Tryd.prog 3, n ≤ reachBytes) (_w1 : ∀ n ∈ d1.weights Tryd.prog 3, n ≤ reachBytes) (_w2 : ∀ n ∈ d2.weights Tryd.prog 3, n ≤ reachBytes) (_w3 : ∀ n ∈ d3.weights Tryd.prog 3, n ≤ reachBytes) (_w4 : ∀ n ∈ d4.weights Tryd.prog 3, n ≤ reachBytes) (_w5 : ∀ n ∈ d5.weights Tryd.prog 3, n ≤ reachBytes)
    (hL : laidMetH Tryd.prog Rows.gaussRingRow.laid W) :
    Calls Tryd.prog 3 #[v0, v1, v2, v3, v4, v5] W fun e w' => e = .returned (.bool true) ∧ Kp Noone W w' := by
  obtain ⟨k0, rfl, -⟩ := arg_i64 h0 g0
  obtain ⟨k1, rfl, -⟩ := arg_i64 h1 g1
  obtain ⟨k2, rfl, -⟩ := arg_i64 h2 g2
  obtain ⟨k3, rfl, -⟩ := arg_i64 h3 g3
  obtain ⟨k4, rfl, -⟩ := arg_i64 h4 g4
  obtain ⟨k5, rfl, -⟩ := arg_i64 h5 g5
  exact gaussRing_walk k0 k1 k2 k3 k4 k5 W (powTab_of hL)

end Go.Proofs.YtglaahejijfclaaDoor
