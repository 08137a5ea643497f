/-
  THE WALK of the document's snap: Area, Paper.
-/
import Derived.Test.YtigdhdclfdojgaaSnapSim
import Derived.Test.YtigdhdclfdojgaaSnapWalk
import Derived.Test.YtigdhdclfdojgaaPackSeal
namespace Go.Proofs.Ytigdhdclfdojgaa
open Go.RowKit

set_option maxHeartbeats 400000 in
theorem area_ref (t : Nat) (w : World) : Calls Try.prog 60 #[.int .i64 (t : Int)] w fun e w' => e = .returned (.string (areaN t)) ∧ w = w' := by
  have h2 := tmod_two t
  have hw : IntKind.i64.wrap ((t : Int).tmod 2) = (t : Int).tmod 2 := IntWalk.i64_in _ (by rw [h2]; omega)
  by_cases h : t % 2 = 0
  · have h3 : (t : Int).tmod 2 = 0 := by rw [h2, h]; rfl
    have h4 : areaN t = ckA := by unfold areaN; rw [if_pos h]
    rw [h4]
    clear h4 h2 h
    go_enter Try.func60, Try.ntmps60
    go_wp2_with fail
    go_ret
    exact ⟨rfl, rfl⟩
  · have h3 : (t : Int).tmod 2 = 1 := by rw [h2]; omega
    have h4 : areaN t = ckB := by unfold areaN; rw [if_neg h]
    rw [h4]
    clear h4 h2 h
    go_enter Try.func60, Try.ntmps60
    go_wp2_with fail
    go_ret
    exact ⟨rfl, rfl⟩

set_option maxHeartbeats 1000000 in
theorem paper_ref (t sl sum : Nat) (w : World) (ht : t ≤ 4611686018427387904) (hs : sl ≤ 4611686018427387904) (hsum : W64 sum) :
    Calls Try.prog 61 #[.int .i64 (t : Int), .int .i64 (sl : Int), .int .u64 (sum : Int)] w (NewB w (paperL t sl sum)) := by
  obtain ⟨i0, hi, hz0, hz1, hz2⟩ := info_parts info_u8
  have hwt : IntKind.u64.wrap (t : Int) = (t : Int) := IntWalk.u64_in _ (by omega)
  have hws : IntKind.u64.wrap (sl : Int) = (sl : Int) := IntWalk.u64_in _ (by omega)
  have n1 : (numL t).length ≤ 9 := by have := sizeN_le t; rw [length_numL]; omega
  have n2 : (numL sl).length ≤ 9 := by have := sizeN_le sl; rw [length_numL]; omega
  have n3 : (numL sum).length ≤ 9 := by have := sizeN_le sum; rw [length_numL]; omega
  have hN1 := fun w => refNum_any t w (by unfold W64; omega)
  have hN2 := fun w => refNum_any sl w (by unfold W64; omega)
  have hN3 := fun w => refNum_any sum w hsum
  have hP : paperL t sl sum = (numL t ++ numL sl ++ numL sum) ++ eightL (sumN (numL t ++ numL sl ++ numL sum)) := rfl
  rw [hP]
  have HTB := Lib.hid (And.intro ht hs)
  clear hP hsum ht hs
  generalize numL t = l1 at *
  generalize numL sl = l2 at *
  generalize numL sum = l3 at *
  unfold NewB at hN1 hN2 hN3 ⊢
  generalize ha1 : l1.length = a1 at *
  generalize ha2 : l2.length = a2 at *
  generalize ha3 : l3.length = a3 at *
  have HA2 := Lib.hid ha2
  have HA3 := Lib.hid ha3
  have HLen : Hid ((l1 ++ l2 ++ l3).length = a1 + a2 + a3) := Lib.hid (by rw [List.length_append, List.length_append, ha1, ha2, ha3])
  clear ha1 ha2 ha3
  go_enter Try.func61, Try.ntmps61
  go_wp2_with fail
  refine (hN1 _).mono ?_
  rintro e w1 ⟨b1, c1, rfl, o1, k1⟩
  clear hN1
  go_wp2_with fail
  refine (hN2 _).mono ?_
  rintro e w2 ⟨b2, c2, rfl, o2, k2⟩
  clear hN2
  have s1 := k1.size
  have o1b := (o1.mono (G := fun j => w.heap.size ≤ j ∧ j < w1.heap.size) (fun j _ c => Ex.none c)).keep k2
  have o2b := o2.bs
  go_wp2_with (at_builtin; refine wpList_append_gen _ rfl (.tmp 10) (.tmp 13) 22 rfl 5 i0 (.int .u8 0) 1 1 Try.underlying22 hi hz0 hz1 hz2 rfl b1 a1 c1 rfl b2 a2 c2 rfl _ (bv l1) o1b (bv l2) (by rw [length_bv, HA2.out, Nat.mul_one]) o2b.row (bv_one _) (by omega) (by unfold maxLen; omega) ?_)
  intro b3 c3 w3 o3 k3
  rw [bv_append] at o3
  have K3 : Kp Noone w w3 := (k1.trans k2).fin k3 (fun j c => Or.inr c.1)
  have s2 := k2.size
  have o3a := o3.mono (G := fun j => w.heap.size ≤ j) (fun j _ c => by rcases c with c | c; exact c.1; have := c.1; omega)
  have HK3 := Lib.hid K3
  have HO3 := Lib.hid o3a
  clear o3 o3a K3 k3 o1b o2b o1 o2 k1 k2
  go_wp2_with fail
  refine (hN3 _).mono ?_
  rintro e w4 ⟨b4, c4, rfl, o4, k4⟩
  clear hN3
  have s34 := k4.size
  have HK4 := Lib.hid (HK3.out.trans k4)
  have o3b := (HO3.out.mono (G := fun j => w.heap.size ≤ j ∧ j < w3.heap.size) (fun j hj c => ⟨c, hj⟩)).keep k4
  have o4b := o4.bs
  go_wp2_with (at_builtin; refine wpList_append_gen _ rfl (.tmp 15) (.tmp 17) 22 rfl 5 i0 (.int .u8 0) 1 1 Try.underlying22 hi hz0 hz1 hz2 rfl b3 (a1 + a2) c3 rfl b4 a3 c4 rfl _ (bv (l1 ++ l2)) o3b (bv l3) (by rw [length_bv, HA3.out, Nat.mul_one]) o4b.row (bv_one _) (by omega) (by unfold maxLen; omega) ?_)
  intro b5 c5 w5 o5 k5
  rw [bv_append] at o5
  have HK5 := Lib.hid (HK4.out.fin k5 (fun j c => Or.inr c.1))
  have hb5 := o5.bs
  have hz5 := HK5.out.size
  clear o5 k5 o3b o4b o4 k4 HO3
  go_wp2_with fail
  refine (refSeal_any b5 (a1 + a2 + a3) c5 _ w5 hb5 (by omega)).mono ?_
  rintro e w6 ⟨b6, c6, rfl, o6, k6⟩
  have HO6 := Lib.hid o6
  have HK6 := Lib.hid (HK5.out.trans k6)
  clear o6 k6 hb5
  go_wp2_with fail
  go_ret
  have hL : ((l1 ++ l2 ++ l3) ++ eightL (sumN (l1 ++ l2 ++ l3))).length = a1 + a2 + a3 + 8 := by rw [List.length_append, HLen.out, length_eightL]
  rw [hL]
  exact ⟨b6, c6, rfl, HO6.out.mono (fun j _ c => Or.inr ⟨by have := (Ex.none c).1; omega, (Ex.none c).2⟩), HK6.out⟩

end Go.Proofs.Ytigdhdclfdojgaa
