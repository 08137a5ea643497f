/-
  THE WALKS of pack's Reader's other calls.
-/
import Derived.Test.YtlpdoefbjhlegaaReader
namespace Go.Proofs.Ytlpdoefbjhlegaa
open Go.RowKit

def rcount (left : List UInt8) (bad : Nat) (most : Int) : (List UInt8 × Nat) × Nat :=
  if (max 0 most).toNat < (rnum left bad).2 then (((rnum left bad).1.1, 12), 0) else rnum left bad
def rtext (left : List UInt8) (bad : Nat) (most : Int) : (List UInt8 × Nat) × List UInt8 :=
  if (rcount left bad most).1.2 ≠ 0 then ((rcount left bad most).1, [])
  else if (rcount left bad most).1.1.length < (rcount left bad most).2 then (((rcount left bad most).1.1, 10), [])
  else (((rcount left bad most).1.1.drop (rcount left bad most).2, 0), (rcount left bad most).1.1.take (rcount left bad most).2)
def rdone (left : List UInt8) (bad : Nat) : Nat := if bad = 0 ∧ left ≠ [] then 13 else bad

theorem rnum_lt (left : List UInt8) (bad : Nat) : W64 (rnum left bad).2 := by
  unfold rnum W64
  split
  · simp
  · split
    · simp
    · rename_i c r
      split
      · simp
      · split
        · simp
        · split
          · simp
          · have h1 := ofBE_lt (r.take c.toNat)
            have h2 := pow256_le8 (j := (r.take c.toNat).length) (by rw [List.length_take]; omega)
            simp only []
            omega
theorem rcount_le (left : List UInt8) (bad : Nat) (most : Int) (hm : most ≤ 9223372036854775807) : (rcount left bad most).2 ≤ 9223372036854775807 := by
  unfold rcount
  split
  · simp
  · omega

theorem rnum_len (left : List UInt8) (bad : Nat) : (rnum left bad).1.1.length ≤ left.length := by
  unfold rnum
  split
  · exact Nat.le_refl _
  · split
    · simp
    · split
      · exact Nat.le_refl _
      · split
        · exact Nat.le_refl _
        · split
          · exact Nat.le_refl _
          · simp only [List.length_drop, List.length_cons]
            omega
theorem rcount_len (left : List UInt8) (bad : Nat) (most : Int) : (rcount left bad most).1.1.length ≤ left.length := by
  unfold rcount
  split
  · exact rnum_len left bad
  · exact rnum_len left bad

/-- The reader's error is set. -/
theorem Rd.set {G : Nat → Prop} {w : World} {p : Nat} {left : List UInt8} {bad : Nat} (h : Rd G w p left bad) (b : Nat) (hb : b ≤ 13) : Rd G (w.setCell ⟨p, 2, none⟩ (.int .i64 (b : Int))) p left b ∧ Kp (fun j => j = p) w (w.setCell ⟨p, 2, none⟩ (.int .i64 (b : Int))) := by
  obtain ⟨ao, n, cap, l, k, hh, hbs, hoff, hk, rfl, -⟩ := h
  exact Rd.fail hh hbs hoff hk (Kp.refl _ _) b hb
theorem Rd.cells {G : Nat → Prop} {w : World} {p : Nat} {left : List UInt8} {bad : Nat} (h : Rd G w p left bad) : w.cell? ⟨p, 2, none⟩ = some (.int .i64 (bad : Int)) ∧ w.frozen? ⟨p, 2, none⟩ = false ∧ p < w.heap.size := by
  obtain ⟨ao, n, cap, l, k, hh, -⟩ := h
  obtain ⟨-, -, h2, -, -, f2⟩ := cells_three hh
  exact ⟨h2, f2, (Array.getElem?_eq_some_iff.1 hh).1⟩

set_option maxHeartbeats 400000 in
set_option maxRecDepth 100000 in
theorem readerCount_any {G : Nat → Prop} (p : Nat) (left : List UInt8) (bad : Nat) (most : Int) (w : World) (h : Rd G w p left bad) (hm0 : -9223372036854775808 ≤ most) (hm1 : most ≤ 9223372036854775807) :
    Calls Try.prog 36 #[.pointer (some ⟨p, 0, none⟩), .int .i64 most] w (RdPost G w p (.int .i64 ((rcount left bad most).2 : Int)) (rcount left bad most).1.1 (rcount left bad most).1.2) := by
  have hf := rnum_lt left bad
  have HC := Lib.hid (show rcount left bad most = if (max 0 most).toNat < (rnum left bad).2 then (((rnum left bad).1.1, 12), 0) else rnum left bad from rfl)
  go_enter Try.func36, Try.ntmps36
  go_wp2_with fail
  refine (readerNum_any p left bad _ h).mono ?_
  rintro e w1 ⟨rfl, h1, k1⟩
  obtain ⟨hc, hfz, -⟩ := h1.cells
  generalize hu : (rnum left bad).2 = u at *
  unfold W64 at hf
  have HU := Lib.hid hu
  clear hu
  rcases Int.lt_or_le most 0 with hs | hs
  · have hmx := Lib.hid (show (max 0 most).toNat = 0 by omega)
    by_cases c : 0 < u
    · have hr : Hid (rcount left bad most = (((rnum left bad).1.1, 12), 0)) := Lib.hid (by rw [HC.out, hmx.out, if_pos c])
      go_wp2_with fail
      go_ret
      rw [hr.out]
      exact ⟨rfl, (h1.set 12 (by omega)).1, k1.trans (h1.set 12 (by omega)).2⟩
    · have hr : Hid (rcount left bad most = rnum left bad) := Lib.hid (by rw [HC.out, hmx.out, if_neg c])
      obtain rfl : u = 0 := by omega
      go_wp2_with fail
      go_ret
      rw [hr.out, HU.out]
      exact ⟨rfl, h1, k1⟩
  · obtain ⟨t, rfl⟩ := Int.eq_ofNat_of_zero_le hs
    have hmx := Lib.hid (show (max 0 (t : Int)).toNat = t by omega)
    by_cases c : t < u
    · have hr : Hid (rcount left bad t = (((rnum left bad).1.1, 12), 0)) := Lib.hid (by rw [HC.out, hmx.out, if_pos c])
      go_wp2_with fail
      all_goals (
        go_ret
        rw [hr.out]
        exact ⟨rfl, (h1.set 12 (by omega)).1, k1.trans (h1.set 12 (by omega)).2⟩)
    · have hr : Hid (rcount left bad t = rnum left bad) := Lib.hid (by rw [HC.out, hmx.out, if_neg c])
      go_wp2_with fail
      all_goals (
        go_ret
        rw [hr.out, HU.out]
        exact ⟨rfl, h1, k1⟩)

/-- What a text is answered by: new bytes, and the reader behind it. -/
def TextPost (G : Nat → Prop) (w : World) (p : Nat) (t left : List UInt8) (bad : Nat) (e : Ending) (w' : World) : Prop :=
  ∃ ao cap, e = .returned (.slice ao t.length cap) ∧ Own (Ex Noone w w') w' 5 1 ao t.length cap (bv t) ∧ Rd G w' p left bad ∧ Kp (fun j => j = p) w w'

set_option maxHeartbeats 2000000 in
set_option maxRecDepth 100000 in
theorem readerText_any {G : Nat → Prop} (p : Nat) (left : List UInt8) (bad : Nat) (most : Int) (w : World) (h : Rd G w p left bad) (hm0 : -9223372036854775808 ≤ most) (hm1 : most ≤ 9223372036854775807) (hlb : left.length ≤ 140737488355328) :
    Calls Try.prog 37 #[.pointer (some ⟨p, 0, none⟩), .int .i64 most] w (TextPost G w p (rtext left bad most).2 (rtext left bad most).1.1 (rtext left bad most).1.2) := by
  obtain ⟨i0, hi, hz0, hz1, hz2⟩ := info_parts info_u8
  have hle := rcount_le left bad most hm1
  have HT := Lib.hid (show rtext left bad most = if (rcount left bad most).1.2 ≠ 0 then ((rcount left bad most).1, [])
    else if (rcount left bad most).1.1.length < (rcount left bad most).2 then (((rcount left bad most).1.1, 10), [])
    else (((rcount left bad most).1.1.drop (rcount left bad most).2, 0), (rcount left bad most).1.1.take (rcount left bad most).2) from rfl)
  go_enter Try.func37, Try.ntmps37
  go_wp2_with fail
  refine (readerCount_any p left bad most _ h hm0 hm1).mono ?_
  rintro e w1 ⟨rfl, h1, k1⟩
  have hR := h1
  generalize hq : rcount left bad most = R at *
  obtain ⟨⟨left', bad'⟩, q⟩ := R
  simp only [] at *
  have HQ := Lib.hid hq
  clear hq
  by_cases c0 : bad' = 0
  case neg =>
    have hr : Hid (rtext left bad most = ((left', bad'), [])) := Lib.hid (by rw [HT.out, if_pos c0])
    obtain ⟨hc, -, -⟩ := h1.cells
    go_wp2_with fail
    go_ret
    rw [hr.out]
    exact ⟨none, 0, rfl, Own.nil _ _ _ _ _, hR, k1⟩
  subst c0
  obtain ⟨ao, n, cap, l, k, hh, hb, hoff, hk, rfl, -⟩ := h1
  rw [Int.natCast_zero] at hh
  obtain ⟨h0, h1, h2, f0, f1, f2⟩ := cells_three hh
  have hmx := hb.max
  have hlc := hb.le
  have hlen := hb.len
  have hmx : cap ≤ 9223372036854775807 := by unfold maxLen at hmx; omega
  have hdl : (l.drop k).length = n - k := by rw [List.length_drop, hlen]
  by_cases c1 : n - k < q
  · have hr : Hid (rtext left bad most = ((l.drop k, 10), [])) := Lib.hid (by rw [HT.out, if_neg (by simp), if_pos (by rw [hdl]; exact c1)])
    go_wp2_with fail
    go_quiet (fail)
    go_wp2_with fail
    go_ret
    rw [hr.out]
    have R := fun q => Rd.fail hh hb hoff hk ((Kp.refl Noone w1).drewN q) 10 (by omega)
    exact ⟨none, 0, rfl, Own.nil _ _ _ _ _, (R _).1, k1.trans (R _).2⟩
  · have hr : Hid (rtext left bad most = (((l.drop k).drop q, 0), (l.drop k).take q)) := Lib.hid (by rw [HT.out, if_neg (by simp), if_neg (by rw [hdl]; exact c1)])
    have hrow : Row w1 (if cap = k then ao else ao.map (·.add k)) (bv ((l.drop k).take q)) := hb.row.sub k cap (by rw [length_bv, hlen]; exact hlc) _ (by unfold bv; rw [List.map_take, List.map_drop]; exact List.take_prefix _ _)
    have htl : ((l.drop k).take q).length = q := by rw [List.length_take, hdl]; omega
    have hks := k1.size
    have hkq : k + q ≤ n := by omega
    have hnb : q ≤ 140737488355328 := by
      have := rcount_len left bad most
      rw [HQ.out] at this
      simp only [hdl] at this
      omega
    have hwr : IntKind.i64.wrap ((k : Int) + (q : Int)) = (k : Int) + (q : Int) := IntWalk.i64_in _ (by omega)
    have hw0 : (0 : Int) ≤ (k : Int) + (q : Int) := by omega
    have hw1 : (k : Int) + (q : Int) ≤ (cap : Int) := by omega
    have hw2 : ((k : Int) + (q : Int)).toNat = k + q := by omega
    have hw3 : k + q - k = q := by omega
    have key : ∀ (w2 : World) (ao' : Option Addr) (cap' : Nat) (w3 : World), Kp Noone w1 w2 → Own (Ex Noone w2 w3) w3 5 1 ao' q cap' (bv ((l.drop k).take q)) → Kp Noone w2 w3 → TextPost G w p (rtext left bad most).2 (rtext left bad most).1.1 (rtext left bad most).1.2 (.returned (.slice ao' q cap')) (w3.setCell ⟨p, 1, none⟩ (.int .i64 ((k : Int) + (q : Int)))) := by
      intro w2 ao' cap' w3 k2 ho k3
      have hp := hR.cells.2.2
      rw [hr.out]
      simp only []
      have R := Rd.go hh hb hoff (k := k + q) hkq (k2.trans k3)
      rw [Int.natCast_add, ← List.drop_drop] at R
      have hs2 := k2.size
      refine ⟨ao', cap', by rw [htl], ?_, R.1, k1.trans R.2⟩
      rw [htl]
      have kk : Kp (fun j => j = p) w3 (w3.setCell ⟨p, 1, none⟩ (.int .i64 ((k : Int) + (q : Int)))) := Kp.setCell (S := fun j => j = p) (p := ⟨p, 1, none⟩) (Kp.refl _ _) (fun _ => rfl) _
      refine (ho.kp kk (fun j hj c => by have := Ex.none hj; subst c; omega)).mono (fun j hj h => ?_)
      have := Ex.none h
      exact Or.inr ⟨by omega, hj⟩
    clear HT hR
    have HTL := Lib.hid htl
    generalize (l.drop k).take q = t at *
    by_cases hcap : cap = k
    · rw [if_pos hcap] at hrow
      obtain rfl : q = 0 := by omega
      subst hcap
      have hwc : IntKind.i64.wrap (cap : Int) = (cap : Int) := IntWalk.i64_in _ (by omega)
      have hwd : (0 : Int) ≤ (cap : Int) := by omega
      go_wp2_with fail
      go_quiet (fail)
      go_wp2_with fail
      go_region_law (refine step_append_gen rfl (.const (.slice none 0 0)) (.tmp 48) 31 rfl 5 i0 (.int .u8 0) 1 1 Try.underlying31 hi hz0 hz1 hz2 rfl none 0 0 rfl ao 0 0 rfl Noone [] (Own.nil _ _ _ _ _) (bv t) (by rw [length_bv, HTL.out, Nat.mul_one]) (hrow.keep ((Kp.refl _ _).drewN _).drew) (bv_one _) (by omega) (by unfold maxLen; omega) ?_; intro bo' c' w3 ho3 k3; have hh3 := (((Kp.refl Noone _).drewN _).drew.trans k3).heap hh id; obtain ⟨h03, h13, h23, f03, f13, f23⟩ := cells_three hh3)
      all_goals (
        have K := key _ bo' c' w3 (((Kp.refl Noone _).drewN _).drew) (by simpa using ho3) k3
        clear ho3 key hh3
        go_simp
        rename_i hkk
        refine hkk _ _ ?_
        clear hkk
        go_wp2_with fail
        go_ret
        exact K)
    · rw [if_neg hcap] at hrow
      go_wp2_with fail
      go_quiet (fail)
      go_wp2_with fail
      go_region_law (refine step_append_gen rfl (.const (.slice none 0 0)) (.tmp 48) 31 rfl 5 i0 (.int .u8 0) 1 1 Try.underlying31 hi hz0 hz1 hz2 rfl none 0 0 rfl (ao.map (·.add k)) q (cap - k) rfl Noone [] (Own.nil _ _ _ _ _) (bv t) (by rw [length_bv, HTL.out, Nat.mul_one]) (hrow.keep ((Kp.refl _ _).drewN _).drew) (bv_one _) (by omega) (by unfold maxLen; omega) ?_; intro bo' c' w3 ho3 k3; have hh3 := (((Kp.refl Noone _).drewN _).drew.trans k3).heap hh id; obtain ⟨h03, h13, h23, f03, f13, f23⟩ := cells_three hh3)
      all_goals (
        have K := key _ bo' c' w3 (((Kp.refl Noone _).drewN _).drew) (by simpa using ho3) k3
        clear ho3 key hh3
        go_simp
        rename_i hkk
        refine hkk _ _ ?_
        clear hkk
        go_wp2_with fail
        go_ret
        exact K)

set_option maxHeartbeats 1000000 in
set_option maxRecDepth 100000 in
theorem readerDone_any {G : Nat → Prop} (p : Nat) (left : List UInt8) (bad : Nat) (w : World) (h : Rd G w p left bad) :
    Calls Try.prog 38 #[.pointer (some ⟨p, 0, none⟩)] w (RdPost G w p (.int .i64 (rdone left bad : Int)) left (rdone left bad)) := by
  have hR := h
  obtain ⟨ao, n, cap, l, k, hh, hb, hoff, hk, rfl, hbad⟩ := h
  obtain ⟨h0, h1, h2, f0, f1, f2⟩ := cells_three hh
  have hlen := hb.len
  go_enter Try.func38, Try.ntmps38
  by_cases c0 : bad = 0
  · subst c0
    rw [Int.natCast_zero] at h2 hh
    by_cases c1 : k < n
    · have hr : rdone (l.drop k) 0 = 13 := by
        unfold rdone
        rw [if_pos ⟨rfl, fun c => by have := congrArg List.length c; rw [List.length_drop, hlen] at this; simp at this; omega⟩]
      rw [hr]
      have d1 : decide ((k : Int) < (n : Int)) = true := by simp; omega
      have R := fun q => Rd.fail hh hb hoff hk ((Kp.refl Noone w).drewN q) 13 (by omega)
      go_wp2_with fail
      go_quiet (fail)
      go_wp2_with fail
      refine (readerErr_any p _ 13 _ (R _).1).mono ?_
      rintro e w1 ⟨rfl, rfl⟩
      go_wp2_with fail
      go_ret
      exact ⟨rfl, (R _).1, (R _).2⟩
    · have hr : rdone (l.drop k) 0 = 0 := by
        unfold rdone
        rw [if_neg (fun c => c.2 (List.drop_eq_nil_of_le (by omega)))]
      rw [hr]
      have d1 : decide ((k : Int) < (n : Int)) = false := by simp; omega
      go_wp2_with fail
      go_quiet (fail)
      go_wp2_with fail
      refine (readerErr_any p _ 0 _ (hR.keep ((Kp.refl _ _).drewN _))).mono ?_
      rintro e w1 ⟨rfl, rfl⟩
      go_wp2_with fail
      go_ret
      exact ⟨rfl, hR.keep ((Kp.refl _ _).drewN _), ((Kp.refl _ _).drewN _)⟩
  · have hr : rdone (l.drop k) bad = bad := by
      unfold rdone
      rw [if_neg (fun c => c0 c.1)]
    rw [hr]
    have d1 : ((bad : Int) == 0) = false := by simp; omega
    go_wp2_with fail
    go_quiet (fail)
    go_wp2_with fail
    refine (readerErr_any p _ bad _ (hR.keep ((Kp.refl _ _).drewN _))).mono ?_
    rintro e w1 ⟨rfl, rfl⟩
    go_wp2_with fail
    go_ret
    exact ⟨rfl, hR.keep ((Kp.refl _ _).drewN _), ((Kp.refl _ _).drewN _)⟩

end Go.Proofs.Ytlpdoefbjhlegaa
