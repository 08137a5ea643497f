/-
  THE WALK of the law WalTwice.
-/
import Derived.Test.YtigdhdclfdojgaaWalTwiceR
namespace Go.Proofs.Ytigdhdclfdojgaa
open Go.RowKit

theorem mount_steps9 (room : Int) (As : Img) : (mountF room As).1.steps = 0 := by
  have h := (mountL_room As (newF room)).2.1
  unfold mountF
  split
  · rfl
  · split
    · exact h
    · split
      · exact h
      · exact h
attribute [local irreducible] openF

set_option maxHeartbeats 8000000 in
set_option maxRecDepth 100000 in
theorem walTwice_walk (fo : Option Addr) (na ca : Nat) (As : Img) (n : Int) (W : World) (ha : AS W fo na ca As) (hna : na ≤ 1048576) (hB : ∀ x ∈ As, x.1.size ≤ maxLen ∧ x.2.data.length ≤ 1048576) :
    Calls Try.prog 10 #[.slice fo na ca, .int .i64 n] W fun e w' => e = .returned (.bool true) ∧ Kp Noone W w' := by
  have hla := ha.len
  have hD1 : ∀ x ∈ As, x.2.data.length ≤ 140737488355328 := fun x hx => by have := (hB x hx).2; omega
  have hD2 : ∀ x ∈ As, x.2.data.length ≤ 281474976710656 := fun x hx => by have := (hB x hx).2; omega
  have hD3 : ∀ x ∈ As, x.2.data.length ≤ 4194304 := fun x hx => by have := (hB x hx).2; omega
  have hNm : ∀ x ∈ As, x.1.size ≤ 9223372036854775807 := fun x hx => by have h := (hB x hx).1; unfold maxLen at h; omega
  have HA := Lib.hid ha
  have HD1 := Lib.hid hD1
  have HD2 := Lib.hid hD2
  have HNM := Lib.hid hNm
  have hmu := mount_up 4194304 As hD3
  have hst0 := mount_steps9 4194304 As
  have HMU := Lib.hid hmu
  clear ha hD1 hD2 hD3 hNm hB hmu
  have HKW : Hid (∀ (w : World) (col : Nat → Nat), Ext W.heap.size (fun c => c ≠ 0) (fun _ => 0) W col w → Kp Noone W w) := Lib.hid (fun w col X => X.kp.mono (fun j hj c => absurd rfl c))
  go_enter Try.func10, Try.ntmps10
  go_wp2_with fail
  refine (head9_any _).mono ?_
  rintro e w1 ⟨rfl, k1⟩
  have hcp := copyR_any (fun _ => True) fo na ca As w1 ((HA.out.keep k1).ra (fun _ _ => trivial)) (fun _ _ => trivial) (by omega) HD2.out
  go_wp2_with fail
  refine hcp.mono ?_
  clear hcp
  rintro e w4 ⟨ao4, cap4, rfl, hra4, k4⟩
  rw [hla] at hra4
  rw [hla]
  have HK4 := Lib.hid (k1.trans k4)
  have hmd := mount_dk W.heap.size (fun _ => 0) 0 4194304 ao4 na cap4 As w4 (Cols.zero _ _) HK4.out.size hra4.as (fun j _ c => by unfold S3 at c; omega) (by omega) HD1.out HNM.out
  generalize mountF 4194304 As = F at hmd hst0 HMU
  obtain ⟨s0, er0⟩ := F
  simp only [] at hst0 HMU
  clear k1 k4 hra4
  go_wp2_with fail
  refine hmd.mono ?_
  clear hmd
  rintro e w5 hmt
  obtain ⟨p, c5, rfl, x5, d5⟩ := hmt.ex
  simp only [] at d5
  have X5 := (Ext.quiet (S := fun c => c ≠ 0) (Cols.zero W.heap.size W) HK4.out).trans (x5.mono (T := fun c => c ≠ 0) (fun c h => by unfold S3 at h; omega))
  have HX5 := Lib.hid X5
  have HD5 := Lib.hid d5
  clear x5 X5 d5 hmt
  by_cases he : er0 = 0
  case neg =>
    have n2 : ((er0 : Int) != 0) = true := by simpa using he
    simp only [if_neg he]
    clear HD5 HMU he
    go_wp2_with fail
    go_ret
    exact ⟨rfl, HKW.out _ _ HX5.out⟩
  subst he
  simp only [if_true]
  rw [Int.natCast_zero]
  have d5 := HD5.out rfl
  obtain ⟨⟨L, hup⟩, hsm⟩ := HMU.out rfl
  clear HD5 HMU
  have hop := open_l W.heap.size 5 0 c5 w5 p s0 n d5 HX5.out.cols HX5.out.size (by omega) (by omega) hsm.read
  have htw := open_twice hup d5.2 hsm n
  have hsm1 := hsm.open n
  have hst1 := openF_steps d5.2 hsm n
  clear hup hsm
  generalize openF s0 n = R at *
  obtain ⟨s1, ol, e1⟩ := R
  simp only [] at htw hsm1 hst1
  have HTW := Lib.hid htw
  have HSM1 := Lib.hid hsm1
  have HST1 := Lib.hid (show s1.steps ≤ 70 by omega)
  clear htw hsm1 hst1 hst0 d5
  go_wp2_with fail
  refine hop.mono ?_
  clear hop
  rintro e w6 hto
  obtain ⟨c6, x6, d6, hcase⟩ := hto.ex
  simp only [] at d6 hcase
  have HX6 := Lib.hid (HX5.out.trans (x6.mono (T := fun c => c ≠ 0) (fun c h => by unfold SL S3 at h; omega)))
  clear hto x6
  by_cases he : e1 = 0
  case neg =>
    rcases hcase with ⟨-, rfl⟩ | ⟨l, recs, q, ro, rc, rh, -, h0, -⟩
    · have n2 : ((e1 : Int) != 0) = true := by simpa using he
      clear HTW HSM1 he d6
      go_wp2_with fail
      go_ret
      exact ⟨rfl, HKW.out _ _ HX6.out⟩
    · exact absurd h0 he
  subst he
  obtain ⟨l, recs, L1, s2, ⟨hok, hrl⟩, rfl, hu1, hop2, hu2⟩ := HTW.out rfl d6.2
  rcases hcase with ⟨h0, -⟩ | ⟨l', recs', q, ro, rc, rh, he, -, rfl, hq, hlg, hro, hrd⟩
  · cases h0
  cases he
  clear HTW
  have him := image_dk c6 0 p s1 w6 d6
  rw [hu1.image] at him
  have HRO := Lib.hid (show RSl w6 ro rc recs from ⟨_, _, rh, hro, hrd⟩)
  have HRO2 := Lib.hid (And.intro hro (hrd.mono (Q := fun k => (c6 k = 0 ∧ w5.heap.size ≤ k) ∧ k < w6.heap.size) (fun j hj d => ⟨d, hj⟩)))
  have HLG := Lib.hid hlg
  have HD6 := Lib.hid d6
  have HOK := Lib.hid hok
  clear hro hrd hlg hok
  go_wp2_with fail
  refine him.mono ?_
  clear him
  rintro e w7 ⟨io, ic, rfl, himg, k7⟩
  have HIM := Lib.hid himg
  have hop := open_l W.heap.size 7 0 c6 w7 p s1 n (HD6.out.keep k7) (HX6.out.cols.keep k7.size) (Nat.le_trans HX6.out.size k7.size) (by omega) (by have := HST1.out; omega) HSM1.out.read
  rw [hop2] at hop
  have HK7 := Lib.hid k7
  clear himg HSM1 k7
  go_wp2_with fail
  refine hop.mono ?_
  clear hop
  rintro e w8 hto
  obtain ⟨c8, x8, d8, hcase⟩ := hto.ex
  simp only [] at d8 hcase
  rcases hcase with ⟨h0, -⟩ | ⟨l', recs', q8, ro8, rc8, rh8, he, -, rfl, hq8, hlg8, hro8, hrd8⟩
  · cases h0
  cases he
  have HRO8 := Lib.hid (show RSl w8 ro8 rc8 recs from ⟨_, _, rh8, hro8, hrd8⟩)
  have X68 := (Ext.quiet (S := SL 0 7) HX6.out.cols HK7.out).trans x8
  have HRO1 : Hid (RSl w8 ro rc recs) := Lib.hid ⟨_, _, rh, own0_ext (by omega) HRO2.out.1 (Nat.le_refl _) X68, recs0_ext (by omega) HRO2.out.2 (Nat.le_refl _) X68⟩
  have hL1 : Hid (Lg 5 0 c8 w8 p q s2 l) := by
    obtain ⟨-, po, pc, hla⟩ := HLG.out
    have hq6 := (Array.getElem?_eq_some_iff.1 hla.box).1
    refine Lib.hid ⟨d8, po, pc, X68.kp.heap hla.box (by rw [hla.qc]; unfold SL S3; omega), (X68.old q hq6).trans hla.qc, ?_⟩
    exact ((hla.pieces.mono (G := fun j => Col c6 6 j ∧ j < w6.heap.size) (fun j hj d => ⟨d, hj⟩)).kp X68.kp (fun j d a => by have d1 : c6 j = 6 := d.1; rw [d1] at a; unfold SL S3 at a; omega)).mono (fun j _ d => (X68.old j d.2).trans d.1)
  have hIA : Hid (AS w8 io L1.length ic L1) := Lib.hid ((HIM.out.kp x8.kp (fun j h1 h2 a => by rw [cols_new HX6.out.cols h1] at a; unfold SL S3 at a; omega)).as)
  have HX8 := Lib.hid (HX6.out.trans (X68.mono (T := fun c => c ≠ 0) (fun c h => by unfold SL S3 at h; omega)))
  have HL8 := Lib.hid hlg8
  have HD8 := Lib.hid d8
  have hsm8 := walSame_any ro recs.length rc ro8 recs.length rc8 recs w8 HRO1.out HRO8.out rfl rfl (by omega)
  clear hto x8 X68 hro8 hrd8 hlg8 d8 HRO HRO2 HIM HLG hq8 hq HK7 HD6
  go_wp2_with fail
  refine hsm8.mono ?_
  clear hsm8
  rintro e w9 ⟨rfl, k9⟩
  have hf1 := first_l 7 0 c8 w9 p q8 s2 l (HL8.out.keep k9) HOK.out
  have hf2 := first_l 5 0 c8 w9 p q s2 l (hL1.out.keep k9) HOK.out
  have hn1 := next_l 7 0 c8 w9 p q8 s2 l (HL8.out.keep k9)
  have hn2 := next_l 5 0 c8 w9 p q s2 l (hL1.out.keep k9)
  have hp1 := pieces_l 7 0 c8 w9 p q8 s2 l (HL8.out.keep k9)
  have hp2 := pieces_l 5 0 c8 w9 p q s2 l (hL1.out.keep k9)
  have him := image_dk c8 0 p s2 w9 (HD8.out.keep k9)
  rw [hu2.image] at him
  generalize firstP l = v1 at *
  generalize l.next = v2 at *
  generalize l.pieces.length = v3 at *
  clear HL8 hL1 HOK HD8
  go_wp2_with fail
  refine hf1.mono ?_
  rintro e w' ⟨rfl, rfl⟩
  go_wp2_with fail
  refine hf2.mono ?_
  rintro e w' ⟨rfl, rfl⟩
  go_wp2_with fail
  refine hn1.mono ?_
  rintro e w' ⟨rfl, rfl⟩
  go_wp2_with fail
  refine hn2.mono ?_
  rintro e w' ⟨rfl, rfl⟩
  go_wp2_with fail
  refine hp1.mono ?_
  rintro e w' ⟨rfl, rfl⟩
  go_wp2_with fail
  refine hp2.mono ?_
  rintro e w' ⟨rfl, rfl⟩
  go_wp2_with fail
  refine him.mono ?_
  clear him hf1 hf2 hn1 hn2 hp1 hp2
  rintro e w10 ⟨jo, jc, rfl, himg, k10⟩
  have hl64 : L1.length ≤ 1048576 := by
    have := d6.2.len
    rw [← hu1.sim.len] at this
    omega
  have hrs := refSame_any jo L1.length jc io L1.length ic L1 w10 himg.as (hIA.out.keep (k9.trans k10)) hl64
  clear himg
  go_wp2_with fail
  refine hrs.mono ?_
  rintro e w11 ⟨rfl, k11⟩
  go_wp2_with fail
  go_ret
  exact ⟨rfl, (HKW.out _ _ HX8.out).trans ((k9.trans k10).trans k11)⟩

end Go.Proofs.Ytigdhdclfdojgaa
