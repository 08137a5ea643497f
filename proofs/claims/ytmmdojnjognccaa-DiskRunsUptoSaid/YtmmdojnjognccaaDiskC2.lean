/-
  THE WALKS of a disk's Cut, Read, Fuse, Free, Steps, Down, List.
-/
import Derived.Test.YtmmdojnjognccaaDiskC
namespace Go.Proofs.Ytmmdojnjognccaa
open Go.RowKit

theorem Own.front {F : Nat → Prop} {w : World} {e : Nat} {ao : Option Addr} {n cap : Nat} {l : List UInt8} (h : Own F w e 1 ao n cap (bv l)) {k : Nat} (hk : k ≤ n) : Own F w e 1 ao k k (bv (l.take k)) := by
  obtain ⟨h1, h2, h3, h4⟩ := h
  rw [length_bv] at h1
  refine ⟨by rw [length_bv, List.length_take]; omega, Nat.le_refl _, by omega, ?_⟩
  rcases h4 with rfl | ⟨g, off, cur, ha, hg, hh, hb, hr⟩
  · left; omega
  · refine Or.inr ⟨g, off, cur, ha, hg, hh, by omega, fun i hi => ?_⟩
    rw [length_bv, List.length_take] at hi
    rw [hr i (by rw [length_bv]; omega)]
    simp [bv]

theorem cutF_ok {s : DS} (h : DOk s) (k : ByteArray) (n : Int) (hn : s.steps < 4611686018427387904) : DOk (cutF s k n).1 := by
  unfold cutF
  split
  · exact h
  · rename_i h1
    split
    · exact h
    · rename_i h2
      split
      · exact h.step hn
      · obtain ⟨-, hk, hp⟩ := barsF_zero (by omega : barsF s k true = 0)
        have hg := h.get k
        refine (h.step hn).put hk ⟨by unfold cutA; simp only []; omega, by unfold cutA; simp only [List.length_take]; omega, by unfold cutA; simp only [List.length_take]; omega⟩ (fun c => ?_)
        rw [stepF_areas] at c
        exact absurd c (hp rfl)

set_option maxHeartbeats 1000000 in
set_option maxRecDepth 100000 in
theorem cut_dk (B : Nat) (col : Nat → Nat) (i p : Nat) (s : DS) (k : ByteArray) (n : Int) (w : World) (h : Dk col i w p s) (hc : Cols B w col) (hBw : B ≤ w.heap.size) (hk : k.size ≤ 9223372036854775807) (hst : s.steps < 4611686018427387904) :
    Calls Try.prog 21 #[.pointer (some ⟨p, 0, none⟩), .string k, .int .i64 n] w fun e w' => e = .returned (.int .i64 ((cutF s k n).2 : Int)) ∧ ∃ col', Ext B (S3 i) col w col' w' ∧ Dk col' i w' p (cutF s k n).1 := by
  have hfin := cutF_ok h.2 k n hst
  obtain ⟨⟨r, hr⟩, hok⟩ := h
  obtain ⟨RES, hRES⟩ : ∃ x, Hid (cutF s k n = x) := ⟨_, Lib.hid rfl⟩
  have HFIN := Lib.hid hfin
  rw [hRES.out] at HFIN ⊢
  have HR := hRES.out
  unfold cutF at HR
  have HOK := Lib.hid hok
  have hstp := hok.steps
  have hfus := hok.fuse
  have HC := Lib.hid hc
  clear hfin hRES hok hc
  go_enter Try.func21, Try.ntmps21
  go_wp2_with fail
  refine (bars_at col i p s r k true w hr hk).mono ?_
  rintro e w1 ⟨rfl, k1⟩
  have hr1 := hr.keep k1
  clear hr
  by_cases hz : barsF s k true = 0
  · rw [if_neg (by omega)] at HR
    have e0 : (((barsF s k true : Nat) : Int) != 0) = false := by rw [hz]; rfl
    clear hz
    obtain ⟨ao, c0, hown, hlk⟩ := hr1.lookup k false
    simp only [Bool.false_eq_true, if_false] at hlk
    obtain ⟨⟨q0, -, -, -, -⟩, -⟩ := cells_five hr1.box
    have hgk := HOK.out.get k
    generalize get0 k s.areas = a at *
    obtain ⟨ad, sf⟩ := a
    simp only [] at hown hlk HR hgk
    have HRR := Lib.hid HR
    have kA : Kp Noone w1 (w1.alloc (.cells #[.slice ao ad.length c0, .int .i64 sf] 69)) := (Kp.refl _ _).alloc _
    have hAb := heap_alloc_new w1 (.cells #[.slice ao ad.length c0, .int .i64 sf] 69)
    have hrA := hr1.keep kA
    have hownA := hown.keep kA
    have KA := k1.trans kA
    have hWg : Hid (w.heap.size ≤ w1.heap.size) := Lib.hid k1.size
    clear hr1 hown k1 kA HR
    by_cases hbad : n < 0 ∨ (ad.length : Int) < n
    · have HR := HRR.out
      rw [if_pos hbad] at HR
      subst HR
      have HC2 := Lib.hid (Ext.quiet (S := S3 i) HC.out KA)
      have HD2 := Lib.hid hrA
      clear KA hrA hownA hAb HRR
      have hcase : n < 0 ∨ (¬ n < 0 ∧ n > (ad.length : Int)) := by omega
      clear hbad
      rcases hcase with c | ⟨c, c2⟩
      · go_wp2_with fail
        go_ret
        exact ⟨rfl, col, HC2.out, ⟨r, HD2.out⟩, HOK.out⟩
      · go_wp2_with fail
        go_ret
        exact ⟨rfl, col, HC2.out, ⟨r, HD2.out⟩, HOK.out⟩
    · have HR := HRR.out
      rw [if_neg hbad] at HR
      have HR2 := Lib.hid HR
      have c1 : ¬ n < 0 := fun c => hbad (Or.inl c)
      have c2 : ¬ n > (ad.length : Int) := fun c => hbad (Or.inr c)
      clear HR HRR hbad
      go_wp2_with fail
      generalize w1.alloc (.cells #[.slice ao ad.length c0, .int .i64 sf] 69) = wA at *
      generalize w1.heap.size = g at *
      refine (step_at col i p s r wA hrA hfus ⟨hstp.1, hst⟩).mono ?_
      rintro e w3 ⟨rfl, D3, k3⟩
      have hpw := hrA.pc
      have k03 : Kp (fun j => S3 i (col j)) w w3 := KA.none.trans (k3.mono (fun j _ c => by rw [c, hpw]; unfold S3; omega))
      have hgp : g ≠ p := fun c => by have := (HC.out p (by omega)).2; have := hWg.out; omega
      have hA3 := k3.heap hAb hgp
      have ho3 := hownA.kp k3 (fun j c d => by have h1 := hrA.gcol k j c; rw [d] at h1; omega)
      clear hAb hownA KA k3 hrA q0 hlk
      cases hx : (stepF s).2 with
      | false =>
        have HR := HR2.out
        rw [if_pos hx] at HR
        subst HR
        clear hx
        go_wp2_with fail
        go_ret
        exact ⟨rfl, col, box_ext HC.out k03, ⟨r, D3⟩, HFIN.out⟩
      | true =>
        have HR := HR2.out
        rw [if_neg (by rw [hx]; simp)] at HR
        have HE := Lib.hid HR
        clear HR HR2 hx
        obtain ⟨m, rfl⟩ : ∃ m : Nat, n = m := ⟨n.toNat, by omega⟩
        have hm : m ≤ ad.length := by omega
        have hmc : m ≤ c0 := by have := ho3.2.1; omega
        obtain ⟨z0, z1, -, -⟩ := cells_two hA3
        obtain ⟨⟨x0, -, -, -, -⟩, -⟩ := cells_five D3.box
        have kd : Kp Noone w3 w3.drew := (Kp.refl _ _).drew
        have hM4 := D3.map.kp kd id
        obtain ⟨w5, hrun, hto⟩ := hM4.update (P := Try.prog) (t := 9) (m := 64) (e := 69) keyS Try.underlying64 k (.agg #[.slice ao m m, .int .i64 (min sf m)])
        simp only [encS] at hrun
        have htl : (ad.take m).length = m := by rw [List.length_take]; omega
        have hval : (⟨ad.take m, min sf m, ao, m⟩ : Ar).val = .agg #[.slice ao m m, .int .i64 (min sf m)] := by unfold Ar.val; rw [htl]
        rw [← hval] at hto
        obtain ⟨col5, r5, D5, E5⟩ := put_ext HC.out hBw k03 D3 k ⟨ad.take m, min sf m, ao, m⟩ (F := r.G k) (X := Noone) (fun j c => c.elim) kd.none (by show Own _ _ _ _ _ (ad.take m).length _ _; rw [htl]; exact (ho3.front hm).keep kd) (fun j c => Or.inl c) hto
        have HD5 := Lib.hid D5
        have HE5 := Lib.hid E5
        clear hM4 hto D5 E5 kd D3 k03 ho3 hA3 htl hval hpw
        go_upto_region 9 with fail
        go_region
        all_goals (
          go_wp2_with fail
          go_ret
          have hE := HE.out
          subst hE
          exact ⟨rfl, col5, HE5.out, ⟨r5, HD5.out⟩, HFIN.out⟩)
  · rw [if_pos hz] at HR
    have e0 : (((barsF s k true : Nat) : Int) != 0) = true := by
      have h : ((barsF s k true : Nat) : Int) ≠ 0 := by omega
      simpa using h
    subst HR
    have HZ := Lib.hid hz
    clear hz
    go_wp2_with fail
    go_ret
    exact ⟨rfl, col, Ext.quiet HC.out k1, ⟨r, hr1⟩, HOK.out⟩

end Go.Proofs.Ytmmdojnjognccaa
