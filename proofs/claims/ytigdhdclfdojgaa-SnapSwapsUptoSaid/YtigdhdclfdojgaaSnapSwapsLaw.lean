/-
  SnapSwaps: the law.
-/
import Derived.Test.YtigdhdclfdojgaaSnapSwaps
import Derived.Test.YtigdhdclfdojgaaSnapFullLaw
import Derived.Test.YtigdhdclfdojgaaRead8
import Derived.Test.YtigdhdclfdojgaaRefDiskC
namespace Go.Proofs.Ytigdhdclfdojgaa
open Go.RowKit

attribute [local irreducible] saveF loadF cleanF listF newF crashF

set_option maxHeartbeats 8000000 in
set_option maxRecDepth 100000 in
theorem snapSwaps_walk (fo : Option Addr) (nf cf : Nat) (first : List UInt8) (so : Option Addr) (ns cs : Nat) (second : List UInt8) (n m fuse : Int) (ko : Option Addr) (nk ck : Nat) (keep : List Int) (W : World)
    (hf : BS W fo nf cf first) (hs : BS W so ns cs second) (hk : IS W ko nk ck keep) (hnf : nf ≤ 1048576) (hns : ns ≤ 1048576) (hnk : nk ≤ 1048576) (hfu : fuse ≤ 9223372036854775807) :
    Calls Try.prog 6 #[.slice fo nf cf, .slice so ns cs, .int .i64 n, .int .i64 m, .int .i64 fuse, .slice ko nk ck] W fun e w' => e = .returned (.bool true) ∧ Kp Noone W w' := by
  obtain ⟨i0, hi, hz0, hz1, hz2⟩ := info_parts info_intD
  have hfl := hf.len
  have hsl := hs.len
  have hkl := hk.len
  have HF := Lib.hid hf
  have HS := Lib.hid hs
  have HK := Lib.hid hk
  have HFL := Lib.hid hfl
  have HSL := Lib.hid hsl
  have HKL := Lib.hid hkl
  have HKW : Hid (∀ (w : World) (col : Nat → Nat), Ext W.heap.size (fun c => c ≠ 0) (fun _ => 0) W col w → Kp Noone W w) := Lib.hid (fun w col X => X.kp.mono (fun j hj c => absurd rfl c))
  clear hf hs hk hfl hsl hkl
  go_enter Try.func6, Try.ntmps6
  go_wp2_with fail
  refine (head_any _).mono ?_
  rintro e w1 ⟨rfl, k1⟩
  have hnw := new_dk W.heap.size (fun _ => 0) 0 4194304 w1 (Cols.zero _ _) k1.size
  have HX1 := Lib.hid (Ext.quiet (S := fun c => c ≠ 0) (Cols.zero W.heap.size W) k1)
  clear k1
  go_wp2_with fail
  refine hnw.mono ?_
  rintro e w2 ⟨p, c2, rfl, x2, d2⟩
  have HX2 := Lib.hid (HX1.out.trans (x2.mono (T := fun c => c ≠ 0) (fun c h => by unfold S3 at h; omega)))
  have hcp := copy_exact fo nf cf first w2 (HF.out.keep (HKW.out _ _ HX2.out)) (by omega)
  clear hnw x2 HX1
  go_wp2_with fail
  refine hcp.mono ?_
  rintro e w3 ⟨rfl, hw3⟩
  obtain ⟨hd3, k3⟩ := copy_data hw3 HFL.out (by unfold maxLen; omega) HX2.out.cols
  have X3 := HX2.out.trans (Ext.quiet HX2.out.cols k3)
  have hsv := save_dk W.heap.size c2 0 p (newF 4194304) n (some ⟨w2.heap.size, 0, none⟩) nf nf first w3 (d2.keep k3) X3.cols X3.size hd3 (newF_small _)
  have HX3 := Lib.hid X3
  clear hcp hw3 hd3 k3 X3 d2 HX2
  by_cases hbad : n < 0 ∨ 1099511627776 < n ∨ 16384 < nf
  · have hne : ∃ e1 : Nat, saveF (newF 4194304) n first = (newF 4194304, e1) ∧ ((e1 : Int) != 0) = true := by
      by_cases h1 : n < 0 ∨ 1099511627776 < n
      · exact ⟨1, by unfold saveF; rw [if_pos h1], rfl⟩
      · exact ⟨12, by unfold saveF; rw [if_neg h1, if_pos (by rw [HFL.out]; omega)], rfl⟩
    obtain ⟨e1, he1, hne1⟩ := hne
    rw [he1] at hsv
    have hl0 : (listF (newF 4194304)).length = 0 := by rw [listF_length]; unfold newF; rfl
    have HL0 := Lib.hid hl0
    clear hl0
    go_wp2_with fail
    refine hsv.mono ?_
    rintro e w4 hto
    obtain ⟨c4, rfl, x4, d4⟩ := hto.ex
    simp only [] at d4 ⊢
    have HX4 := Lib.hid (HX3.out.trans (x4.mono (T := fun c => c ≠ 0) (fun c h => by unfold S3 at h; omega)))
    have hls := list_dk c4 0 p _ w4 d4
    rw [HL0.out] at hls
    clear hsv hto x4 HX3 d4
    have hcs : n < 0 ∨ (¬ n < 0 ∧ 1099511627776 < n) ∨ (¬ n < 0 ∧ ¬ 1099511627776 < n ∧ 16384 < nf) := by omega
    clear hbad
    rcases hcs with h1 | ⟨h1, h2⟩ | ⟨h1, h2, h3⟩
    all_goals (
      go_wp2_with fail
      refine hls.mono ?_
      rintro e w5 ⟨no, nc, rfl, -, k5⟩
      have HX5 := Lib.hid (HX4.out.trans (Ext.quiet HX4.out.cols k5))
      clear hls k5
      go_wp2_with fail
      go_ret
      exact ⟨rfl, HKW.out _ _ HX5.out⟩)
  obtain ⟨s, rfl⟩ : ∃ s : Nat, n = (s : Int) := ⟨n.toNat, by omega⟩
  have hsb : s ≤ 1099511627776 := by omega
  have hbl : first.length ≤ 16384 := by rw [HFL.out]; omega
  have h16 : ¬ 16384 < nf := by omega
  have hti : ¬ (1099511627776 : Int) < (s : Int) := by omega
  clear hbad
  obtain ⟨st, hse⟩ := save_room s first hsb hbl
  have HSP := Lib.hid (fun f0 hok => swap_plain st f0 s first m second keep hsb hok)
  have HB := Lib.hid (And.intro hsb hbl)
  rw [hse] at hsv
  have hst1 := saveF_steps (newF 4194304) (s : Int) first
  rw [hse] at hst1
  have hst0 : (newF 4194304).steps = 0 := by unfold newF; rfl
  simp only [] at hst1
  have hst2 : st ≤ 10 := by omega
  clear hse hsb hbl hst1 hst0
  go_wp2_with fail
  refine hsv.mono ?_
  rintro e w4 hto
  obtain ⟨c4, rfl, x4, d4⟩ := hto.ex
  simp only [] at d4 ⊢
  have HX4 := Lib.hid (HX3.out.trans (x4.mono (T := fun c => c ≠ 0) (fun c h => by unfold S3 at h; omega)))
  have hfz := fuse_dk W.heap.size c4 0 p _ fuse w4 d4 HX4.out.cols hfu
  rw [Int.natCast_zero]
  clear hsv hto x4 HX3 d4
  go_wp2_with fail
  refine hfz.mono ?_
  rintro e w5 ⟨rfl, c5, x5, d5⟩
  have HX5 := Lib.hid (HX4.out.trans (x5.mono (T := fun c => c ≠ 0) (fun c h => by unfold S3 at h; omega)))
  unfold fuseF at d5
  simp only [] at d5
  have hcp := copy_exact so ns cs second w5 (HS.out.keep (HKW.out _ _ HX5.out)) (by omega)
  clear hfz x5 HX4
  go_wp2_with fail
  refine hcp.mono ?_
  rintro e w6 ⟨rfl, hw6⟩
  obtain ⟨hd6, k6⟩ := copy_data hw6 HSL.out (by unfold maxLen; omega) HX5.out.cols
  have X6 := HX5.out.trans (Ext.quiet HX5.out.cols k6)
  have hsv := save_dk W.heap.size c5 0 p _ m (some ⟨w5.heap.size, 0, none⟩) ns ns second w6 (d5.keep k6) X6.cols X6.size hd6 (by show st < _; omega)
  have hsp := HSP.out (max 0 fuse)
  have hst3 := saveF_steps ⟨A1 s first, 4194304, st, max 0 fuse, false⟩ m second
  have HX6 := Lib.hid X6
  clear hcp hw6 hd6 k6 X6 d5 HX5 HSP
  generalize saveF ⟨A1 s first, 4194304, st, max 0 fuse, false⟩ m second = R at *
  obtain ⟨s2, e2⟩ := R
  simp only [] at hsv hsp hst3
  go_wp2_with fail
  refine hsv.mono ?_
  rintro e w7 hto
  obtain ⟨c7, rfl, x7, d7⟩ := hto.ex
  simp only [] at d7 ⊢
  have HX7 := Lib.hid (HX6.out.trans (x7.mono (T := fun c => c ≠ 0) (fun c h => by unfold S3 at h; omega)))
  have HP := Lib.hid (hsp d7.2)
  clear hsv hto x7 HX6 hsp
  have kB : Kp Noone w7 (w7.alloc (.cells #[] 3)) := (Kp.refl _ _).alloc _
  have hown : Own (fun j => j = w7.heap.size) (w7.alloc (.cells #[] 3)) 3 1 (some ⟨w7.heap.size, 0, none⟩) 0 0 [] := Own.fresh rfl (heap_alloc_new w7 (.cells #[] 3)) rfl (by simp [maxLen])
  have hrow := (HK.out.keep ((HKW.out _ _ HX7.out).trans kB)).row
  have hln : (keep.map (Value.int .i64)).length = nk * 1 := by rw [List.length_map, HKL.out, Nat.mul_one]
  have hsB : w7.heap.size < (w7.alloc (.cells #[] 3)).heap.size := (Array.getElem?_eq_some_iff.1 (heap_alloc_new w7 (.cells #[] 3))).1
  go_wp2_with (at_builtin; refine wpList_append_gen _ rfl (.tmp 60) (.tmp 61) 45 rfl 3 i0 (.int .i64 0) 1 8 Try.underlying45 hi hz0 hz1 hz2 rfl (some ⟨w7.heap.size, 0, none⟩) 0 0 rfl ko nk ck rfl _ [] hown (keep.map (Value.int .i64)) hln hrow (ints_one _) (by omega) (by unfold maxLen; omega) ?_)
  intro ao' c' w8 ho k8
  have ho2 := Own.mono ho (G := fun j => w7.heap.size ≤ j) (fun j _ c => by rcases c with c | c; exact Nat.le_of_eq c.symm; omega)
  have k78 : Kp Noone w7 w8 := kB.fin k8 (fun j c => Or.inr (Nat.le_of_eq c.symm))
  have HX8 := Lib.hid (HX7.out.trans (Ext.quiet HX7.out.cols k78))
  have hIS := ho2.is
  have hko : keep ≠ [] → ∀ a, ao' = some a → c7 a.block = 0 := fun hx a ha => by
    rcases ho2 with ⟨-, h2, -, h4⟩
    rcases h4 with h4 | ⟨g, off, cur, h0, hg, -⟩
    · exfalso; apply hx; exact List.eq_nil_of_length_eq_zero (by have := HKL.out; omega)
    · rw [ha] at h0; cases h0; exact cols_new HX7.out.cols hg
  have hcr := crash_dk W.heap.size c7 0 p s2 ao' _ c' keep w8 (d7.keep k78) HX8.out.cols HX8.out.size hIS hko
  clear ho ho2 hIS hko k78 k8 kB hown hrow hln hsB d7 HX7
  go_wp2_with fail
  refine hcr.mono ?_
  rintro e w9 ⟨rfl, c9, x9, d9⟩
  have HX9 := Lib.hid (HX8.out.trans (x9.mono (T := fun c => c ≠ 0) (fun c h => by unfold S3 at h; omega)))
  have hst9 : (crashF s2 keep).steps = s2.steps := by
    have h := (crashUp_room (namesF s2) keep s2 (namesF s2).length).2
    unfold crashF
    exact h
  have hstc : (crashF s2 keep).steps < 4611686018427387000 := by omega
  have hQ : (e2 ≠ 0 ∧ loadF (crashF s2 keep) = (s, first, true, 0) ∧ (cleanF (crashF s2 keep)).2 = 0 ∧ (listF (cleanF (crashF s2 keep)).1).length = 2 ∧ loadF (cleanF (crashF s2 keep)).1 = (s, first, true, 0)) ∨
      ((e2 = 0 ∨ e2 = 2) ∧ ∃ k : Nat, m = (k : Int) ∧ loadF (crashF s2 keep) = (k, second, true, 0) ∧ (cleanF (crashF s2 keep)).2 = 0 ∧ (listF (cleanF (crashF s2 keep)).1).length = 2 ∧ loadF (cleanF (crashF s2 keep)).1 = (k, second, true, 0)) := by
    cases HP.out with
    | old h K ha hK =>
      left
      obtain ⟨q1, q2, q3⟩ := ha.clean d9.2 (by omega) (by omega) HB.out.1 hK ⟨stays_1.2.1, stays_1.1⟩
      exact ⟨h, ha.load (by omega) (by omega) HB.out.1 HB.out.2, q1, q2, q3.load (by omega) (by omega) HB.out.1 HB.out.2⟩
    | young h k hm hk hb K ha hK =>
      right
      obtain ⟨q1, q2, q3⟩ := ha.clean d9.2 (by omega) (by omega) hk hK ⟨stays_2.2.1, stays_2.2.2.1⟩
      exact ⟨h, k, hm, ha.load (by omega) (by omega) hk hb, q1, q2, q3.load (by omega) (by omega) hk hb⟩
  have hld := load_dk c9 0 p _ w9 d9
  have hcl := fun (w : World) (d : Dk c9 0 w p (crashF s2 keep)) (hc : Cols W.heap.size w c9) => clean_dk W.heap.size c9 0 p _ w d hc hstc
  have HD9 := Lib.hid d9
  clear hcr x9 d9 hst9 hstc HP HX8 hst3
  generalize crashF s2 keep = s3 at *
  obtain ⟨⟨s4, e4⟩, hs4⟩ : ∃ R, cleanF s3 = R := ⟨_, rfl⟩
  rw [hs4] at hQ hcl
  simp only [] at hQ hcl
  clear hs4
  rcases hQ with ⟨he2, hl, hc, hn2, hl2⟩ | ⟨he2, k, rfl, hl, hc, hn2, hl2⟩
  · subst hc
    rw [hl] at hld
    have HLN := Lib.hid hn2
    have HL2 := Lib.hid hl2
    have n0 : ((e2 : Int) != 0) = true := by simpa using he2
    have n1 : ((e2 : Int) == 0) = false := by simpa using he2
    have h2c : ((e2 : Int) != 2) = true ∨ ((e2 : Int) != 2) = false := by cases (e2 : Int) != 2 <;> simp
    clear hl hn2 hl2 he2
    go_wp2_with fail
    refine hld.mono ?_
    rintro e w10 hto
    obtain ⟨bo, c10, he, ho, k10⟩ := hto.ex
    simp only [HFL.out] at he ho
    subst he
    have HX10 := Lib.hid (HX9.out.trans (Ext.quiet HX9.out.cols k10))
    have HD10 := Lib.hid (HD9.out.keep k10)
    have hsm := same_any bo fo nf c10 nf cf first first w10 ho.bs (HF.out.keep (HKW.out _ _ HX10.out)) (by omega)
    rw [beq_self_eq_true] at hsm
    have HOB0 := Lib.hid ((ho.mono (G := fun j => c9 j = 0) (fun j _ c => cols_new HX9.out.cols c)).dataP)
    have hss : ((s : Int) == (s : Int)) = true := by simp
    clear hld hto ho k10 HX9 HD9
    go_wp2_with fail
    refine hsm.mono ?_
    rintro e w11 ⟨rfl, q, rfl⟩
    have kq : Kp Noone w10 (w10.drewN q) := (Kp.refl _ _).drewN q
    have HX11 := Lib.hid (HX10.out.trans (Ext.quiet HX10.out.cols kq))
    have HD11 := Lib.hid (HD10.out.keep kq)
    have HOB1 := Lib.hid (HOB0.out.keep kq)
    clear hsm kq HX10 HD10 HOB0
    generalize w10.drewN q = w11 at *
    by_cases hm : (s : Int) = m
    · have hme : ((s : Int) == m) = true := by simpa using hm
      have hsm := same_any bo so nf c10 ns cs first second w11 HOB1.out.1 (HS.out.keep (HKW.out _ _ HX11.out)) (by omega)
      obtain ⟨yb, hyb⟩ : ∃ yb, Hid ((first == second) = yb) := ⟨_, Lib.hid rfl⟩
      rw [hyb.out] at hsm
      clear hm
      go_wp2_with fail
      refine hsm.mono ?_
      rintro e w11b ⟨rfl, q2, rfl⟩
      have kq2 : Kp Noone w11 (w11.drewN q2) := (Kp.refl _ _).drewN q2
      have HX := Lib.hid (HX11.out.trans (Ext.quiet HX11.out.cols kq2))
      have HD := Lib.hid (HD11.out.keep kq2)
      have HOB := Lib.hid (HOB1.out.keep kq2)
      clear hsm kq2 HX11 HD11 HOB1
      generalize w11.drewN q2 = wX at *
      rcases h2c with h2 | h2
      all_goals (
        go_wp2_with fail
        refine (hcl _ HD.out HX.out.cols).mono ?_
        rintro e w12 hto
        obtain ⟨c12, rfl, x12, d12⟩ := hto.ex
        simp only [] at d12 ⊢
        have HX12 := Lib.hid (HX.out.trans (x12.mono (T := fun c => c ≠ 0) (fun c h => by unfold S3 at h; omega)))
        have hob12 := x12.data HOB.out
        have hls := list_dk c12 0 p s4 w12 d12
        rw [HLN.out] at hls
        rw [Int.natCast_zero]
        clear hto x12
        go_wp2_with fail
        refine hls.mono ?_
        rintro e w13 ⟨no, nc, rfl, -, k13⟩
        have hld2 := load_dk c12 0 p s4 w13 (d12.keep k13)
        rw [HL2.out] at hld2
        have HX13 := Lib.hid (HX12.out.trans (Ext.quiet HX12.out.cols k13))
        have hob13 := hob12.keep k13
        clear hls d12 hob12 k13
        go_wp2_with fail
        refine hld2.mono ?_
        rintro e w14 hto
        obtain ⟨b2, c14, he, ho14, k14⟩ := hto.ex
        simp only [HFL.out] at he ho14
        subst he
        have HX14 := Lib.hid (HX13.out.trans (Ext.quiet HX13.out.cols k14))
        have hsm := same_any b2 bo nf c14 nf c10 first first w14 ho14.bs (hob13.keep k14).1 (by omega)
        rw [beq_self_eq_true] at hsm
        clear hld2 hto ho14 hob13 k14
        go_wp2_with fail
        refine hsm.mono ?_
        rintro e w15 ⟨rfl, q15, rfl⟩
        go_wp2_with fail
        go_ret
        exact ⟨rfl, (HKW.out _ _ HX14.out).drewN q15⟩)
    · have hme : ((s : Int) == m) = false := by simpa using hm
      clear hm
      have HX := HX11
      have HD := HD11
      have HOB := HOB1
      clear HX11 HD11 HOB1
      rcases h2c with h2 | h2
      all_goals (
        go_wp2_with fail
        refine (hcl _ HD.out HX.out.cols).mono ?_
        rintro e w12 hto
        obtain ⟨c12, rfl, x12, d12⟩ := hto.ex
        simp only [] at d12 ⊢
        have HX12 := Lib.hid (HX.out.trans (x12.mono (T := fun c => c ≠ 0) (fun c h => by unfold S3 at h; omega)))
        have hob12 := x12.data HOB.out
        have hls := list_dk c12 0 p s4 w12 d12
        rw [HLN.out] at hls
        rw [Int.natCast_zero]
        clear hto x12
        go_wp2_with fail
        refine hls.mono ?_
        rintro e w13 ⟨no, nc, rfl, -, k13⟩
        have hld2 := load_dk c12 0 p s4 w13 (d12.keep k13)
        rw [HL2.out] at hld2
        have HX13 := Lib.hid (HX12.out.trans (Ext.quiet HX12.out.cols k13))
        have hob13 := hob12.keep k13
        clear hls d12 hob12 k13
        go_wp2_with fail
        refine hld2.mono ?_
        rintro e w14 hto
        obtain ⟨b2, c14, he, ho14, k14⟩ := hto.ex
        simp only [HFL.out] at he ho14
        subst he
        have HX14 := Lib.hid (HX13.out.trans (Ext.quiet HX13.out.cols k14))
        have hsm := same_any b2 bo nf c14 nf c10 first first w14 ho14.bs (hob13.keep k14).1 (by omega)
        rw [beq_self_eq_true] at hsm
        clear hld2 hto ho14 hob13 k14
        go_wp2_with fail
        refine hsm.mono ?_
        rintro e w15 ⟨rfl, q15, rfl⟩
        go_wp2_with fail
        go_ret
        exact ⟨rfl, (HKW.out _ _ HX14.out).drewN q15⟩)
  · subst hc
    rw [hl] at hld
    have HLN := Lib.hid hn2
    have HL2 := Lib.hid hl2
    clear hl hn2 hl2
    go_wp2_with fail
    refine hld.mono ?_
    rintro e w10 hto
    obtain ⟨bo, c10, he, ho, k10⟩ := hto.ex
    simp only [HSL.out] at he ho
    subst he
    have HX10 := Lib.hid (HX9.out.trans (Ext.quiet HX9.out.cols k10))
    have HD10 := Lib.hid (HD9.out.keep k10)
    have HOB0 := Lib.hid ((ho.mono (G := fun j => c9 j = 0) (fun j _ c => cols_new HX9.out.cols c)).dataP)
    have hss : ((k : Int) == (k : Int)) = true := by simp
    have hA := same_any bo fo ns c10 nf cf second first w10 HOB0.out.1 (HF.out.keep (HKW.out _ _ HX10.out)) (by omega)
    obtain ⟨yb, hyb⟩ : ∃ yb, Hid ((second == first) = yb) := ⟨_, Lib.hid rfl⟩
    rw [hyb.out] at hA
    have hB := fun (w : World) (h1 : DataP (fun j => c9 j = 0) w bo ns c10 second) (X : Ext W.heap.size (fun c => c ≠ 0) (fun _ => 0) W c9 w) => same_any bo so ns c10 ns cs second second w h1.1 (HS.out.keep (HKW.out _ _ X)) (by omega)
    rw [beq_self_eq_true] at hB
    clear hld hto ho k10 HX9 HD9
    by_cases hm : (k : Int) = (s : Int)
    · have hme : ((k : Int) == (s : Int)) = true := by simpa using hm
      clear hm
      go_wp2_with fail
      refine hA.mono ?_
      rintro e w11 ⟨rfl, q, rfl⟩
      have kq : Kp Noone w10 (w10.drewN q) := (Kp.refl _ _).drewN q
      have HX11 := Lib.hid (HX10.out.trans (Ext.quiet HX10.out.cols kq))
      have HD11 := Lib.hid (HD10.out.keep kq)
      have HOB1 := Lib.hid (HOB0.out.keep kq)
      clear hA kq HX10 HD10 HOB0
      generalize w10.drewN q = w11 at *
      go_wp2_with fail
      refine (hB _ HOB1.out HX11.out).mono ?_
      rintro e w11b ⟨rfl, q2, rfl⟩
      have kq2 : Kp Noone w11 (w11.drewN q2) := (Kp.refl _ _).drewN q2
      have HX := Lib.hid (HX11.out.trans (Ext.quiet HX11.out.cols kq2))
      have HD := Lib.hid (HD11.out.keep kq2)
      have HOB := Lib.hid (HOB1.out.keep kq2)
      clear hB kq2 HX11 HD11 HOB1
      generalize w11.drewN q2 = wX at *
      rcases he2 with rfl | rfl
      all_goals (
        cases yb
        all_goals (
          go_wp2_with fail
          refine (hcl _ HD.out HX.out.cols).mono ?_
          rintro e w12 hto
          obtain ⟨c12, rfl, x12, d12⟩ := hto.ex
          simp only [] at d12 ⊢
          have HX12 := Lib.hid (HX.out.trans (x12.mono (T := fun c => c ≠ 0) (fun c h => by unfold S3 at h; omega)))
          have hob12 := x12.data HOB.out
          have hls := list_dk c12 0 p s4 w12 d12
          rw [HLN.out] at hls
          rw [Int.natCast_zero]
          clear hto x12
          go_wp2_with fail
          refine hls.mono ?_
          rintro e w13 ⟨no, nc, rfl, -, k13⟩
          have hld2 := load_dk c12 0 p s4 w13 (d12.keep k13)
          rw [HL2.out] at hld2
          have HX13 := Lib.hid (HX12.out.trans (Ext.quiet HX12.out.cols k13))
          have hob13 := hob12.keep k13
          clear hls d12 hob12 k13
          go_wp2_with fail
          refine hld2.mono ?_
          rintro e w14 hto
          obtain ⟨b2, c14, he, ho14, k14⟩ := hto.ex
          simp only [HSL.out] at he ho14
          subst he
          have HX14 := Lib.hid (HX13.out.trans (Ext.quiet HX13.out.cols k14))
          have hsm := same_any b2 bo ns c14 ns c10 second second w14 ho14.bs (hob13.keep k14).1 (by omega)
          rw [beq_self_eq_true] at hsm
          clear hld2 hto ho14 hob13 k14
          go_wp2_with fail
          refine hsm.mono ?_
          rintro e w15 ⟨rfl, q15, rfl⟩
          go_wp2_with fail
          go_ret
          exact ⟨rfl, (HKW.out _ _ HX14.out).drewN q15⟩))
    · have hme : ((k : Int) == (s : Int)) = false := by simpa using hm
      clear hm hA
      go_wp2_with fail
      refine (hB _ HOB0.out HX10.out).mono ?_
      rintro e w11b ⟨rfl, q2, rfl⟩
      have kq2 : Kp Noone w10 (w10.drewN q2) := (Kp.refl _ _).drewN q2
      have HX := Lib.hid (HX10.out.trans (Ext.quiet HX10.out.cols kq2))
      have HD := Lib.hid (HD10.out.keep kq2)
      have HOB := Lib.hid (HOB0.out.keep kq2)
      clear hB kq2 HX10 HD10 HOB0
      generalize w10.drewN q2 = wX at *
      rcases he2 with rfl | rfl
      all_goals (
        go_wp2_with fail
        refine (hcl _ HD.out HX.out.cols).mono ?_
        rintro e w12 hto
        obtain ⟨c12, rfl, x12, d12⟩ := hto.ex
        simp only [] at d12 ⊢
        have HX12 := Lib.hid (HX.out.trans (x12.mono (T := fun c => c ≠ 0) (fun c h => by unfold S3 at h; omega)))
        have hob12 := x12.data HOB.out
        have hls := list_dk c12 0 p s4 w12 d12
        rw [HLN.out] at hls
        rw [Int.natCast_zero]
        clear hto x12
        go_wp2_with fail
        refine hls.mono ?_
        rintro e w13 ⟨no, nc, rfl, -, k13⟩
        have hld2 := load_dk c12 0 p s4 w13 (d12.keep k13)
        rw [HL2.out] at hld2
        have HX13 := Lib.hid (HX12.out.trans (Ext.quiet HX12.out.cols k13))
        have hob13 := hob12.keep k13
        clear hls d12 hob12 k13
        go_wp2_with fail
        refine hld2.mono ?_
        rintro e w14 hto
        obtain ⟨b2, c14, he, ho14, k14⟩ := hto.ex
        simp only [HSL.out] at he ho14
        subst he
        have HX14 := Lib.hid (HX13.out.trans (Ext.quiet HX13.out.cols k14))
        have hsm := same_any b2 bo ns c14 ns c10 second second w14 ho14.bs (hob13.keep k14).1 (by omega)
        rw [beq_self_eq_true] at hsm
        clear hld2 hto ho14 hob13 k14
        go_wp2_with fail
        refine hsm.mono ?_
        rintro e w15 ⟨rfl, q15, rfl⟩
        go_wp2_with fail
        go_ret
        exact ⟨rfl, (HKW.out _ _ HX14.out).drewN q15⟩)

set_option maxRecDepth 100000 in
/-- The law. -/
theorem snapSwaps_core {H : Type} {enc : TypeId × Value → H} (W : World) (base : Nat) (v0 : Value) (d0 : DataW H) (p0 : List MemPlace) (v1 : Value) (d1 : DataW H) (p1 : List MemPlace) (v2 : Value) (d2 : DataW H) (p2 : List MemPlace) (v3 : Value) (d3 : DataW H) (p3 : List MemPlace) (v4 : Value) (d4 : DataW H) (p4 : List MemPlace) (v5 : Value) (d5 : DataW H) (p5 : List MemPlace)
    (h0 : DataW.Trod enc Try.prog W 0 (fun _ => true) true 22 v0 d0 p0) (h1 : DataW.Trod enc Try.prog W 0 (fun _ => true) true 22 v1 d1 p1) (h2 : DataW.Trod enc Try.prog W 0 (fun _ => true) true 3 v2 d2 p2) (h3 : DataW.Trod enc Try.prog W 0 (fun _ => true) true 3 v3 d3 p3) (h4 : DataW.Trod enc Try.prog W 0 (fun _ => true) true 3 v4 d4 p4) (h5 : DataW.Trod enc Try.prog W 0 (fun _ => true) true 45 v5 d5 p5)
    (g0 : Value.okWide Try.prog W .any base 22 v0) (g1 : Value.okWide Try.prog W .any base 22 v1) (g2 : Value.okWide Try.prog W .any base 3 v2) (g3 : Value.okWide Try.prog W .any base 3 v3) (g4 : Value.okWide Try.prog W .any base 3 v4) (g5 : Value.okWide Try.prog W .any base 45 v5) (hk : Rows.uptoBulkAll [d0, d1, d2, d3, d4, d5] ≤ 1048576) :
    Calls Try.prog 6 #[v0, v1, v2, v3, v4, v5] W fun e w' => e = .returned (.bool true) ∧ Kp Noone W w' := by
  obtain ⟨fo, nf, cf, first, rfl, hf, hcf⟩ := arg_bytes h0 g0
  obtain ⟨so, ns, cs, second, rfl, hs, hcs⟩ := arg_bytes h1 g1
  obtain ⟨n, rfl, -⟩ := arg_int h2 g2
  obtain ⟨m, rfl, -⟩ := arg_int h3 g3
  obtain ⟨fu, rfl, hfu⟩ := arg_int h4 g4
  obtain ⟨ko, nk, ck, keep, rfl, hkp, hck⟩ := arg_ints h5 g5
  simp only [Rows.uptoBulkAll] at hk
  have := hf.le
  have := hs.le
  have := hkp.le
  exact snapSwaps_walk fo nf cf first so ns cs second n m fu ko nk ck keep W hf hs hkp (by omega) (by omega) (by omega) (i64_wf hfu).2

end Go.Proofs.Ytigdhdclfdojgaa
