/-
  THE WALK of snap: Save.
-/
import Derived.Test.YtigdhdclfdojgaaSnapLay
import Derived.Test.YtigdhdclfdojgaaRefDiskC
namespace Go.Proofs.Ytigdhdclfdojgaa
open Go.RowKit

attribute [local irreducible] putP layF currentF moveF dropF paperL

set_option maxHeartbeats 4000000 in
set_option maxRecDepth 100000 in
theorem save_dk (B : Nat) (col : Nat → Nat) (i p : Nat) (s : DS) (slot : Int) (fo : Option Addr) (n cap : Nat) (b : List UInt8) (w : World) (h : Dk col i w p s) (hc : Cols B w col) (hBw : B ≤ w.heap.size) (hb : DataP (fun j => col j = 0) w fo n cap b) (hst : s.steps < 4611686018427387000) :
    Calls Try.prog 16 #[.pointer (some ⟨p, 0, none⟩), .int .i64 slot, .slice fo n cap] w fun e w' => ErrTo B col i p w (saveF s slot b) e w' := by
  obtain ⟨RES, hRES⟩ : ∃ x, Hid (saveF s slot b = x) := ⟨_, Lib.hid rfl⟩
  rw [hRES.out]
  have HR := hRES.out
  have hlen := hb.1.len
  unfold saveF at HR
  clear hRES
  by_cases hs : slot < 0 ∨ 1099511627776 < slot
  · rw [if_pos hs] at HR
    subst HR
    by_cases h0 : slot < 0
    · go_enter Try.func16, Try.ntmps16
      go_wp2_with fail
      go_ret
      exact ⟨⟨col, rfl, Ext.quiet hc (Kp.refl _ _), h⟩⟩
    · have h1 : 1099511627776 < slot := by omega
      clear hs
      go_enter Try.func16, Try.ntmps16
      go_wp2_with fail
      go_ret
      exact ⟨⟨col, rfl, Ext.quiet hc (Kp.refl _ _), h⟩⟩
  rw [if_neg hs] at HR
  obtain ⟨sl, rfl⟩ : ∃ sl : Nat, slot = (sl : Int) := ⟨slot.toNat, by omega⟩
  have hsl : sl ≤ 1099511627776 := by omega
  clear hs
  by_cases hbig : 16384 < n
  · rw [if_pos (by omega)] at HR
    subst HR
    clear hlen
    go_enter Try.func16, Try.ntmps16
    go_wp2_with fail
    go_ret
    exact ⟨⟨col, rfl, Ext.quiet hc (Kp.refl _ _), h⟩⟩
  rw [if_neg (by omega)] at HR
  have hcur := current_dk col i p s w h
  have hcl := currentF_le s
  generalize currentF s = C at *
  obtain ⟨⟨tn, sn, un⟩, ce⟩ := C
  simp only [] at HR hcl
  have HRR := Lib.hid HR
  have HLN := Lib.hid hlen
  obtain ⟨hcl, -, -⟩ := hcl
  clear HR hlen
  go_enter Try.func16, Try.ntmps16
  go_wp2_with fail
  refine hcur.mono ?_
  rintro e w1 hto
  obtain ⟨rfl, k1⟩ := hto.ex
  clear hto hcur
  unfold papV papC
  simp only []
  have kA : Kp Noone w1 (w1.alloc (.cells #[.int .i64 (tn : Int), .int .i64 (sn : Int), .int .u64 (un : Int)] 88)) := (Kp.refl _ _).alloc _
  have hA := heap_alloc_new w1 (.cells #[.int .i64 (tn : Int), .int .i64 (sn : Int), .int .u64 (un : Int)] 88)
  have K1 := k1.trans kA
  go_upto_region 6 with fail
  generalize w1.alloc (.cells #[.int .i64 (tn : Int), .int .i64 (sn : Int), .int .u64 (un : Int)] 88) = wA at *
  have hgl : w.heap.size ≤ w1.heap.size := k1.size
  generalize w1.heap.size = gb at *
  obtain ⟨y0, y1, y2, -, -, -⟩ := cells_three hA
  have hgc : col gb = 0 := cols_new hc hgl
  have hb := hb.mono (Q := fun j => col j = 0 ∧ j < w.heap.size) (fun _ hj c => ⟨c, hj⟩)
  have X1 := Ext.quiet (S := S3 i) hc K1
  have d1 := h.keep K1
  have hb1 := hb.keep K1
  clear K1 kA k1 h hc hb
  by_cases hce : ce = 0
  case neg =>
    have HR2 := HRR.out
    rw [if_pos hce] at HR2
    subst HR2
    have n0 : ((ce : Int) != 0) = true := by simpa using hce
    go_wp2_with fail
    go_ret
    exact ⟨⟨col, rfl, X1, d1⟩⟩
  subst hce
  have HR2 := HRR.out
  rw [if_neg (by simp)] at HR2
  rw [Int.natCast_zero]
  by_cases htn : 1099511627776 ≤ tn
  · rw [if_pos htn] at HR2
    subst HR2
    have hti : (1099511627776 : Int) ≤ (tn : Int) := by omega
    clear htn hcl hsl
    go_wp2_with fail
    go_ret
    exact ⟨⟨col, rfl, X1, d1⟩⟩
  rw [if_neg htn] at HR2
  have hti : ¬ (1099511627776 : Int) ≤ (tn : Int) := by omega
  obtain ⟨t1, ht1⟩ : ∃ t1, Hid (tn + 1 = t1) := ⟨_, Lib.hid rfl⟩
  have hw1 : IntKind.i64.wrap ((tn : Int) + 1) = (t1 : Int) := by rw [← ht1.out]; exact IntWalk.i64_in _ (by omega)
  have HT1 : Hid (t1 ≤ 1099511627776 ∧ sl ≤ 1099511627776) := Lib.hid (by rw [← ht1.out]; omega)
  clear htn hcl hsl
  rw [ht1.out, Int.toNat_natCast] at HR2
  have hsm := W64_sumN b
  obtain ⟨sm, hsm2⟩ : ∃ x, Hid (sumN b = x) := ⟨_, Lib.hid rfl⟩
  rw [hsm2.out] at HR2 hsm
  have HRR := Lib.hid HR2
  have HS64 := Lib.hid hsm
  clear HR2 hsm
  go_wp2_with fail
  refine (sum_any _ _ _ [b] _ (BSS.one (bo := fo) (m := n) (c := cap) (by go_simp) (hb1.1.keep ((Kp.refl _ _).alloc _)))).mono ?_
  rintro e w2 ⟨rfl, rfl⟩
  rw [List.flatten_singleton, hsm2.out]
  have kB : Kp Noone wA (wA.alloc (.cells #[.slice fo n cap] 22)) := (Kp.refl _ _).alloc _
  have hA2 := kB.heap hA id
  have X2 := X1.trans (Ext.quiet X1.cols kB)
  have d2 := d1.keep kB
  have hb2 := hb1.keep kB
  have hgb : gb < (wA.alloc (.cells #[.slice fo n cap] 22)).heap.size := (Array.getElem?_eq_some_iff.1 hA2).1
  clear y0 y1 y2 kB X1 d1 hb1 hA
  go_upto_region 12 with (refine wpList_store_pap rfl (.tmp 7) (.tmp 41) rfl gb ⟨t1, sl, sm⟩ (by rfl) (by rfl) hA2 ?_)
  generalize wA.alloc (.cells #[.slice fo n cap] 22) = wB at *
  have kp3 := putP_kp wB gb ⟨t1, sl, sm⟩
  have hA3 := putP_heap ⟨t1, sl, sm⟩ hA2
  have X3 := X2.flip kp3 (fun j e => by subst e; exact hgl)
  have d3 := d2.free kp3 (fun j e => by subst e; exact hgc)
  have hb3 := (hb2.kp kp3 (fun j _ c e => by omega)).mono (Q := fun j => col j = 0) (fun _ _ c => c.1)
  have hgb3 := Nat.lt_of_lt_of_le hgb kp3.size
  clear kp3 X2 d2 hb2 hA2 hgb
  generalize putP wB gb ⟨t1, sl, sm⟩ = w3 at *
  unfold papC at hA3
  simp only [] at hA3
  obtain ⟨y0, y1, y2, -, -, -⟩ := cells_three hA3
  have hla := lay_dk B col i p s (areaN t1) fo n cap b w3 d3 X3.cols (Nat.le_trans hBw X3.size) hb3 (areaN_size t1) (by omega)
  have hs4 := layF_steps s (areaN t1) b
  have HRR := HRR.out
  generalize layF s (areaN t1) b = r1 at *
  obtain ⟨s1, e1⟩ := r1
  unfold saveA at HRR
  simp only [ht1.out] at HRR hla hs4
  have HRA := Lib.hid HRR
  have HX3 := Lib.hid X3
  clear HRR X3 d3 hb3
  go_wp2_with fail
  refine (area_any t1 _).mono ?_
  rintro e w' ⟨rfl, rfl⟩
  go_wp2_with fail
  refine hla.mono ?_
  rintro e w4 hto
  obtain ⟨c4, rfl, x4, d4⟩ := hto.ex
  have X4 := HX3.out.trans x4
  have hA4 := x4.kp.heap hA3 (by rw [hgc]; unfold S3; omega)
  clear hla hto HX3 y0 y1 y2 hA3
  by_cases h1 : e1 = 0
  case neg =>
    have HR1 := HRA.out
    rw [if_pos h1] at HR1
    subst HR1
    have n1 : ((e1 : Int) != 0) = true := by simpa using h1
    have HX4 := Lib.hid X4
    clear X4 x4
    go_wp2_with fail
    go_ret
    exact ⟨⟨c4, rfl, HX4.out, d4⟩⟩
  subst h1
  have HR1 := HRA.out
  rw [if_neg (by simp)] at HR1
  rw [Int.natCast_zero]
  obtain ⟨y0, y1, y2, -, -, -⟩ := cells_three hA4
  have HR1 := Lib.hid HR1
  have HX4 := Lib.hid X4
  clear X4 x4 HRA hA4
  go_wp2_with fail
  refine (paper_any t1 sl sm w4 (by have := HT1.out; omega) (by have := HT1.out; omega) HS64.out).mono ?_
  rintro e w5 ⟨bo, cc, rfl, ho, k5⟩
  have hbp := ho.data0 HX4.out.cols
  have X5 := HX4.out.trans (Ext.quiet HX4.out.cols k5)
  have d5 := d4.keep k5
  have hpl := length_paperL t1 sl sm
  have hla := lay_dk B c4 i p s1 ckTmp bo (paperL t1 sl sm).length cc (paperL t1 sl sm) w5 d5 X5.cols (Nat.le_trans hBw X5.size) hbp (by decide) (by omega)
  have hs6 := layF_steps s1 ckTmp (paperL t1 sl sm)
  have HRR := HR1.out
  generalize layF s1 ckTmp (paperL t1 sl sm) = r2 at *
  obtain ⟨s2, e2⟩ := r2
  unfold saveB at HRR
  simp only [] at HRR hla hs6
  have HRB := Lib.hid HRR
  have HX5 := Lib.hid X5
  clear HRR X5 d5 hbp ho k5 d4 HX4 y0 y1 y2 HR1
  generalize (paperL t1 sl sm).length = pl at *
  go_wp2_with fail
  refine hla.mono ?_
  rintro e w6 hto
  obtain ⟨c6, rfl, x6, d6⟩ := hto.ex
  have X6 := HX5.out.trans x6
  clear hla hto HX5 x6
  by_cases h2 : e2 = 0
  case neg =>
    have HR2 := HRB.out
    rw [if_pos h2] at HR2
    subst HR2
    have n1 : ((e2 : Int) != 0) = true := by simpa using h2
    have HX6 := Lib.hid X6
    clear X6
    go_wp2_with fail
    go_ret
    exact ⟨⟨c6, rfl, HX6.out, d6⟩⟩
  subst h2
  have HR2 := HRB.out
  rw [if_neg (by simp)] at HR2
  rw [Int.natCast_zero]
  have hmv := move_dk B c6 i p s2 ckTmp ckNow w6 d6 X6.cols (Nat.le_trans hBw X6.size) (by decide) (by decide) (by omega)
  have hs7 := moveF_steps s2 ckTmp ckNow
  generalize moveF s2 ckTmp ckNow = r3 at *
  obtain ⟨s3, e3⟩ := r3
  unfold saveC at HR2
  simp only [] at HR2 hmv hs7
  have HRC := Lib.hid HR2
  have HX6 := Lib.hid X6
  clear HR2 X6 d6 HRB
  go_wp2_with fail
  refine hmv.mono ?_
  rintro e w7 ⟨rfl, c7, x7, d7⟩
  have X7 := HX6.out.trans x7
  clear hmv HX6 x7
  by_cases h3 : e3 = 0
  case neg =>
    have HR2 := HRC.out
    rw [if_pos h3] at HR2
    subst HR2
    have n1 : ((e3 : Int) != 0) = true := by simpa using h3
    have HX7 := Lib.hid X7
    clear X7
    go_wp2_with fail
    go_ret
    exact ⟨⟨c7, rfl, HX7.out, d7⟩⟩
  subst h3
  have HR3 := HRC.out
  rw [if_neg (by simp)] at HR3
  rw [Int.natCast_zero]
  by_cases h0 : 0 < tn
  case neg =>
    rw [if_neg h0] at HR3
    subst HR3
    have HX7 := Lib.hid X7
    clear X7
    obtain rfl : tn = 0 := by omega
    go_wp2_with fail
    go_ret
    exact ⟨⟨c7, rfl, HX7.out, d7⟩⟩
  rw [if_pos h0] at HR3
  have hdp := drop_dk B c7 i p s3 (areaN tn) w7 d7 X7.cols (areaN_size tn) (by omega)
  generalize dropF s3 (areaN tn) = r4 at *
  obtain ⟨s4, e4⟩ := r4
  unfold saveD at HR3
  simp only [] at HR3 hdp
  have HRD := Lib.hid HR3
  have HX7 := Lib.hid X7
  clear HR3 X7 d7 HRC
  go_wp2_with fail
  refine (area_any tn _).mono ?_
  rintro e w' ⟨rfl, rfl⟩
  go_wp2_with fail
  refine hdp.mono ?_
  rintro e w8 ⟨rfl, c8, x8, d8⟩
  have HX8 := Lib.hid (HX7.out.trans x8)
  clear hdp HX7 x8
  by_cases h4 : e4 = 0
  · subst h4
    have HR4 := HRD.out
    rw [if_neg (by simp)] at HR4
    subst HR4
    rw [Int.natCast_zero]
    go_wp2_with fail
    go_ret
    exact ⟨⟨c8, rfl, HX8.out, d8⟩⟩
  · have n4 : ((e4 : Int) != 0) = true := by simpa using h4
    by_cases h41 : e4 = 41
    · subst h41
      have HR4 := HRD.out
      rw [if_pos rfl] at HR4
      subst HR4
      clear n4
      go_wp2_with fail
      go_ret
      exact ⟨⟨c8, rfl, HX8.out, d8⟩⟩
    · have HR4 := HRD.out
      rw [if_neg h41] at HR4
      subst HR4
      have n5 : ((e4 : Int) != 41) = true := by simp; omega
      go_wp2_with fail
      go_ret
      exact ⟨⟨c8, rfl, HX8.out, d8⟩⟩

end Go.Proofs.Ytigdhdclfdojgaa
