/-
  THE WALK of snap: Load, Clean.
-/
import Derived.Test.YtigdhdclfdojgaaSnapSave
import Derived.Lib.Walk
import Derived.Lib.Slices
import Derived.Laws.Strings3
import Derived.Deep.RegionHeld3
namespace Go.Proofs.Ytigdhdclfdojgaa
open Go.RowKit

set_option maxHeartbeats 1000000 in
theorem pre_lite (s p : ByteArray) (w : World) : Calls Try.prog 84 #[.string s, .string p] w fun e w' => e = .returned (.bool (Lib.hasPrefix s.data.toList p.data.toList)) ∧ w = w' := by
  rw [← Lib.hasPrefix_of_take, ← Lib.size_eq, ← Lib.size_eq]
  go_enter Try.func84, Try.ntmps84
  go_wp2
  · rename_i h
    go_ret
    refine ⟨?_, rfl⟩
    show Ending.returned (Value.bool ((s.extract 0 p.size).toList == p.toList)) = _
    rw [Lib.extract_toList, Lib.toList_data]
    simp [h]
  · rename_i h
    go_ret
    refine ⟨?_, rfl⟩
    show Ending.returned (Value.bool false) = _
    simp [h]
set_option maxHeartbeats 1000000 in
theorem pre_any (k : ByteArray) (w : World) : Calls Try.prog 47 #[.string k, .string { data := #[99, 107, 45] }] w fun e w' => e = .returned (.bool (hasPre k)) ∧ w = w' := by
  go_enter Try.func47, Try.ntmps47
  go_wp2_with fail
  refine (pre_lite _ _ _).mono ?_
  rintro e w' ⟨rfl, rfl⟩
  go_wp2_with fail
  go_ret
  exact ⟨rfl, rfl⟩

/-- What Load answers. -/
structure LoadTo (w : World) (R : Nat × List UInt8 × Bool × Nat) (e : Ending) (w' : World) : Prop where
  ex : ∃ bo c, e = .returned (.tuple #[.int .i64 (R.1 : Int), .slice bo R.2.1.length c, .bool R.2.2.1, .int .i64 (R.2.2.2 : Int)]) ∧ Own (fun j => w.heap.size ≤ j) w' 5 1 bo R.2.1.length c (bv R.2.1) ∧ Kp Noone w w'
theorem results_tmp4 {fn : Func} {t u v x : Tmp} (h : fn.results = #[.tmp t, .tmp u, .tmp v, .tmp x]) (tmps : Array Value) (P : Program) (w : World) :
    (results fn tmps).run P w = .ok (.tuple #[tmps.getD t undef, tmps.getD u undef, tmps.getD v undef, tmps.getD x undef]) w := by
  simp [results, h]
theorem LoadTo.zero (w w' : World) (E : Nat) (k : Kp Noone w w') : LoadTo w (0, [], false, E) (.returned (.tuple #[.int .i64 0, .slice none 0 0, .bool false, .int .i64 (E : Int)])) w' :=
  ⟨⟨none, 0, rfl, Own.nil _ _ _ _ _, k⟩⟩

attribute [local irreducible] currentF readF

set_option maxHeartbeats 4000000 in
set_option maxRecDepth 100000 in
theorem load_dk (col : Nat → Nat) (i p : Nat) (s : DS) (w : World) (h : Dk col i w p s) :
    Calls Try.prog 19 #[.pointer (some ⟨p, 0, none⟩)] w fun e w' => LoadTo w (loadF s) e w' := by
  obtain ⟨RES, hRES⟩ : ∃ x, Hid (loadF s = x) := ⟨_, Lib.hid rfl⟩
  rw [hRES.out]
  have HR := hRES.out
  unfold loadF at HR
  have hcur := current_dk col i p s w h
  generalize currentF s = C at *
  obtain ⟨⟨tn, sn, un⟩, ce⟩ := C
  simp only [] at HR
  have HRR := Lib.hid HR
  clear HR hRES
  go_enter Try.func19, Try.ntmps19
  go_wp2_with fail
  refine hcur.mono ?_
  rintro e w1 hto
  obtain ⟨rfl, k1⟩ := hto.ex
  clear hto hcur
  unfold papV papC
  simp only []
  have kA : Kp Noone w1 (w1.alloc (.cells #[.int .i64 (tn : Int), .int .i64 (sn : Int), .int .u64 (un : Int)] 88)) := (Kp.refl _ _).alloc _
  have hA := heap_alloc_new w1 (.cells #[.int .i64 (tn : Int), .int .i64 (sn : Int), .int .u64 (un : Int)] 88)
  have HK1 := Lib.hid (k1.trans kA)
  go_upto_region 2 with fail
  generalize w1.alloc (.cells #[.int .i64 (tn : Int), .int .i64 (sn : Int), .int .u64 (un : Int)] 88) = wA at *
  generalize w1.heap.size = gb at *
  obtain ⟨y0, y1, y2, -, -, -⟩ := cells_three hA
  have d1 := h.keep HK1.out
  clear kA k1 h
  by_cases hce : ce = 0
  case neg =>
    have HR2 := HRR.out
    rw [if_pos (Or.inl hce)] at HR2
    subst HR2
    have n0 : ((ce : Int) != 0) = true := by simpa using hce
    go_wp2_with fail
    refine bodyPost_ret (results_tmp4 rfl _ _ _) rfl ?_
    exact LoadTo.zero _ _ _ HK1.out
  subst hce
  rw [Int.natCast_zero]
  by_cases htn : tn = 0
  · subst htn
    have HR2 := HRR.out
    rw [if_pos (Or.inr rfl)] at HR2
    subst HR2
    rw [Int.natCast_zero] at y0
    go_wp2_with fail
    refine bodyPost_ret (results_tmp4 rfl _ _ _) rfl ?_
    exact LoadTo.zero _ _ 0 HK1.out
  have HR2 := HRR.out
  rw [if_neg (by simpa using htn)] at HR2
  unfold loadP at HR2
  simp only [] at HR2
  have n0 : ((tn : Int) == 0) = false := by simpa using htn
  have hrd := read_dk col i p s (areaN tn) wA d1 (areaN_size tn)
  have hlen := readF_len d1.2 (areaN tn)
  generalize readF s (areaN tn) = R at *
  obtain ⟨b, e1⟩ := R
  simp only [] at HR2 hrd hlen
  have HRA := Lib.hid HR2
  clear HR2 HRR htn d1
  go_wp2_with fail
  refine (area_any tn _).mono ?_
  rintro e w' ⟨rfl, rfl⟩
  go_wp2_with fail
  refine hrd.mono ?_
  rintro e w2 ⟨bo, c, rfl, ho, k2⟩
  have hA2 := k2.heap hA id
  have HK2 := Lib.hid (HK1.out.trans k2)
  have HO := Lib.hid (ho.mono (G := fun j => w.heap.size ≤ j) (fun j _ c => Nat.le_trans HK1.out.size c))
  have hob := ho.bs
  clear hrd ho k2 hA y0 y1 y2 HK1 n0
  obtain ⟨y0, y1, y2, -, -, -⟩ := cells_three hA2
  by_cases h41 : e1 = 41
  · subst h41
    have HR3 := HRA.out
    rw [if_pos (Or.inl rfl)] at HR3
    subst HR3
    go_upto_region 5 with fail
    go_region
    go_wp2_with fail
    refine bodyPost_ret (results_tmp4 rfl _ _ _) rfl ?_
    exact LoadTo.zero _ _ 44 HK2.out.drew
  have n41 : ((e1 : Int) == 41) = false := by simp; omega
  by_cases h0 : e1 = 0
  case neg =>
    have n0 : ((e1 : Int) == 0) = false := by simpa using h0
    have n1 : ((e1 : Int) != 0) = true := by simpa using h0
    have HR3 := HRA.out
    rw [if_neg (by intro c; rcases c with c | c; exact h41 c; exact h0 c.1), if_pos h0] at HR3
    subst HR3
    go_upto_region 5 with fail
    go_region
    go_wp2_with fail
    refine bodyPost_ret (results_tmp4 rfl _ _ _) rfl ?_
    exact LoadTo.zero _ _ e1 HK2.out.drew
  subst h0
  clear h41
  have HR3 := HRA.out
  rw [Int.natCast_zero] at n41 ⊢
  have hbs := hob.len
  obtain ⟨sm, hsm⟩ : ∃ x, Hid (sumN b = x) := ⟨_, Lib.hid rfl⟩
  rw [hsm.out] at HR3
  have HRB := Lib.hid HR3
  have HB := Lib.hid hob
  generalize hbl : b.length = bl at *
  have HBL := Lib.hid hbl
  have kD : Kp Noone w2 w2 := Kp.refl _ _
  have HY2 : Hid (∀ w', Kp Noone w2 w' → w'.cell? ⟨gb, 2, none⟩ = some (.int .u64 (un : Int))) := Lib.hid (fun w' k => k.cell y2 id)
  have HY1 : Hid (∀ w', Kp Noone w2 w' → w'.cell? ⟨gb, 1, none⟩ = some (.int .i64 (sn : Int))) := Lib.hid (fun w' k => k.cell y1 id)
  have hgb2 : gb < w2.heap.size := (Array.getElem?_eq_some_iff.1 hA2).1
  clear hob hbs HR3 HRA hA2 hbl hlen y0 y1
  by_cases hs : sm = un
  case neg =>
    have ns : ((sm : Int) != (un : Int)) = true := by simp; omega
    have HR4 := HRB.out
    rw [if_pos (Or.inr ⟨rfl, Or.inl hs⟩)] at HR4
    subst HR4
    clear hs
    go_upto_region 5 with fail
    first | (go_region_law (first | (go_simp; go_at_call 41; refine (sum_any _ _ _ [b] _ (BSS.one (bo := bo) (m := bl) (c := c) (by go_simp) (HB.out.keep (kD.alloc _).drew))).mono ?_; rintro e w' ⟨rfl, rfl⟩; rw [List.flatten_singleton, hsm.out]))) | fail
    all_goals (
      go_wp2_with fail
      refine bodyPost_ret (results_tmp4 rfl _ _ _) rfl ?_
      exact LoadTo.zero _ _ 44 (HK2.out.trans (kD.alloc _).drew))
  have ns : ((sm : Int) != (un : Int)) = false := by simp; omega
  by_cases hbig : 16384 < bl
  · have HR4 := HRB.out
    rw [if_pos (Or.inr ⟨rfl, Or.inr hbig⟩)] at HR4
    subst HR4
    clear HRB hs
    go_upto_region 5 with fail
    first
      | (go_region_held3 (fun w' => w'.cell? ⟨gb, 2, none⟩ = some (.int .u64 (un : Int)))
          (first | exact HY2.out _ kD | exact HY2.out _ kD.drew | exact HY2.out _ (kD.alloc _) | exact HY2.out _ (kD.alloc _).drew)
          (first | (go_at_call 41; refine (sum_any _ _ _ [b] _ (BSS.one (bo := bo) (m := bl) (c := c) (by go_simp) (HB.out.keep (kD.alloc _).drew))).mono ?_; rintro e w' ⟨rfl, rfl⟩; rw [List.flatten_singleton, hsm.out])))
      | fail
    go_wp2_with fail
    refine bodyPost_ret (results_tmp4 rfl _ _ _) rfl ?_
    exact LoadTo.zero _ _ 44 (HK2.out.trans (kD.alloc _).drew)
  have HR4 := HRB.out
  rw [if_neg (by intro c; rcases c with c | c; exact absurd c (by decide); rcases c.2 with c | c; exact c hs; exact hbig c), if_neg (by simp)] at HR4
  subst HR4
  clear HRB hs
  go_upto_region 5 with fail
  first
    | (go_region_held3 (fun w' => w'.cell? ⟨gb, 2, none⟩ = some (.int .u64 (un : Int)))
        (first | exact HY2.out _ kD | exact HY2.out _ kD.drew | exact HY2.out _ (kD.alloc _) | exact HY2.out _ (kD.alloc _).drew)
        (first | (go_at_call 41; refine (sum_any _ _ _ [b] _ (BSS.one (bo := bo) (m := bl) (c := c) (by go_simp) (HB.out.keep (kD.alloc _).drew))).mono ?_; rintro e w' ⟨rfl, rfl⟩; rw [List.flatten_singleton, hsm.out])))
    | fail
  have y1 := HY1.out _ (kD.alloc (.cells #[.slice bo bl c] 22)).drew
  go_wp2_with fail
  refine bodyPost_ret (results_tmp4 rfl _ _ _) rfl ?_
  refine ⟨⟨bo, c, ?_, ?_, HK2.out.trans (kD.alloc _).drew⟩⟩
  · simp only []
    rw [HBL.out]
    rfl
  · simp only []
    rw [HBL.out]
    exact HO.out.keep (kD.alloc _).drew

end Go.Proofs.Ytigdhdclfdojgaa
