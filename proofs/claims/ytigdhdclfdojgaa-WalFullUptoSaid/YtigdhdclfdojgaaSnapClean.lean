/-
  THE WALK of snap: Clean.
-/
import Derived.Test.YtigdhdclfdojgaaSnapLoad
import Derived.Test.YtigdhdclfdojgaaRefDiskA
namespace Go.Proofs.Ytigdhdclfdojgaa
open Go.RowKit

theorem nameOk_size {k : ByteArray} (h : nameOk k = true) : k.size ≤ 24 := by
  unfold nameOk rightL at h
  simp only [Bool.and_eq_true, decide_eq_true_eq] at h
  have := h.1.2
  simpa using this
theorem listF_ok {s : DS} (h : DOk s) : ∀ k ∈ listF s, k.size ≤ 24 := by
  intro k hk
  unfold listF at hk
  split at hk
  · cases hk
  · obtain ⟨x, hx, rfl⟩ := List.mem_map.1 (namesF_mem k hk)
    exact nameOk_size (h.names x hx)
theorem listF_len {s : DS} (h : DOk s) : (listF s).length ≤ 64 := by
  unfold listF
  split
  · simp
  · unfold namesF
    rw [sortN_length, List.length_map]
    exact h.len
theorem cleanL_nil (t : Nat) (s : DS) : cleanL t [] s = (s, 0) := rfl
theorem cleanL_cons (t : Nat) (k : ByteArray) (r : List ByteArray) (s : DS) : cleanL t (k :: r) s = if staysN t k = true then cleanL t r s else if (dropF s k).2 ≠ 0 then dropF s k else cleanL t r (dropF s k).1 := rfl
theorem now_ne {k : ByteArray} (h : ¬ k = ckNow) : (k.toList == [99, 107, 45, 110, 111, 119]) = false ∧ ¬ k.toList = [99, 107, 45, 110, 111, 119] := by
  have e : ckNow.toList = [99, 107, 45, 110, 111, 119] := by decide +kernel
  have h1 := ba_ne h
  rw [e] at h1
  exact h1.2.2
/-- Between two names. -/
structure ClR (B : Nat) (i p tn n : Nat) (c1 : Nat → Nat) (w1 : World) (N : List ByteArray) (s0 : DS) (v : Value) (wr : World) : Prop where
  ex : ∃ (j : Nat) (c : Nat → Nat) (s : DS), v = .int .i64 (j : Int) ∧ j ≤ n ∧ Ext B (S3 i) c1 w1 c wr ∧ Dk c i wr p s ∧ s.steps ≤ s0.steps + j ∧ cleanL tn N s0 = cleanL tn (N.drop j) s

attribute [local irreducible] currentF dropF listF

set_option maxHeartbeats 4000000 in
set_option maxRecDepth 100000 in
theorem clean_dk (B : Nat) (col : Nat → Nat) (i p : Nat) (s : DS) (w : World) (h : Dk col i w p s) (hc : Cols B w col) (hst : s.steps < 4611686018427387000) :
    Calls Try.prog 17 #[.pointer (some ⟨p, 0, none⟩)] w fun e w' => ErrTo B col i p w (cleanF s) e w' := by
  obtain ⟨RES, hRES⟩ : ∃ x, Hid (cleanF s = x) := ⟨_, Lib.hid rfl⟩
  rw [hRES.out]
  have HR := hRES.out
  unfold cleanF at HR
  have hcur := current_dk col i p s w h
  generalize currentF s = C at *
  obtain ⟨⟨tn, sn, un⟩, ce⟩ := C
  simp only [] at HR
  have HRR := Lib.hid HR
  clear HR hRES
  go_enter Try.func17, Try.ntmps17
  go_wp2_with fail
  refine hcur.mono ?_
  rintro e w1 hto
  obtain ⟨rfl, k1⟩ := hto.ex
  clear hto hcur
  unfold papV papC
  simp only []
  have kA : Kp Noone w1 (w1.alloc (.cells #[.int .i64 (tn : Int), .int .i64 (sn : Int), .int .u64 (un : Int)] 88)) := (Kp.refl _ _).alloc _
  have hA := heap_alloc_new w1 (.cells #[.int .i64 (tn : Int), .int .i64 (sn : Int), .int .u64 (un : Int)] 88)
  have K1 := k1.trans kA
  go_upto_region 2 with fail
  generalize w1.alloc (.cells #[.int .i64 (tn : Int), .int .i64 (sn : Int), .int .u64 (un : Int)] 88) = wA at *
  have hgl : w.heap.size ≤ w1.heap.size := k1.size
  generalize w1.heap.size = gb at *
  have hgc : col gb = 0 := cols_new hc hgl
  have X1 := Ext.quiet (S := S3 i) hc K1
  have d1 := h.keep K1
  clear K1 kA k1 h
  by_cases hce : ce = 0
  case neg =>
    have HR2 := HRR.out
    rw [if_pos hce] at HR2
    subst HR2
    have n0 : ((ce : Int) != 0) = true := by simpa using hce
    have HX1 := Lib.hid X1
    clear X1
    go_wp2_with fail
    go_ret
    exact ⟨⟨col, rfl, HX1.out, d1⟩⟩
  subst hce
  have HR2 := HRR.out
  rw [if_neg (by simp)] at HR2
  rw [Int.natCast_zero]
  have hls := list_dk col i p s wA d1
  have hN1 := listF_ok d1.2
  have hN2 := listF_len d1.2
  generalize listF s = N at *
  have HRA := Lib.hid HR2
  have HN1 := Lib.hid hN1
  have HX1 := Lib.hid X1
  have HD1 := Lib.hid d1
  clear HR2 hN1 X1 d1 HRR
  go_wp2_with fail
  refine hls.mono ?_
  rintro e w2 ⟨no, nc, rfl, hown, k2⟩
  have hA2 := k2.heap hA id
  have hgb2 : gb < w2.heap.size := (Array.getElem?_eq_some_iff.1 hA2).1
  have HX2 := Lib.hid (HX1.out.trans (Ext.quiet HX1.out.cols k2))
  have HD2 := Lib.hid (HD1.out.keep k2)
  have HOW := Lib.hid (hown.mono (G := fun j => col j = 0) (fun j _ c => cols_new HX1.out.cols c))
  obtain ⟨n, hn⟩ : ∃ n, Hid (N.length = n) := ⟨_, Lib.hid rfl⟩
  rw [hn.out] at hN2 HOW
  rw [hn.out]
  clear hls hown k2 hA HX1 HD1
  have R0 : Hid (ClR B i p tn n col w2 N s (.int .i64 0) w2) := Lib.hid ⟨⟨0, col, s, by rfl, Nat.zero_le _, Ext.quiet HX2.out.cols (Kp.refl _ _), HD2.out, by omega, rfl⟩⟩
  go_wp2_with fail
  go_loopw [19] (fun v wr => ClR B i p tn n col w2 N s v wr) (fun v _ => n - (intOf v).toNat)
  case atStart => exact R0.out
  case round =>
    obtain ⟨j, c, s3, rfl, hj, X, d, hst3, hcl⟩ := hrel.ex
    clear R0 hrel
    by_cases hlt : j < n
    · have hNl : j < N.length := by rw [hn.out]; exact hlt
      have hA3 := X.kp.heap hA2 (by rw [hgc]; unfold S3; omega)
      obtain ⟨y0, y1, y2, -, -, -⟩ := cells_three hA3
      obtain ⟨g, off, rfl, -, hg, hcell, -⟩ := (HOW.out.kp X.kp (fun j e a => by rw [e] at a; unfold S3 at a; omega)).at (k := j) (by rw [List.length_map]; exact hNl)
      have hdr : N.drop j = N[j] :: N.drop (j + 1) := (List.getElem_cons_drop hNl).symm
      have hks := HN1.out N[j] (List.getElem_mem hNl)
      rw [hdr] at hcl
      simp only [List.getElem_map] at hcell
      generalize N[j] = k at *
      have hwj : IntKind.i64.wrap ((j : Int) + 1) = (j : Int) + 1 := IntWalk.i64_in _ (by omega)
      rw [cleanL_cons] at hcl
      have HCL := Lib.hid hcl
      have HX := Lib.hid X
      have HD := Lib.hid d
      clear hcl hdr X d hA3
      by_cases hst1 : staysN tn k = true
      · have hcl := HCL.out
        rw [if_pos hst1] at hcl
        have R : Hid (ClR B i p tn n col w2 N s (.int .i64 ((j + 1 : Nat) : Int)) wr) := Lib.hid ⟨⟨j + 1, c, s3, by rfl, by omega, HX.out, HD.out, by omega, hcl⟩⟩
        clear hcl HCL
        by_cases hp : hasPre k = true
        · by_cases hk : k = ckNow
          · subst hk
            unfold ckNow at *
            go_wp2_with fail
            refine (pre_any _ _).mono ?_
            rw [hp]
            rintro e w' ⟨rfl, rfl⟩
            go_wp2_with fail
            go_roundw
            case rel => exact R.out
            case measure => simp [intOf]; omega
          · obtain ⟨q1, q2⟩ := now_ne hk
            unfold staysN at hst1
            rw [hp, decide_eq_false hk] at hst1
            have hst2 : 0 < tn ∧ k = areaN tn := by simpa using hst1
            obtain ⟨t0, rfl⟩ := hst2
            clear hst1
            go_wp2_with fail
            refine (pre_any _ _).mono ?_
            rw [hp]
            rintro e w' ⟨rfl, rfl⟩
            go_wp2_with fail
            refine (area_any tn _).mono ?_
            rintro e w' ⟨rfl, rfl⟩
            go_wp2_with fail
            go_roundw
            case rel => exact R.out
            case measure => simp [intOf]; omega
        · have hp : hasPre k = false := by simpa using hp
          go_wp2_with fail
          refine (pre_any _ _).mono ?_
          rw [hp]
          rintro e w' ⟨rfl, rfl⟩
          go_wp2_with fail
          go_roundw
          case rel => exact R.out
          case measure => simp [intOf]; omega
      · have hcl := HCL.out
        rw [if_neg hst1] at hcl
        clear HCL
        have hd := drop_dk B c i p s3 k wr HD.out HX.out.cols (by omega) (by omega)
        have hs4 := dropF_steps s3 k
        generalize dropF s3 k = r at *
        obtain ⟨s4, e4⟩ := r
        simp only [] at hcl hd hs4
        have HCM := Lib.hid hcl
        unfold staysN at hst1
        have hst2 : hasPre k = true ∧ ¬ k = ckNow ∧ ¬ (0 < tn ∧ k = areaN tn) := by
          simp only [Bool.or_eq_true, Bool.not_eq_true', Bool.and_eq_true, decide_eq_true_eq, not_or] at hst1
          exact ⟨by simpa using hst1.1.1, hst1.1.2, hst1.2⟩
        obtain ⟨hp, hk, ha⟩ := hst2
        obtain ⟨q1, q2⟩ := now_ne hk
        clear hst1 hcl hk
        have h12 : tn = 0 ∨ (0 < tn ∧ ¬ k = areaN tn) := by
          by_cases h0 : 0 < tn
          · exact Or.inr ⟨h0, fun e => ha ⟨h0, e⟩⟩
          · exact Or.inl (by omega)
        clear ha
        have HX := HX
        rcases h12 with h0 | ⟨t0, hka⟩
        · have h00 : ¬ 0 < tn := by omega
          clear h0
          go_wp2_with fail
          refine (pre_any _ _).mono ?_
          rw [hp]
          rintro e w' ⟨rfl, rfl⟩
          go_wp2_with fail
          refine hd.mono ?_
          rintro e w4 ⟨rfl, c4, x4, d4⟩
          have HX4 := Lib.hid (HX.out.trans x4)
          clear hd x4 HX
          by_cases h4 : e4 = 0
          · subst h4
            have hcl := HCM.out
            rw [if_neg (by simp)] at hcl
            have R : Hid (ClR B i p tn n col w2 N s (.int .i64 ((j + 1 : Nat) : Int)) w4) := Lib.hid ⟨⟨j + 1, c4, s4, by rfl, by omega, HX4.out, d4, by omega, hcl⟩⟩
            clear hcl HCM HX4
            rw [Int.natCast_zero]
            go_wp2_with fail
            go_roundw
            case rel => exact R.out
            case measure => simp [intOf]; omega
          · have n4 : ((e4 : Int) != 0) = true := by simpa using h4
            have hcl := HCM.out
            rw [if_pos h4] at hcl
            have HR3 := HRA.out
            rw [hcl] at HR3
            subst HR3
            have HXF := Lib.hid (HX2.out.trans HX4.out)
            clear hcl HX4
            go_wp2_with fail
            go_ret
            exact ⟨⟨c4, rfl, HXF.out, d4⟩⟩
        · obtain ⟨p1, p2, p3, p4⟩ := ba_ne hka
          go_wp2_with fail
          refine (pre_any _ _).mono ?_
          rw [hp]
          rintro e w' ⟨rfl, rfl⟩
          go_wp2_with fail
          refine (area_any tn _).mono ?_
          rintro e w' ⟨rfl, rfl⟩
          go_wp2_with fail
          refine hd.mono ?_
          rintro e w4 ⟨rfl, c4, x4, d4⟩
          have HX4 := Lib.hid (HX.out.trans x4)
          clear hd x4 HX
          by_cases h4 : e4 = 0
          · subst h4
            have hcl := HCM.out
            rw [if_neg (by simp)] at hcl
            have R : Hid (ClR B i p tn n col w2 N s (.int .i64 ((j + 1 : Nat) : Int)) w4) := Lib.hid ⟨⟨j + 1, c4, s4, by rfl, by omega, HX4.out, d4, by omega, hcl⟩⟩
            clear hcl HCM HX4
            rw [Int.natCast_zero]
            go_wp2_with fail
            go_roundw
            case rel => exact R.out
            case measure => simp [intOf]; omega
          · have n4 : ((e4 : Int) != 0) = true := by simpa using h4
            have hcl := HCM.out
            rw [if_pos h4] at hcl
            have HR3 := HRA.out
            rw [hcl] at HR3
            subst HR3
            have HXF := Lib.hid (HX2.out.trans HX4.out)
            clear hcl HX4
            go_wp2_with fail
            go_ret
            exact ⟨⟨c4, rfl, HXF.out, d4⟩⟩
    · have hcl2 := hcl
      rw [List.drop_of_length_le (by rw [hn.out]; omega)] at hcl2
      rw [cleanL_nil] at hcl2
      have HR3 := HRA.out
      rw [hcl2] at HR3
      subst HR3
      have HX := Lib.hid (HX2.out.trans X)
      clear hcl hcl2 X
      go_wp2_with fail
      go_ret
      exact ⟨⟨c, rfl, HX.out, d⟩⟩

end Go.Proofs.Ytigdhdclfdojgaa
