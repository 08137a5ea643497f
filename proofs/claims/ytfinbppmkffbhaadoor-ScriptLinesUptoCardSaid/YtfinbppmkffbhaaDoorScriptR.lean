/-
  WALKS of the document: Right of an operation, Least, Words.
-/
import Derived.Test.YtfinbppmkffbhaaDoorScriptE
import Derived.Test.YtfinbppmkffbhaaDoorDigits
import Derived.Sort.Grow
namespace Go.Proofs.YtfinbppmkffbhaaDoor
open Go.RowKit Go.Sort

theorem arr8 (a b c d e f g h : Value) (k : Nat) (hk : k < 8) (W : World) (B : Nat) (T : TypeId) (fr : Nat × Nat) (hh : W.heap[B]? = some (.cells #[a, b, c, d, e, f, g, h] T fr)) :
    W.cell? ⟨B, 0 + k, none⟩ = some ([a, b, c, d, e, f, g, h][k]'hk) := by
  rw [cell_of_row W B (0 + k) _ T fr hh]
  simp [hk]
set_option maxHeartbeats 8000000 in
set_option maxRecDepth 100000 in
theorem refRight_op (o : OpV) (w : World) : Calls Tryd.prog 23 #[opV o] w fun e w' => e = .returned (.bool (okOp o)) ∧ Kp Noone w w' := by
  obtain ⟨k, r, t, n, m⟩ := o
  obtain ⟨RES, hRES⟩ : ∃ R, okOp ⟨k, r, t, n, m⟩ = R := ⟨_, rfl⟩
  rw [hRES]
  rw [okB_eq] at hRES
  have HRES := Lib.hid hRES
  clear hRES
  unfold opV
  simp only []
  have K1 : Kp Noone w (w.alloc (.cells #[.int .i64 k, .int .i64 r, .int .i64 t, .int .i64 n, .int .i64 m] 24)) := (Kp.refl _ _).alloc _
  have hb1 := heap_alloc_new w (.cells #[.int .i64 k, .int .i64 r, .int .i64 t, .int .i64 n, .int .i64 m] 24)
  have HK := Lib.hid K1
  clear K1
  go_enter Tryd.func23, Tryd.ntmps23
  go_upto_region 1 with fail
  obtain ⟨z0, z1, z2, z3, z4⟩ := cells_5 hb1
  generalize w.alloc (.cells #[.int .i64 k, .int .i64 r, .int .i64 t, .int .i64 n, .int .i64 m] 24) = wB at *
  generalize w.heap.size = g at *
  by_cases h1 : k < 1
  · have HR : Hid (RES = false) := Lib.hid (by
      rw [← HRES.out]
      unfold okB
      rw [if_neg (by omega), if_neg (by omega), if_neg (by omega), if_neg (by omega), if_neg (by omega)])
    go_wp2_with fail
    go_ret
    exact ⟨ret_eq (by rw [HR.out]; rfl), HK.out⟩
  by_cases h7 : 7 < k
  · have HR : Hid (RES = false) := Lib.hid (by
      rw [← HRES.out]
      unfold okB
      rw [if_neg (by omega), if_neg (by omega), if_neg (by omega), if_neg (by omega), if_neg (by omega)])
    go_wp2_with fail
    go_ret
    exact ⟨ret_eq (by rw [HR.out]; rfl), HK.out⟩
  by_cases hr0 : r < 0
  · have HR : Hid (RES = false) := Lib.hid (by
      rw [← HRES.out, decide_eq_false (p := 0 ≤ r ∧ r ≤ 7) (by omega)]
      unfold okB
      simp)
    go_wp2_with fail
    go_ret
    exact ⟨ret_eq (by rw [HR.out]; rfl), HK.out⟩
  by_cases hr7 : 7 < r
  · have HR : Hid (RES = false) := Lib.hid (by
      rw [← HRES.out, decide_eq_false (p := 0 ≤ r ∧ r ≤ 7) (by omega)]
      unfold okB
      simp)
    go_wp2_with fail
    go_ret
    exact ⟨ret_eq (by rw [HR.out]; rfl), HK.out⟩
  by_cases ht0 : t < 0
  · have HR : Hid (RES = false) := Lib.hid (by
      rw [← HRES.out]
      unfold okB
      rw [decide_eq_false (p := t = 0) (by omega), decide_eq_false (p := 0 ≤ t ∧ t ≤ 3) (by omega), decide_eq_false (p := 0 ≤ t ∧ t ≤ 7) (by omega)]
      simp)
    go_wp2_with fail
    go_ret
    exact ⟨ret_eq (by rw [HR.out]; rfl), HK.out⟩
  have hm : ∃ mt : Int, (mt = if k = 5 then 3 else if k = 6 ∨ k = 7 then 7 else 0) := ⟨_, rfl⟩
  obtain ⟨mt, hmt⟩ := hm
  have HMT := Lib.hid hmt
  have hmt1 : 0 ≤ mt ∧ mt ≤ 7 := by rw [hmt]; split; decide; split <;> decide
  clear hmt
  obtain ⟨kn, rfl⟩ := Int.eq_ofNat_of_zero_le (show 0 ≤ k by omega)
  have hk8 : kn < 8 := by omega
  have HB2 := Lib.hid (fun (W : World) (B : Nat) (hh : W.heap[B]? = some (.cells #[.int .i64 0, .int .i64 0, .int .i64 0, .int .i64 0, .int .i64 0, .int .i64 3, .int .i64 7, .int .i64 7] 3 (0, 0))) => by
    have h := arr8 _ _ _ _ _ _ _ _ kn hk8 W B _ _ hh
    have h2 : [Value.int .i64 0, .int .i64 0, .int .i64 0, .int .i64 0, .int .i64 0, .int .i64 3, .int .i64 7, .int .i64 7][kn]'hk8 = .int .i64 mt := by
      rw [HMT.out]
      rcases (by omega : kn = 0 ∨ kn = 1 ∨ kn = 2 ∨ kn = 3 ∨ kn = 4 ∨ kn = 5 ∨ kn = 6 ∨ kn = 7) with rfl | rfl | rfl | rfl | rfl | rfl | rfl | rfl <;> rfl
    rw [h2] at h
    exact h)
  have hb3 := heap_alloc_new wB (.cells #[.int .i64 0, .int .i64 0, .int .i64 0, .int .i64 0, .int .i64 0, .int .i64 3, .int .i64 7, .int .i64 7] 3)
  have hc3 := HB2.out _ _ hb3
  rw [Nat.zero_add] at hc3
  have kB : Kp Noone wB (wB.alloc (.cells #[.int .i64 0, .int .i64 0, .int .i64 0, .int .i64 0, .int .i64 0, .int .i64 3, .int .i64 7, .int .i64 7] 3)) := (Kp.refl _ _).alloc _
  obtain ⟨z0, z1, z2, z3, z4⟩ := cells_5 (kB.heap hb1 id)
  have HK2 := Lib.hid (HK.out.trans kB)
  clear HB2 hb3 kB hb1
  go_upto_region 4 with fail
  generalize wB.alloc (.cells #[.int .i64 0, .int .i64 0, .int .i64 0, .int .i64 0, .int .i64 0, .int .i64 3, .int .i64 7, .int .i64 7] 3) = wC at *
  have h8z : (kn : Int) < 8 := by omega
  have hrr := fun W => refRight_any n m W
  by_cases htm : mt < t
  · have HR : Hid (RES = false) := Lib.hid (by
      have e := HMT.out
      rw [← HRES.out]
      unfold okB
      split at e
      · rw [if_neg (by omega), if_neg (by omega), if_pos (by assumption), decide_eq_false (p := 0 ≤ t ∧ t ≤ 3) (by omega)]
        simp
      · split at e
        · rw [if_neg (by omega), if_neg (by omega), if_neg (by omega), decide_eq_false (p := 0 ≤ t ∧ t ≤ 7) (by omega)]
          simp
        · rw [decide_eq_false (p := t = 0) (by omega), if_neg (c := (kn : Int) = 5) (by omega), if_neg (c := (kn : Int) = 6) (by omega), if_neg (c := (kn : Int) = 7) (by omega)]
          simp)
    go_quiet (fail)
    go_wp2_with fail
    go_ret
    exact ⟨ret_eq (by rw [HR.out]; rfl), HK2.out.drewN _⟩
  have htz : ¬ mt < t := htm
  cases hb3 : rB n m
  · have HR : Hid (RES = false) := Lib.hid (by
      have hnm : ¬ (n = 0 ∧ m = 0) := fun c => by rw [c.1, c.2] at hb3; exact absurd hb3 (by decide)
      rw [← HRES.out, hb3, decide_eq_false hnm]
      unfold okB
      simp)
    rw [hb3] at hrr
    have HB3 := Lib.hid hb3
    clear hb3
    go_quiet ((go_at_call 37; exact Calls.quiet_of_same ((hrr _).mono (fun e w' h => ⟨h.1, h.2.symm⟩))))
    go_wp2_with fail
    go_ret
    exact ⟨ret_eq (by rw [HR.out]; rfl), HK2.out.drewN _⟩
  · have HRS : Hid (RES = if kn = 2 ∨ kn = 3 ∨ kn = 4 ∨ kn = 7 then true else decide (n = 0 ∧ m = 0)) := Lib.hid (by
      have e := HMT.out
      rw [← HRES.out, hb3, decide_eq_true (p := 0 ≤ r ∧ r ≤ 7) (by omega)]
      unfold okB
      rcases (by omega : kn = 1 ∨ kn = 2 ∨ kn = 3 ∨ kn = 4 ∨ kn = 5 ∨ kn = 6 ∨ kn = 7) with rfl | rfl | rfl | rfl | rfl | rfl | rfl
      all_goals simp at e ⊢
      all_goals (try omega))
    rw [hb3] at hrr
    have HB3 := Lib.hid hb3
    clear hb3
    go_quiet ((go_at_call 37; exact Calls.quiet_of_same ((hrr _).mono (fun e w' h => ⟨h.1, h.2.symm⟩))))
    by_cases hnum : kn = 2 ∨ kn = 3 ∨ kn = 4 ∨ kn = 7
    · have HR : Hid (RES = true) := Lib.hid (by rw [HRS.out, if_pos hnum])
      rcases hnum with rfl | rfl | rfl | rfl
      all_goals (
        go_wp2_with fail
        go_ret
        exact ⟨ret_eq (by rw [HR.out]; rfl), HK2.out.drewN _⟩)
    · have HR : Hid (RES = decide (n = 0 ∧ m = 0)) := Lib.hid (by rw [HRS.out, if_neg hnum])
      have hk3 : kn = 1 ∨ kn = 5 ∨ kn = 6 := by omega
      clear hnum HRS
      by_cases hn : n = 0
      · by_cases hm : m = 0
        · have HT : Hid (RES = true) := Lib.hid (by rw [HR.out]; simp [hn, hm])
          rcases hk3 with rfl | rfl | rfl
          all_goals (
            go_wp2_with fail
            go_ret
            exact ⟨ret_eq (by rw [HT.out]; rfl), HK2.out.drewN _⟩)
        · have HT : Hid (RES = false) := Lib.hid (by rw [HR.out]; simp [hm])
          have HM2 : Hid ((m == 0) = false) := Lib.hid (beq_eq_false_iff_ne.2 hm)
          rcases hk3 with rfl | rfl | rfl
          all_goals (
            go_wp2_with fail
            go_ret
            exact ⟨ret_eq (by rw [HT.out]; exact congrArg Value.bool HM2.out), HK2.out.drewN _⟩)
      · have HT : Hid (RES = false) := Lib.hid (by rw [HR.out]; simp [hn])
        rcases hk3 with rfl | rfl | rfl
        all_goals (
          go_wp2_with fail
          go_ret
          exact ⟨ret_eq (by rw [HT.out]; rfl), HK2.out.drewN _⟩)

end Go.Proofs.YtfinbppmkffbhaaDoor
