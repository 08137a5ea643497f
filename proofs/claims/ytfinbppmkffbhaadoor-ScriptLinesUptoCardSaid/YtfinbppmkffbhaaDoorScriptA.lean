/-
  WALKS: the small functions of script: bounds, opWord, takes, within, Check, number.
-/
import Derived.Test.YtfinbppmkffbhaaDoorGaussReadF
import Derived.Test.YtfinbppmkffbhaaDoorLinePlain
import Derived.Test.YtfinbppmkffbhaaDoorGaussTurn
import Derived.Deep.Cut
import Derived.Deep.CutBlock
import Derived.Deep.CutRange
namespace Go.Proofs.YtfinbppmkffbhaaDoor
open Go.RowKit Go.Sort

def opV (o : OpV) : Value := .agg #[.int .i64 o.kind, .int .i64 o.reg, .int .i64 o.to, .int .i64 o.re, .int .i64 o.im]
def strV (l : List UInt8) : Value := .string ⟨l.toArray⟩

theorem within_any (x lo hi : Int) (w : World) : Calls Tryd.prog 38 #[.int .i64 x, .int .i64 lo, .int .i64 hi] w fun e w' => e = .returned (.bool (decide (lo ≤ x ∧ x ≤ hi))) ∧ w' = w := by
  by_cases h1 : lo ≤ x
  · by_cases h2 : x ≤ hi
    · go_enter Tryd.func38, Tryd.ntmps38
      go_wp2_with fail
      go_ret
      exact ⟨ret_eq (by simp [h1, h2]), rfl⟩
    · go_enter Tryd.func38, Tryd.ntmps38
      go_wp2_with fail
      go_ret
      exact ⟨ret_eq (by simp [h2]), rfl⟩
  · go_enter Tryd.func38, Tryd.ntmps38
    go_wp2_with fail
    go_ret
    exact ⟨ret_eq (by rw [decide_eq_false (p := lo ≤ x) (by omega)]; rfl), rfl⟩
theorem takes_any (k : Int) (w : World) : Calls Tryd.prog 26 #[.int .i64 k] w fun e w' => e = .returned (.tuple #[.int .i64 (numsOf k), .bool (zedF k)]) ∧ w' = w := by
  by_cases h1 : k = 1
  · subst h1
    go_enter Tryd.func26, Tryd.ntmps26
    go_wp2_with fail
    go_ret2
    exact ⟨ret_eq (by simp [numsOf, twoF, zedF]), rfl⟩
  by_cases h5 : k = 5
  · subst h5
    go_enter Tryd.func26, Tryd.ntmps26
    go_wp2_with fail
    go_ret2
    exact ⟨ret_eq (by simp [numsOf, twoF, zedF]), rfl⟩
  by_cases h6 : k = 6
  · subst h6
    go_enter Tryd.func26, Tryd.ntmps26
    go_wp2_with fail
    go_ret2
    exact ⟨ret_eq (by simp [numsOf, twoF, zedF]), rfl⟩
  by_cases h7 : k = 7
  · subst h7
    go_enter Tryd.func26, Tryd.ntmps26
    go_wp2_with fail
    go_ret2
    exact ⟨ret_eq (by simp [numsOf, twoF, zedF]), rfl⟩
  · go_enter Tryd.func26, Tryd.ntmps26
    go_wp2_with fail
    go_ret2
    exact ⟨ret_eq (by simp [numsOf, twoF, zedF, h1, h5, h6, h7]), rfl⟩
theorem run_index_words (i : Nat) (hi : i < 8) (cs : Array Value) (hc : cs.size = 8) (W : World) :
    (Instr.index 80 (.agg cs) (.int .i64 (i : Int))).run Tryd.prog W = .ok (cs[i]'(by omega)) W := by
  have h1 : (0 : Int) ≤ (i : Int) ∧ (i : Int) < 8 := by omega
  simp only [Instr.index, asIntOf, Sem.run_bind, Sem.run_pure, Result.andThen_ok, run_underlying Tryd.underlying80, part]
  simp [h1, hc, hi]
theorem opWord_any (k : Int) (h0 : 0 ≤ k) (h7 : k ≤ 7) (w : World) : Calls Tryd.prog 27 #[.int .i64 k] w fun e w' => e = .returned (strV (wordOf k)) ∧ w' = w := by
  obtain ⟨i, rfl⟩ := Int.eq_ofNat_of_zero_le h0
  have hi : i < 8 := by omega
  have hx := run_index_words i hi #[Value.string { data := #[] }, Value.string { data := #[103, 101, 116] }, Value.string { data := #[112, 117, 116] }, Value.string { data := #[97, 100, 100] }, Value.string { data := #[109, 117, 108] }, Value.string { data := #[116, 117, 114, 110] }, Value.string { data := #[115, 119, 97, 112] }, Value.string { data := #[116, 97, 107, 101] }] rfl
  generalize hv : (#[Value.string { data := #[] }, Value.string { data := #[103, 101, 116] }, Value.string { data := #[112, 117, 116] }, Value.string { data := #[97, 100, 100] }, Value.string { data := #[109, 117, 108] }, Value.string { data := #[116, 117, 114, 110] }, Value.string { data := #[115, 119, 97, 112] }, Value.string { data := #[116, 97, 107, 101] }] : Array Value)[i]'hi = v at hx
  have HV : Hid (v = strV (wordOf i)) := Lib.hid (by
    rw [← hv]
    rcases (by omega : i = 0 ∨ i = 1 ∨ i = 2 ∨ i = 3 ∨ i = 4 ∨ i = 5 ∨ i = 6 ∨ i = 7) with rfl | rfl | rfl | rfl | rfl | rfl | rfl | rfl <;> rfl)
  clear hv
  go_enter Tryd.func27, Tryd.ntmps27
  go_wp2_with fail
  go_ret
  exact ⟨ret_eq HV.out, rfl⟩
def okB (k : Int) (b1 b2 b3 : Bool) (t : Int) : Bool :=
  if k = 1 then b1 && b2 && decide (t = 0) else if k = 2 ∨ k = 3 ∨ k = 4 then b1 && b3 && decide (t = 0)
  else if k = 5 then b1 && b2 && decide (0 ≤ t ∧ t ≤ 3) else if k = 6 then b1 && b2 && decide (0 ≤ t ∧ t ≤ 7) else if k = 7 then b1 && b3 && decide (0 ≤ t ∧ t ≤ 7) else false
theorem okB_eq (k r t n m : Int) : okOp ⟨k, r, t, n, m⟩ = okB k (decide (0 ≤ r ∧ r ≤ 7)) (decide (n = 0 ∧ m = 0)) (rB n m) t := by
  unfold okOp okB
  simp only []
  rw [Bool.eq_iff_iff]
  generalize rB n m = b3
  by_cases h1 : k = 1
  · subst h1; cases b3 <;> simp [zedF] <;> omega
  by_cases h2 : k = 2
  · subst h2; cases b3 <;> simp [zedF] <;> omega
  by_cases h3 : k = 3
  · subst h3; cases b3 <;> simp [zedF] <;> omega
  by_cases h4 : k = 4
  · subst h4; cases b3 <;> simp [zedF] <;> omega
  by_cases h5 : k = 5
  · subst h5; cases b3 <;> simp [zedF] <;> omega
  by_cases h6 : k = 6
  · subst h6; cases b3 <;> simp [zedF] <;> omega
  by_cases h7 : k = 7
  · subst h7; cases b3 <;> simp [zedF] <;> omega
  · simp only [h1, h2, h3, h4, h5, h6, h7]
    simp
    omega

theorem cells_5 {w : World} {g : Nat} {a b c d e : Value} {T : TypeId} {fr : Nat × Nat} (h : w.heap[g]? = some (.cells #[a, b, c, d, e] T fr)) :
    w.cell? ⟨g, 0, none⟩ = some a ∧ w.cell? ⟨g, 1, none⟩ = some b ∧ w.cell? ⟨g, 2, none⟩ = some c ∧ w.cell? ⟨g, 3, none⟩ = some d ∧ w.cell? ⟨g, 4, none⟩ = some e :=
  ⟨cell_of_row w g 0 _ T fr h, cell_of_row w g 1 _ T fr h, cell_of_row w g 2 _ T fr h, cell_of_row w g 3 _ T fr h, cell_of_row w g 4 _ T fr h⟩
def okC (k : Int) (b1 b2 b3 c3 c7 : Bool) (t : Int) : Bool :=
  if k = 1 then b1 && b2 && decide (t = 0) else if k = 2 ∨ k = 3 ∨ k = 4 then b1 && b3 && decide (t = 0)
  else if k = 5 then b1 && b2 && c3 else if k = 6 then b1 && b2 && c7 else if k = 7 then b1 && b3 && c7 else false
set_option maxHeartbeats 8000000 in
set_option maxRecDepth 100000 in
theorem check_any (o : OpV) (w : World) : Calls Tryd.prog 25 #[opV o] w fun e w' => e = .returned (.int .i64 (if okOp o = true then 0 else 22)) ∧ Kp Noone w w' := by
  obtain ⟨k, r, t, n, m⟩ := o
  rw [okB_eq]
  unfold opV
  simp only []
  have K1 : Kp Noone w (w.alloc (.cells #[.int .i64 k, .int .i64 r, .int .i64 t, .int .i64 n, .int .i64 m] 24)) := (Kp.refl _ _).alloc _
  have HK := Lib.hid K1
  clear K1
  have hw1 := fun W => within_any r 0 7 W
  have hw3 := fun W => within_any t 0 3 W
  have hw7 := fun W => within_any t 0 7 W
  have e1 : okB k (decide (0 ≤ r ∧ r ≤ 7)) (decide (n = 0 ∧ m = 0)) (rB n m) t = okC k (decide (0 ≤ r ∧ r ≤ 7)) (decide (n = 0 ∧ m = 0)) (rB n m) (decide (0 ≤ t ∧ t ≤ 3)) (decide (0 ≤ t ∧ t ≤ 7)) t := rfl
  rw [e1]
  clear e1
  obtain ⟨b2, hb2⟩ : ∃ b, Hid (decide (n = 0 ∧ m = 0) = b) := ⟨_, Lib.hid rfl⟩
  rw [hb2.out]
  generalize decide (0 ≤ r ∧ r ≤ 7) = b1 at *
  generalize decide (0 ≤ t ∧ t ≤ 3) = c3 at *
  generalize decide (0 ≤ t ∧ t ≤ 7) = c7 at *
  have hof := fun W => of_any n m W
  unfold ofT at hof
  generalize rB n m = b3 at *
  simp only [Bool.true_and] at hof
  obtain ⟨R, hR⟩ : ∃ R, okC k b1 b2 b3 c3 c7 t = R := ⟨_, rfl⟩
  rw [hR]
  have HR := Lib.hid hR
  clear hR
  go_enter Tryd.func25, Tryd.ntmps25
  go_upto_region 2 with (go_at_call 38; refine (hw1 _).mono ?_; rintro e w' ⟨rfl, hw⟩; rw [hw]; clear hw)
  obtain ⟨z0, z1, z2, z3, z4⟩ := cells_5 (heap_alloc_new w (.cells #[.int .i64 k, .int .i64 r, .int .i64 t, .int .i64 n, .int .i64 m] 24))
  generalize w.alloc (.cells #[.int .i64 k, .int .i64 r, .int .i64 t, .int .i64 n, .int .i64 m] 24) = wB at *
  go_cut [4] from 7 (fun v wx => v = .bool b2 ∧ wx = wB)
  case first =>
    by_cases hn : n = 0
    · by_cases hm : m = 0
      · go_wp2_with fail
        go_meet
        case rel => exact ⟨by rw [← hb2.out]; simp [hn, hm], rfl⟩
      · go_wp2_with fail
        go_meet
        case rel => exact ⟨by rw [← hb2.out]; simp [hm], rfl⟩
    · go_wp2_with fail
      go_meet
      case rel => exact ⟨by rw [← hb2.out]; simp [hn], rfl⟩
  obtain ⟨rfl, rfl⟩ := hcut
  clear hb2
  cases b3
  all_goals (
    try simp only [Bool.false_eq_true, if_false, if_true] at hof
    go_upto_block 0 with (go_at_call 28; refine (hof _).mono ?_; rintro e w' ⟨rfl, hw⟩; rw [← hw]; clear hw))
  all_goals (
    rename_i wD
    go_cut [0, 3] from 28 (fun _ v wx => v = .bool R ∧ Kp Noone w wx)
    case rest =>
      obtain ⟨rfl, hk2⟩ := hcut
      cases R
      · go_wp2_with fail
        go_ret
        exact ⟨rfl, hk2⟩
      · go_wp2_with fail
        go_ret
        exact ⟨rfl, hk2⟩
    case first =>
      have hk : k = 1 ∨ k = 2 ∨ k = 3 ∨ k = 4 ∨ k = 5 ∨ k = 6 ∨ k = 7 ∨ (k ≠ 1 ∧ k ≠ 2 ∧ k ≠ 3 ∧ k ≠ 4 ∧ k ≠ 5 ∧ k ≠ 6 ∧ k ≠ 7) := by omega
      rcases hk with rfl | rfl | rfl | rfl | rfl | rfl | rfl | ⟨k1, k2, k3, k4, k5, k6, k7⟩
      iterate 4 (focus (
        clear hw1 hw3 hw7
        cases b1 <;> cases b2
        all_goals (
          by_cases ht : t = 0
          all_goals (
            have HT := Lib.hid ht
            go_wp2_with fail
            go_meet
            case rel => exact ⟨by rw [← HR.out]; simp [okC, HT.out], HK.out⟩))))
      · clear hw1 hw7
        cases b1 <;> cases b2
        all_goals (
          go_wp2_with (go_at_call 38; refine (hw3 _).mono ?_; rintro e w' ⟨rfl, hw⟩; rw [hw]; clear hw)
          go_meet
          case rel => exact ⟨by rw [← HR.out]; simp [okC], HK.out⟩)
      · clear hw1 hw3
        cases b1 <;> cases b2
        all_goals (
          go_wp2_with (go_at_call 38; refine (hw7 _).mono ?_; rintro e w' ⟨rfl, hw⟩; rw [hw]; clear hw)
          go_meet
          case rel => exact ⟨by rw [← HR.out]; simp [okC], HK.out⟩)
      · clear hw1 hw3
        cases b1 <;> cases b2
        all_goals (
          go_wp2_with (go_at_call 38; refine (hw7 _).mono ?_; rintro e w' ⟨rfl, hw⟩; rw [hw]; clear hw)
          go_meet
          case rel => exact ⟨by rw [← HR.out]; simp [okC], HK.out⟩)
      · clear hw1 hw3 hw7
        have HN : Hid (∀ b3, okC k b1 b2 b3 c3 c7 t = false) := Lib.hid (fun b3 => by simp [okC, k1, k2, k3, k4, k5, k6, k7])
        go_wp2_with fail
        go_meet
        case rel => exact ⟨by rw [← HR.out, HN.out], HK.out⟩)

end Go.Proofs.YtfinbppmkffbhaaDoor
