/-
  THE WALKS of the two Open: what each answers, for every byte slice.
-/
import Derived.Test.YtgbfbhkpjmgipaaSeal
namespace Go.Proofs.Ytgbfbhkpjmgipaa
open Go.RowKit

/-- Is it sealed? -/
def okSeal (l : List UInt8) : Bool := decide (8 ≤ l.length) && (eightL (sumN (l.take (l.length - 8))) == l.drop (l.length - 8))
def openL (l : List UInt8) : List UInt8 := if okSeal l then l.take (l.length - 8) else []
def openE (l : List UInt8) : Int := if okSeal l then 0 else if l.length < 8 then 10 else 14

theorem openL_length (l : List UInt8) : (openL l).length ≤ l.length := by unfold openL; split <;> simp <;> omega

def OpenPost (l : List UInt8) (w : World) (e : Ending) (w' : World) : Prop :=
  ∃ bo m c, e = .returned (.tuple #[.slice bo m c, .int .i64 (openE l)]) ∧ Own (Ex Noone w w') w' 5 1 bo m c (bv (openL l)) ∧ Kp Noone w w'

theorem open_nil (l : List UInt8) (w w' : World) (hk : Kp Noone w w') (h : okSeal l = false) (e : Ending) (he : e = .returned (.tuple #[.slice none 0 0, .int .i64 (openE l)])) : OpenPost l w e w' := by
  refine ⟨none, 0, 0, he, ?_, hk⟩
  rw [openL, h]
  exact Own.nil _ _ _ _ _

theorem okSeal_iff {l : List UInt8} {m : Nat} (hl : l.length = m + 8) : okSeal l = (eightL (sumN (l.take m)) == l.drop m) := by
  unfold okSeal
  rw [show l.length - 8 = m from by omega]
  simp [hl]

theorem seal_iff {l : List UInt8} {m : Nat} (hl : l.length = m + 8) : (l.take m ++ eightL (sumN (l.take m)) == l) = okSeal l := by
  rw [okSeal_iff hl]
  rw [Bool.eq_iff_iff, beq_iff_eq, beq_iff_eq]
  constructor
  · intro h
    have h2 := congrArg (List.drop m) h
    rw [List.drop_append_of_le_length (by rw [List.length_take]; omega), List.drop_eq_nil_of_le (by rw [List.length_take]; omega)] at h2
    simpa using h2
  · intro h
    rw [h, List.take_append_drop]

/-- What is cut in front. -/
theorem BS.take {w : World} {ao : Option Addr} {n cap : Nat} {l : List UInt8} (h : BS w ao n cap l) {m : Nat} (hm : m ≤ n) : BS w ao m cap (l.take m) := by
  refine ⟨by rw [List.length_take, h.len]; omega, by have := h.le; omega, h.max, ?_⟩
  rcases h.row with hr | ⟨b, off, rfl, hr⟩
  · left
    have : l = [] := by simpa [bv] using hr
    simp [this, bv]
  · refine Or.inr ⟨b, off, rfl, fun i hi => ?_⟩
    have hi' : i < (bv l).length := by simp [bv] at hi ⊢; omega
    rw [hr i hi']
    simp [bv]

set_option maxHeartbeats 400000 in
theorem refOpen_any (ao : Option Addr) (n cap : Nat) (l : List UInt8) (w : World) (hb : BS w ao n cap l) (hn : n ≤ 140737488353000) :
    Calls Try.prog 24 #[.slice ao n cap] w (OpenPost l w) := by
  have HL := Lib.hid hb.len
  by_cases h8 : n < 8
  · go_enter Try.func24, Try.ntmps24
    go_wp2
    go_ret2
    have h : okSeal l = false := by unfold okSeal; simp; intro; rw [HL.out] at *; omega
    exact open_nil l w _ (Kp.refl _ _) h _ (by rw [openE, h, HL.out, if_neg (by simp), if_pos h8]; rfl)
  · obtain ⟨m, rfl⟩ : ∃ m, n = m + 8 := ⟨n - 8, by omega⟩
    have hbt := hb.take (m := m) (by omega)
    have HO := Lib.hid (seal_iff HL.out)
    have hle := hb.le
    go_enter Try.func24, Try.ntmps24
    go_wp2_with fail
    refine (copy_exact _ _ _ _ _ hbt (by omega)).mono ?_
    rintro e w1 ⟨rfl, hw1⟩
    have hk : Kp Noone w w1 := by rw [hw1]; exact (Kp.refl _ _).alloc _
    have hown : Own (Ex Noone w w1) w1 5 1 (some ⟨w.heap.size, 0, none⟩) m m (bv (l.take m)) :=
      Own.fresh (Or.inr ⟨Nat.le_refl _, by rw [hw1]; simp⟩) (by rw [hw1]; exact heap_alloc_new w _) (by simp [bv]; rw [HL.out]; omega) (by unfold maxLen; omega)
    clear hw1
    go_wp2_with fail
    refine (refSeal_any _ _ _ _ _ hown.bs (by omega)).mono ?_
    rintro e w2 ⟨bo, c, rfl, ho2, hk2⟩
    go_wp2_with fail
    refine (same_any _ _ _ _ _ _ _ _ _ ho2.bs (hb.keep (hk.trans hk2)) (by omega)).mono ?_
    rintro e w3 ⟨rfl, q, rfl⟩
    rw [HO.out]
    cases hok : okSeal l with
    | false =>
      have HK := Lib.hid hok
      clear hok
      go_wp2
      go_ret2
      exact open_nil l w _ ((hk.trans hk2).drewN _) HK.out _ (by rw [openE, HK.out, HL.out]; rfl)
    | true =>
      have HK := Lib.hid hok
      clear hok
      go_wp2
      go_ret2
      have s1 := hk2.size
      refine ⟨_, m, m, by rw [openE, HK.out]; rfl, ?_, (hk.trans hk2).drewN _⟩
      rw [openL, HK.out, HL.out]
      have := (hown.keep (hk2.drewN q))
      refine (show Own _ _ _ _ _ _ _ (bv (l.take (m + 8 - 8))) from this).mono (fun j hj h => ?_)
      exact Or.inr ⟨h.none.1, hj⟩

theorem eight_of {l : List UInt8} (h : l.length = 8) : ∃ x0 x1 x2 x3 x4 x5 x6 x7 : UInt8, l = [x0, x1, x2, x3, x4, x5, x6, x7] := by
  match l, h with
  | [x0, x1, x2, x3, x4, x5, x6, x7], _ => exact ⟨x0, x1, x2, x3, x4, x5, x6, x7, rfl⟩

theorem eight_cells {w : World} {b off m cap : Nat} {l : List UInt8} {y0 y1 y2 y3 y4 y5 y6 y7 : UInt8} (hb : BS w (some ⟨b, off, none⟩) (m + 8) cap l) (hy : l.drop m = [y0, y1, y2, y3, y4, y5, y6, y7]) :
    w.cell? ⟨b, off + m, none⟩ = some (.int .u8 (y0.toNat : Int)) ∧ w.cell? ⟨b, off + m + 1, none⟩ = some (.int .u8 (y1.toNat : Int)) ∧ w.cell? ⟨b, off + m + 2, none⟩ = some (.int .u8 (y2.toNat : Int)) ∧ w.cell? ⟨b, off + m + 3, none⟩ = some (.int .u8 (y3.toNat : Int)) ∧
    w.cell? ⟨b, off + m + 4, none⟩ = some (.int .u8 (y4.toNat : Int)) ∧ w.cell? ⟨b, off + m + 5, none⟩ = some (.int .u8 (y5.toNat : Int)) ∧ w.cell? ⟨b, off + m + 6, none⟩ = some (.int .u8 (y6.toNat : Int)) ∧ w.cell? ⟨b, off + m + 7, none⟩ = some (.int .u8 (y7.toNat : Int)) := by
  have key : ∀ j (hj : j < 8), w.cell? ⟨b, off + (m + j), none⟩ = some (U8 ([y0, y1, y2, y3, y4, y5, y6, y7][j]'(by simpa using hj))) := by
    intro j hj
    obtain ⟨b', off', hl, he, _, hc⟩ := hb.at (k := m + j) (by omega)
    simp only [Option.some.injEq, Addr.mk.injEq] at he
    obtain ⟨rfl, rfl, _⟩ := he
    rw [hc]
    have h1 : l[m + j]? = [y0, y1, y2, y3, y4, y5, y6, y7][j]? := by rw [← hy, List.getElem?_drop]
    rw [List.getElem?_eq_getElem hl, List.getElem?_eq_getElem (by simpa using hj)] at h1
    rw [Option.some.inj h1]
    rfl
  refine ⟨key 0 (by omega), key 1 (by omega), key 2 (by omega), key 3 (by omega), key 4 (by omega), key 5 (by omega), key 6 (by omega), key 7 (by omega)⟩

theorem run_arrayAt8 (W : World) (a : Option Addr) (c : Nat) : (Instr.arrayAt 76 (.slice a 8 c)).run Try.prog W = .ok (.pointer a) W := by
  simp [Instr.arrayAt, run_underlying Try.underlying76]

theorem run_equal8 (x0 x1 x2 x3 x4 x5 x6 x7 y0 y1 y2 y3 y4 y5 y6 y7 : UInt8) (W : World) :
    (Op.equalIn 10000 76 (.agg #[.int .u8 (x0.toNat : Int), .int .u8 (x1.toNat : Int), .int .u8 (x2.toNat : Int), .int .u8 (x3.toNat : Int), .int .u8 (x4.toNat : Int), .int .u8 (x5.toNat : Int), .int .u8 (x6.toNat : Int), .int .u8 (x7.toNat : Int)])
      (.agg #[.int .u8 (y0.toNat : Int), .int .u8 (y1.toNat : Int), .int .u8 (y2.toNat : Int), .int .u8 (y3.toNat : Int), .int .u8 (y4.toNat : Int), .int .u8 (y5.toNat : Int), .int .u8 (y6.toNat : Int), .int .u8 (y7.toNat : Int)])).run Try.prog W =
      .ok ([y0, y1, y2, y3, y4, y5, y6, y7] == [x0, x1, x2, x3, x4, x5, x6, x7]) W := by
  obtain ⟨i0, hi, hz0, hz1, hz2⟩ := info_parts info_u8
  have hc : Try.prog.cellsOf 5 = 1 := by simp [Program.cellsOf, hi, hz1]
  have h := run_equalIn_array (P := Try.prog) W 9999 (bv [x0, x1, x2, x3, x4, x5, x6, x7]).toArray (bv [y0, y1, y2, y3, y4, y5, y6, y7]).toArray Try.underlying76 hi
  rw [hc, run_eqItems_bytes 9998 5 Try.underlying5 _ _ _ (by intro i hi; simp at hi ⊢; omega)] at h
  refine Eq.trans h (congrArg (fun b => Result.ok b W) ?_)
  rw [Bool.eq_iff_iff, beq_iff_eq]
  simp [List.range_succ]
  constructor
  · rintro ⟨rfl, rfl, rfl, rfl, rfl, rfl, rfl, rfl⟩
    simp
  · rintro ⟨rfl, rfl, rfl, rfl, rfl, rfl, rfl, rfl⟩
    simp

set_option maxHeartbeats 1000000 in
theorem open_any (ao : Option Addr) (n cap : Nat) (l : List UInt8) (w : World) (hb : BS w ao n cap l) (hn : n ≤ 140737488353000) :
    Calls Try.prog 21 #[.slice ao n cap] w (OpenPost l w) := by
  have HL := Lib.hid hb.len
  have hle := hb.le
  obtain ⟨i0, hi, hz0, hz1, hz2⟩ := info_parts info_u8
  by_cases h8 : n < 8
  · go_enter Try.func21, Try.ntmps21
    go_wp2
    go_ret2
    have h : okSeal l = false := by unfold okSeal; simp; intro; rw [HL.out] at *; omega
    exact open_nil l w _ (Kp.refl _ _) h _ (by rw [openE, h, HL.out, if_neg (by simp), if_pos h8]; rfl)
  · obtain ⟨m, rfl⟩ : ∃ m, n = m + 8 := ⟨n - 8, by omega⟩
    have hbt := hb.take (m := m) (by omega)
    have HO := Lib.hid (okSeal_iff HL.out)
    obtain ⟨x0, x1, x2, x3, x4, x5, x6, x7, hx⟩ := eight_get (sumN (l.take m))
    obtain ⟨y0, y1, y2, y3, y4, y5, y6, y7, hy⟩ := eight_of (l := l.drop m) (by rw [List.length_drop, HL.out]; omega)
    obtain ⟨b, off, _, rfl, hbW, _⟩ := hb.at (k := 0) (by omega)
    have HX := Lib.hid hx
    have HY := Lib.hid hy
    obtain ⟨c0, c1, c2, c3, c4, c5, c6, c7⟩ := eight_cells hb hy
    clear hx hy
    go_enter Try.func21, Try.ntmps21
    go_wp2_with fail
    have b1 : (m : Int) ≤ (m : Int) + 8 := by omega
    have b2 : ¬ cap = m := by omega
    have b3 : (m : Int) ≤ (cap : Int) := by omega
    have b4 : m ≤ cap := by omega
    have ka := run_arrayAt8
    have ke := fun W => run_equal8 y0 y1 y2 y3 y4 y5 y6 y7 x0 x1 x2 x3 x4 x5 x6 x7 W
    rw [HX.out, ← HY.out, ← HO.out] at ke
    go_region_law (first
      | (go_simp; go_at_call 16; refine (sum_any _ _ _ [l.take m] _ (BSS.one (bo := some ⟨b, off, none⟩) (m := m) (c := cap) (by go_simp) (hbt.keep (((Kp.refl _ _).alloc _).drew)))).mono ?_; rintro e w' ⟨rfl, rfl⟩)
      | (go_simp; go_at_call 46; refine (eight_any _ x0 x1 x2 x3 x4 x5 x6 x7 HX.out _).mono ?_; rintro e w1 ⟨rfl, hk⟩; obtain ⟨d0, d1, d2, d3, d4, d5, d6, d7⟩ := eight_cells (hb.keep ((((Kp.refl _ _).alloc _).drew).trans hk)) HY.out))
    all_goals
      have hk1 : Kp Noone w w1 := (((Kp.refl _ _).alloc _).drew).trans hk
      clear ke ka b1 b2 c0 c1 c2 c3 c4 c5 c6 c7 d0 d1 d2 d3 d4 d5 d6 d7 HX HY hk
      cases hok : okSeal l with
      | false =>
        have HK := Lib.hid hok
        clear hok
        go_wp2
        go_ret2
        exact open_nil l w _ hk1 HK.out _ (by rw [openE, HK.out, HL.out]; rfl)
      | true =>
        have HK := Lib.hid hok
        have s1 := hk1.size
        clear hok
        go_wp2_with (at_builtin; refine wpList_append_gen _ rfl (.const (.slice none 0 0)) (.tmp 24) 24 rfl 5 i0 (.int .u8 0) 1 1 Try.underlying24 hi hz0 hz1 hz2 rfl none 0 0 rfl (some ⟨b, off, none⟩) m cap rfl Noone [] (Own.nil _ _ _ _ _) (bv (l.take m)) (by rw [length_bv, hbt.len, Nat.mul_one]) (hbt.keep hk1).row (bv_one _) (by omega) (by unfold maxLen; omega) ?_)
        intro bo c w2 ho hk2
        go_wp2
        go_ret2
        refine ⟨bo, m, c, by rw [openE, HK.out]; rfl, ?_, hk1.trans hk2⟩
        rw [openL, HK.out, HL.out]
        refine (show Own _ _ _ _ _ _ _ (bv (l.take (m + 8 - 8))) from ho).mono (fun j hj h => ?_)
        have h' := h.none
        exact Or.inr ⟨by omega, hj⟩

end Go.Proofs.Ytgbfbhkpjmgipaa
