/-
  PackWrites: for every script within the bound the law returns true, and nothing that was there has changed.
-/
import Derived.Test.YtgbfbhkpjmgipaaPutPlain
import Derived.Test.YtgbfbhkpjmgipaaCol
import Derived.Test.YtgbfbhkpjmgipaaRead
import Derived.Deep.RegionHeld3
import Derived.Deep.DrawnRows
import Derived.Lib.Builder
namespace Go.Proofs.Ytgbfbhkpjmgipaa
open Go.RowKit

theorem Wr.painted {col : Nat → Nat} {w w' : World} {p : Nat} {l : List UInt8} {i : Nat} (h : Wr (Ex (Col col i) w w') w' p l) : Wr (Col (paint col w w' i) i) w' p l :=
  h.mono (fun _ _ h => paint_ex h)
theorem Wr.born {col : Nat → Nat} {w w' : World} {p : Nat} {l : List UInt8} {i : Nat} (h : Wr (Ex Noone w w') w' p l) : Wr (Col (paint col w w' i) i) w' p l :=
  h.mono (fun _ _ h => paint_new h)
theorem Wr.other {B : Nat} {col : Nat → Nat} {w w' : World} {p : Nat} {l : List UInt8} {i j : Nat} (h : Wr (Col col j) w p l) (hc : Cols B w col) (hj : j ≠ 0) (hij : j ≠ i) (k : Kp (Col col i) w w') (i' : Nat) :
    Wr (Col (paint col w w' i') j) w' p l :=
  (h.kp k (fun _ hb => Col.ne hij hb)).mono (fun _ _ hb => paint_old (Col.lt hc hj hb).2 hb)
theorem Wr.aside {B : Nat} {col : Nat → Nat} {w w' : World} {p : Nat} {l : List UInt8} {j : Nat} (h : Wr (Col col j) w p l) (hc : Cols B w col) (hj : j ≠ 0) (k : Kp Noone w w') (i' : Nat) :
    Wr (Col (paint col w w' i') j) w' p l :=
  (h.keep k).mono (fun _ _ hb => paint_old (Col.lt hc hj hb).2 hb)

theorem put_len_le (ps : List PutL) (k : Nat) (h : k < ps.length) : ps[k].2.2.length ≤ (ps.map (·.2.2)).flatten.length := by
  induction ps generalizing k with
  | nil => simp at h
  | cons p r ih =>
    cases k with
    | zero => simp
    | succ k =>
      have := ih k (by simpa using h)
      simp only [List.getElem_cons_succ, List.map_cons, List.flatten_cons, List.length_append]
      omega

theorem run_same_writer (w : World) (a : Addr) : (binOp .neq 42 (.pointer (some a)) (.pointer (some a))).run Try.prog w = .ok (.bool false) w := by
  obtain ⟨j, hj⟩ := Option.isSome_iff_exists.1 (show (Try.prog.info? 79).isSome = true by kernel_rfl)
  exact Lib.run_neq_ptr_same w a Try.underlying42 hj

set_option maxHeartbeats 400000 in
theorem bytesOf_any (K N : Int) (t : List UInt8) (bo : Option Addr) (m c : Nat) (w : World) (hb : BS w bo m c t) (hm : m ≤ 70368744177664) (i2 : I64 N) :
    Calls Try.prog 32 #[.agg #[.int .i64 K, .int .i64 N, .slice bo m c]] w (NewB w (putL (K, N, t))) := by
  have hu := uN_wrap N
  have hlt := uN_lt N
  obtain ⟨j1, j2⟩ := i2
  have kA : ∀ o : Obj, Kp Noone w (w.alloc o) := fun o => (Kp.refl _ _).alloc o
  have hlen := Lib.hid hb.len
  unfold putL
  simp only []
  by_cases c0 : K = 0
  · subst c0
    rw [if_pos rfl]
    go_enter Try.func32, Try.ntmps32
    go_wp2_with fail
    refine (refNum_any (uN N) _ hlt).mono ?_
    rintro e w1 ⟨ao, cap, rfl, ho, k1⟩
    go_wp2_with fail
    go_ret
    exact ⟨ao, cap, rfl, ho.mono fun g hg h => Or.inr ⟨by have := (Ex.none h).1; simp at this; omega, hg⟩, (kA _).trans k1⟩
  · rw [if_neg c0]
    by_cases c1 : K = 1
    · subst c1
      rw [if_pos rfl]
      go_enter Try.func32, Try.ntmps32
      go_wp2_with fail
      refine (refInt_any N j1 j2 _).mono ?_
      rintro e w1 ⟨ao, cap, rfl, ho, k1⟩
      go_wp2_with fail
      go_ret
      exact ⟨ao, cap, rfl, ho.mono fun g hg h => Or.inr ⟨by have := (Ex.none h).1; simp at this; omega, hg⟩, (kA _).trans k1⟩
    · rw [if_neg c1]
      have e0 : (K == 0) = false := by simpa using c0
      have e1 : (K == 1) = false := by simpa using c1
      clear c0 c1
      go_enter Try.func32, Try.ntmps32
      go_wp2_with fail
      refine (refText_any bo m c t _ (hb.keep (kA _)) hm).mono ?_
      rintro e w1 ⟨ao, cap, rfl, ho, k1⟩
      go_wp2_with fail
      go_ret
      rw [hlen.out]
      refine ⟨ao, cap, ret_eq ?_, ho.mono fun g hg h => Or.inr ⟨by have := (Ex.none h).1; simp at this; omega, hg⟩, (kA _).trans k1⟩
      show Value.slice ao ((numL m).length + m) cap = _
      rw [List.length_append, hlen.out]


set_option maxHeartbeats 4000000 in
set_option maxRecDepth 100000 in
theorem packWrites_walk (ao : Option Addr) (n cap : Nat) (ps : List PutL) (W : World) (hb : PS W ao n cap ps) (hn : n ≤ 1048576) (hT : (ps.map (·.2.2)).flatten.length ≤ 1048576) :
    Calls Try.prog 9 #[.slice ao n cap] W fun e w' => e = .returned (.bool true) ∧ Kp Noone W w' := by
  obtain ⟨i0, hi, hz0, hz1, hz2⟩ := info_parts info_u8
  have HL := Lib.hid hb.len
  have HO : Hid ((outL ps).length ≤ 10485760) := Lib.hid (by have := outL_len ps; have := hb.len; omega)
  go_enter Try.func9, Try.ntmps9
  go_wp2_with fail
  refine (head_any _).mono ?_
  rintro e w1 ⟨rfl, k01⟩
  go_wp2_with fail
  refine (newWriter_any _).mono ?_
  rintro e w2 ⟨p, rfl, hw2, k12, hp⟩
  have s1 := k01.size
  have k02 := k01.trans k12
  have hwr2 : Wr (Col (paint (fun _ => 0) w1 w2 1) 1) w2 p [] := hw2.born
  have hcol2 := (Cols.zero W.heap.size w1).paint s1 k12.size 1
  generalize paint (fun _ => 0) w1 w2 1 = col2 at *
  clear hw2 k12 k01 hp s1
  go_wp2_with fail
  obtain ⟨w3, hw3⟩ : ∃ w3, w3 = w2.alloc (.cells #[] 5) := ⟨_, rfl⟩
  have k23 : Kp Noone w2 w3 := by rw [hw3]; exact (Kp.refl _ _).alloc _
  have k03 := k02.trans k23
  have hwr3 := hwr2.keep k23
  have hcol3 := hcol2.keep k23.size
  rw [← hw3]
  clear hw3 hwr2 hcol2 k23 k02
  go_loopw [4, 18] (fun vw i wr => ∃ (k : Nat) (col : Nat → Nat) (ao1 : Option Addr) (n1 c1 : Nat), k ≤ n ∧ i = .int .i64 (k : Int) ∧ vw = .slice ao1 n1 c1 ∧ Cols W.heap.size wr col ∧ Wr (Col col 1) wr p (outL (ps.take k)) ∧ Own (Col col 2) wr 5 1 ao1 n1 c1 (bv (outL (ps.take k))) ∧ Kp Noone W wr) (fun _ i _ => n - (intOf i).toNat)
  case atStart => exact ⟨0, col2, _, 0, 0, Nat.zero_le _, rfl, rfl, hcol3, hwr3, Own.nil _ _ _ _ _, k03⟩
  case round =>
    obtain ⟨k, col, ao1, n1, c1, hk, rfl, rfl, hcol, hwr, ho1, k0r⟩ := hrel
    clear hwr3 hcol3
    by_cases hlt : k < n
    · have hl : k < ps.length := by rw [HL.out]; exact hlt
      obtain ⟨i1, i2, b, off, bo, m, c, rfl, hblt, hq0W, hq1W, hq2W, hB⟩ := hb.get k hl
      have hq0 := k0r.cell hq0W id
      have hq1 := k0r.cell hq1W id
      have hq2 := k0r.cell hq2W id
      clear hq0W hq1W hq2W
      have hm1 := put_len_le ps k hl
      have hS := outL_snoc ps k hl
      have hL1 := outL_take_len ps k
      have hL2 := outL_take_len ps (k + 1)
      have HOo := HO.out
      rw [hS, List.length_append] at hL2
      have hn1 : n1 = (outL (ps.take k)).length := by have := ho1.1; rw [length_bv] at this; omega
      have hmt := hB.len
      have HS := Lib.hid hS
      have HN1 := Lib.hid hn1
      have hmb : m ≤ 1048576 := by omega
      have hLp : n1 + (putL ps[k]).length ≤ 10485760 := by omega
      clear hm1 hS hL1 hL2 HOo hn1 hmt hb
      generalize outL (ps.take k) = L at *
      generalize ps[k] = q at *
      obtain ⟨K, N, t⟩ := q
      simp only [] at i1 i2 hq0 hq1 hq2 hB
      have s0r := k0r.size
      have HP := Lib.hid (heap_alloc_new wr (.cells #[.int .i64 K, .int .i64 N, .slice bo m c] 45))
      have hcA : Cols W.heap.size (wr.alloc (.cells #[.int .i64 K, .int .i64 N, .slice bo m c] 45)) col := hcol.keep ((Kp.refl Noone wr).alloc _).size
      have hg0 : Hid (col wr.heap.size = 0) := Lib.hid (by rcases Nat.eq_zero_or_pos (col wr.heap.size) with h | h; exact h; have := hcol wr.heap.size (by omega); omega)
      have hwrA := hwr.keep ((Kp.refl Noone wr).alloc (.cells #[.int .i64 K, .int .i64 N, .slice bo m c] 45))
      have ho1A := ho1.keep ((Kp.refl Noone wr).alloc (.cells #[.int .i64 K, .int .i64 N, .slice bo m c] 45))
      have kA := k0r.alloc (.cells #[.int .i64 K, .int .i64 N, .slice bo m c] 45)
      have hBA := hB.keep kA
      go_wp2_with fail
      generalize hwA : wr.alloc (.cells #[.int .i64 K, .int .i64 N, .slice bo m c] 45) = wA at *
      refine (copy_exact bo m c t _ hBA (by omega)).mono ?_
      rintro e w4 ⟨rfl, hw4⟩
      have k4 : Kp Noone wA w4 := by rw [hw4]; exact (Kp.refl _ _).alloc _
      have hcopy : Own (Ex Noone wA w4) w4 5 1 (some ⟨wA.heap.size, 0, none⟩) m m (bv t) :=
        Own.fresh (Or.inr ⟨Nat.le_refl _, by rw [hw4]; simp⟩) (by rw [hw4]; exact heap_alloc_new wA _) (by rw [length_bv, hB.len, Nat.mul_one]) (by unfold maxLen; omega)
      have sA := kA.size
      have hP4 := k4.heap HP.out id
      have hwr4 := hwrA.aside hcA (by omega) k4 3
      have ho4 := ho1A.aside hcA (by omega) k4 3
      have hcopy4 := hcopy.born (col := col) (i := 3)
      have hc4 := hcA.paint sA k4.size 3
      have k04 := kA.trans k4
      have hg4 : paint col wA w4 3 wr.heap.size = 0 := by
        unfold Proofs.Ytgbfbhkpjmgipaa.paint
        have : wA.heap.size = wr.heap.size + 1 := by rw [← hwA]; simp
        rw [if_neg (by omega)]; exact hg0.out
      have hg8 : paint col wA w4 3 wA.heap.size = 3 := by
        unfold Proofs.Ytgbfbhkpjmgipaa.paint
        have : w4.heap.size = wA.heap.size + 1 := by rw [hw4]; simp
        rw [if_pos (by omega)]
      generalize paint col wA w4 3 = col4 at *
      have HG8 := Lib.hid hg8
      have HM := Lib.hid hB.len
      have HG4 := Lib.hid hg4
      obtain ⟨hp0, hp1, hp2, -⟩ := cells_three hP4
      obtain ⟨j1, j2⟩ := i2
      have s04 := k04.size
      have hk4 := k4.size
      clear hwrA ho1A hcopy hcA kA hBA hcol hwr ho1 k0r HP hg0 hg4 hg8 hw4 sA hwA k4 hq0 hq1 hq2 hk4
      generalize wr.heap.size = g6 at *
      generalize wA.heap.size = g8 at *
      have hn1 := HN1.out
      have hLb : L.length ≤ 10485760 := by omega
      clear hn1
      generalize hPB : putL (K, N, t) = B at *
      have HPB := Lib.hid hPB
      clear hPB
      have HBY : Hid (∀ w, Kp Noone W w → Calls Try.prog 32 #[.agg #[.int .i64 K, .int .i64 N, .slice bo m c]] w (NewB w B)) := Lib.hid (fun w k => by
        rw [← HPB.out]; exact bytesOf_any K N t bo m c w (hB.keep k) (by omega) ⟨j1, j2⟩)
      generalize hLL : L ++ B = L' at *
      have HLL := Lib.hid hLL
      have HL' : Hid (L'.length ≤ 10485760) := Lib.hid (by rw [← hLL, List.length_append, ← HN1.out]; exact hLp)
      clear hLL
      rcases (show K = 0 ∨ K = 1 ∨ (K ≠ 0 ∧ K ≠ 1) by omega) with cK | cK | ⟨cK0, cK1⟩
      case' inl =>
        subst cK
        have hu := uN_wrap N
        have hult := Lib.hid (uN_lt N)
        have hput : Hid (L ++ numL (uN N) = L') := Lib.hid (by rw [← HLL.out, ← HPB.out]; simp [putL])
        go_wp2_with fail
        refine (writerNum_any _ p L (uN N) _ hwr4 hult.out (by omega)).mono ?_
        rintro e w5 ⟨rfl, hwr5', k5⟩
        rw [hput.out] at hwr5'
        have hP5 := k5.heap hP4 (fun c => by unfold Col at c; have := HG4.out; omega)
        have hwr5 := hwr5'.painted
        have ho5 := ho4.other hc4 (by omega) (by omega) k5 1
        have hc5 := hc4.paint s04 k5.size 1
        have k05 := k04.col (Nat.le_refl _) hc4 (by omega) k5
        have hne : (((sizeN (uN N) : Nat) : Int) + 1 != ((numL (uN N)).length : Int)) = false := by
          rw [length_numL]; simp
        clear hwr4 ho4 hc4 k04 hwr5' hcopy4 hP4 hp0 hp1 hp2 HG4 k5
        generalize paint col4 w4 w5 1 = col5 at *
        obtain ⟨hp0, hp1, hp2, -⟩ := cells_three hP5
        go_wp2_with fail
        go_region_held3 (fun w' => w'.cell? ⟨g6, 1, none⟩ = some (.int .i64 N) ∧ Kp Noone w5 w')
          (first | (go_split_ands; exact ⟨by simpa using (by assumption), Kp.drew (by assumption)⟩) | (go_split_ands; exact ⟨k'.cell (by assumption) id, Kp.trans (by assumption) k'⟩) | (go_split_ands; exact ⟨by assumption, by first | assumption | exact (Kp.refl _ _).drew⟩))
          (first
            | (go_at_call 28; refine (size_any (uN N) _ hult.out).mono ?_; rintro e w' ⟨rfl, rfl⟩)
            | (go_at_call 29; refine (refNum_any (uN N) _ hult.out).mono ?_; rintro e w' ⟨ao', cap', rfl, ho', k'⟩))
        all_goals (
          have k6 : Kp Noone w5 w' := (‹w'.cell? ⟨g6, 1, none⟩ = some (.int .i64 N) ∧ Kp Noone w5 w'›).2
          have hwr6 := hwr5.keep k6
          have ho6 := ho5.keep k6
          have hc6 := hc5.keep k6.size
          have k06 := k05.trans k6
          have hp06 := k6.cell hp0 id
          have hp16 := k6.cell hp1 id
          have hp26 := k6.cell hp2 id
          clear hwr5 ho5 hc5 k05 hp0 hp1 hp2 k6 hP5
          generalize col5 = col6 at *
          go_wp2_with fail)
      case' inr.inl =>
        subst cK
        have hput : Hid (L ++ numL (foldN N) = L') := Lib.hid (by rw [← HLL.out, ← HPB.out]; simp [putL])
        go_wp2_with fail
        refine (writerInt_any _ p L N _ hwr4 j1 j2 (by omega)).mono ?_
        rintro e w' ⟨rfl, hwr5', k5⟩
        rw [hput.out] at hwr5'
        have hP5 := k5.heap hP4 (fun c => by unfold Col at c; have := HG4.out; omega)
        have hwr6 := hwr5'.painted
        have ho6 := ho4.other hc4 (by omega) (by omega) k5 1
        have hc6 := hc4.paint s04 k5.size 1
        have k06 := k04.col (Nat.le_refl _) hc4 (by omega) k5
        clear hwr4 ho4 hc4 k04 hwr5' hcopy4 hP4 hp0 hp1 hp2 HG4 k5
        generalize paint col4 w4 w' 1 = col6 at *
        obtain ⟨hp06, hp16, hp26, -⟩ := cells_three hP5
        clear hP5
        go_wp2_with fail
      case' inr.inr =>
        have e0 : (K == 0) = false := by simpa using cK0
        have e1 : (K == 1) = false := by simpa using cK1
        have hput : Hid (L ++ numL m ++ t = L') := Lib.hid (by rw [← HLL.out, ← HPB.out]; simp [putL, cK0, cK1, HM.out])
        clear cK0 cK1
        go_wp2_with fail
        refine (writerText_any _ p L (some ⟨g8, 0, none⟩) m m t _ hwr4 hcopy4.bs (fun a ha c => by cases ha; have c' : col4 g8 = 1 := c; have := HG8.out; omega) (by omega)).mono ?_
        rintro e w5 ⟨rfl, hwr5', k5⟩
        rw [hput.out] at hwr5'
        have hP5 := k5.heap hP4 (fun c => by unfold Col at c; have := HG4.out; omega)
        have hwr5 := hwr5'.painted
        have ho5 := ho4.other hc4 (by omega) (by omega) k5 1
        have hb5 := hcopy4.other hc4 (by omega) (by omega) k5 1
        have hc5 := hc4.paint s04 k5.size 1
        have k05 := k04.col (Nat.le_refl _) hc4 (by omega) k5
        have hgg : Hid (paint col4 w4 w5 1 g6 = 0) := Lib.hid (by
          unfold Proofs.Ytgbfbhkpjmgipaa.paint
          have h6 := (Array.getElem?_eq_some_iff.1 hP4).1
          rw [if_neg (by omega)]; exact HG4.out)
        clear hwr4 ho4 hc4 k04 hwr5' hcopy4 hP4 hp0 hp1 hp2 HG4 k5
        generalize paint col4 w4 w5 1 = col5 at *
        go_wp2_with fail
        go_loopw [32, 9] (fun i _ w' => ∃ (j : Nat) (xs : List UInt8), j ≤ m ∧ i = .int .i64 (j : Int) ∧ Own (Col col5 3) w' 5 1 (some ⟨g8, 0, none⟩) m m (bv xs) ∧ Kp (Col col5 3) w5 w') (fun i _ _ => m - (intOf i).toNat)
        case atStart => exact ⟨0, _, Nat.zero_le _, rfl, hb5, Kp.refl _ _⟩
        case' round =>
          obtain ⟨j, xs, hj, rfl, hor, kq⟩ := hrel
          by_cases hlt2 : j < m
          case' pos =>
            obtain ⟨g, off', hkl, hgo, hFg, hg, hc, hf, hset⟩ := hor.byte hlt2
            cases hgo
            have hfl := Lib.hid (flip_val xs[j])
            have hst := Lib.hid (hset (xs[j] ^^^ 255))
            generalize xs[j] = x at *
            clear hset hb5 hor hwr5 ho5
            rw [Nat.zero_add] at hc hf hst
            go_wp2_with fail
            go_roundw
            case rel => exact ⟨j + 1, _, by omega, by go_num, by rw [hfl.out]; exact hst.out, Kp.setCell (S := Col col5 3) (p := ⟨g8, j, none⟩) kq (fun _ => hFg) _⟩
            case measure => simp [intOf]; omega
          obtain ⟨w', hw'⟩ : ∃ w', w' = wr := ⟨_, rfl⟩
          subst hw'
          have hwr6 := hwr5.other hc5 (by omega) (by omega) kq 3
          have ho6 := ho5.other hc5 (by omega) (by omega) kq 3
          have hc6 := hc5.paint k05.size kq.size 3
          have k06 := k05.col (Nat.le_refl _) hc5 (by omega) kq
          have hP6 := kq.heap hP5 (fun c => by unfold Col at c; have := hgg.out; omega)
          obtain ⟨hp06, hp16, hp26, -⟩ := cells_three hP6
          clear hwr5 ho5 hc5 k05 hP5 hb5 hor kq hP6 hgg
          generalize paint col5 w5 w' 3 = col6 at *
          go_wp2_with fail
      all_goals (
        refine (HBY.out _ k06).mono ?_
        rintro e w7 ⟨ao7, cap7, rfl, ho7, k7⟩
        have hwr7 := hwr6.keep k7
        have ho8 := ho6.keep k7
        have hc7 := hc6.keep k7.size
        have k07 := k06.trans k7
        have s07 := k07.size
        have s08 : Hid (∀ w8, Kp (Col col6 2) w7 w8 → W.heap.size ≤ w8.heap.size) := Lib.hid (fun w8 k => Nat.le_trans s07 k.size)
        clear hwr6 ho6 hc6 k06 hp06 hp16 hp26 k7 hput
        go_wp2_with (at_builtin; refine wpList_append_gen _ rfl (.tmp 65) (.tmp 67) 24 rfl 5 i0 (.int .u8 0) 1 1 Try.underlying24 hi hz0 hz1 hz2 rfl ao1 n1 c1 rfl ao7 B.length cap7 rfl _ _ ho8 (bv B) (by rw [length_bv, Nat.mul_one]) ho7.row (bv_one _) (by omega) (by unfold maxLen; omega) ?_)
        intro ao8 c8 w8 ho9 k8
        rw [bv_append, HLL.out] at ho9
        have ho10 := ho9.painted
        have hwr8 := hwr7.other hc7 (by omega) (by omega) k8 2
        have hc8 := hc7.paint s07 k8.size 2
        have k08 := k07.col (Nat.le_refl _) hc7 (by omega) k8
        have s08' := s08.out _ k8
        clear hwr7 ho8 hc7 k07 ho9 ho7 k8 s08
        generalize paint col6 w7 w8 2 = col8 at *
        generalize hn8 : n1 + B.length = n8 at *
        have HN8 := Lib.hid hn8
        clear hn8
        go_wp2_with fail
        refine (writerBytes_any _ p L' _ hwr8 (by have := HL'.out; omega)).mono ?_
        rintro e w9 ⟨bo9, c9, rfl, ho11, k9⟩
        have hl9 := HL'.out
        have hwr9 := hwr8.keep k9
        have ho12 := ho10.keep k9
        have hc9 := hc8.keep k9.size
        have k09 := k08.trans k9
        clear hwr8 ho10 k08
        have hsame := fun w : World => run_same_writer w ⟨p, 0, none⟩
        go_wp2_with fail
        refine (same_any _ _ _ _ _ _ L' L' _ ho11.bs ho12.bs (by omega)).mono ?_
        rintro e w10 ⟨rfl, q, rfl⟩
        rw [show (L' == L') = true by simp]
        have ho13 := ho11.keep ((Kp.refl Noone w9).drewN q)
        have ho14 := ho12.keep ((Kp.refl Noone w9).drewN q)
        have hwr10 := hwr9.keep ((Kp.refl Noone w9).drewN q)
        have hc10 := hc9.keep ((Kp.refl Noone w9).drewN q).size
        have k10 := k09.drewN q
        have hF : Hid (∀ j, Ex Noone w8 w9 j → w8.heap.size ≤ j) := Lib.hid (fun j h => (Ex.none h).1)
        generalize w9.drewN q = w10 at *
        generalize Ex Noone w8 w9 = F at *
        clear ho11 ho12 hwr9 hc9 k09 k9 hsame
        go_wp2_with fail
        generalize L'.length = l9 at *
        go_loopw [82, 11] (fun i _ w' => ∃ (j : Nat) (xs : List UInt8), j ≤ l9 ∧ i = .int .i64 (j : Int) ∧ Own F w' 5 1 bo9 l9 c9 (bv xs) ∧ Kp F w10 w') (fun i _ _ => l9 - (intOf i).toNat)
        case atStart => exact ⟨0, _, Nat.zero_le _, rfl, ho13, Kp.refl _ _⟩
        case' round =>
          obtain ⟨j, xs, hj, rfl, hor, kq⟩ := hrel
          by_cases hlt2 : j < l9
          case' pos =>
            obtain ⟨g, off', hkl, rfl, hFg, hg, hc, hf, hset⟩ := hor.byte hlt2
            have hfl := Lib.hid (flip_val xs[j])
            have hst := Lib.hid (hset (xs[j] ^^^ 255))
            generalize xs[j] = x at *
            clear hset ho13 hor hwr10 ho14
            go_wp2_with fail
            go_roundw
            case rel => exact ⟨j + 1, _, by omega, by go_num, by rw [hfl.out]; exact hst.out, kq.setCell (fun _ => hFg) _⟩
            case measure => simp [intOf]; omega
          have hwr11 := hwr10.kp kq (fun i hi c => by have := hF.out i c; have := (Col.lt hc8 (by omega) hi).2; omega)
          have ho15 := ho14.kp kq (fun i hi c => by have := hF.out i c; have := (Col.lt hc8 (by omega) hi).2; omega)
          have hc11 := hc10.keep kq.size
          have k11 := k10.fin kq (fun i c => Or.inr (by have := hF.out i c; omega))
          clear hwr10 ho14 hc10 k10 ho13 hor kq
          go_wp2_with fail
          exact ⟨⟨k + 1, col8, ao8, n8, c8, by omega, by go_num, rfl, hc11, by rw [HS.out]; exact hwr11, by rw [HS.out]; exact ho15, k11⟩, by simp [intOf]; omega⟩)
    · obtain rfl : k = n := by omega
      have ht : ps.take k = ps := List.take_of_length_le (by rw [HL.out]; omega)
      rw [ht] at ho1 hwr
      have HOo := HO.out
      clear ht hb
      generalize outL ps = L at *
      go_wp2_with fail
      refine (writerBytes_any _ p L _ hwr (by omega)).mono ?_
      rintro e w9 ⟨bo9, c9, rfl, ho11, k9⟩
      have ho12 := ho1.keep k9
      have k09 := k0r.trans k9
      clear hwr ho1 k0r
      go_wp2_with fail
      refine (same_any _ _ _ _ _ _ L L _ ho11.bs ho12.bs (by omega)).mono ?_
      rintro e w10 ⟨rfl, q, rfl⟩
      rw [show (L == L) = true by simp]
      go_wp2_with fail
      go_ret
      exact ⟨rfl, k09.drewN q⟩

theorem packWrites_core {H : Type} {enc : TypeId × Value → H} (W : World) (base : Nat) (v0 : Value) (d0 : DataW H) (p0 : List MemPlace)
    (h0 : DataW.Trod enc Try.prog W 0 (fun _ => true) true 41 v0 d0 p0) (g0 : Value.okWide Try.prog W .any base 41 v0)
    (hk : Rows.uptoBulkAll [d0] ≤ 1048576) :
    Calls Try.prog 9 #[v0] W fun e w' => e = .returned (.bool true) ∧ Kp Noone W w' := by
  obtain ⟨ao, n, cap, ps, rfl, hb, hc⟩ := arg_put h0 g0
  simp only [Rows.uptoBulkAll] at hk
  exact packWrites_walk ao n cap ps W hb (by omega) (by omega)

end Go.Proofs.Ytgbfbhkpjmgipaa
