/-
  THE WALKS of Seal and its reference: what each computes, for every byte slice.
-/
import Derived.Test.YtgbfbhkpjmgipaaSums
import Derived.Test.YtgbfbhkpjmgipaaApp
namespace Go.Proofs.Ytgbfbhkpjmgipaa
open Go.RowKit

set_option maxHeartbeats 400000 in
theorem head2_any (w : World) : Calls Try.prog 14 #[] w fun e w' => e = .returned (.bool true) ∧ Kp Noone w w' := by
  have kc := fun (w : World) (C : Array Value) (n c : Nat) => Lib.run_convert_bytes_const (P := Try.prog) w 24 5 C n c Try.underlying24 Try.underlying5
  go_enter Try.func14, Try.ntmps14
  go_wp2_with fail
  refine (sum_any _ _ _ [[97]] _ (BSS.one (bo := some ⟨w.heap.size, 0, none⟩) (m := 1) (c := 1) (by go_simp)
    ((BS.ofHeap (fr := (1, 2)) (e := 5) (w := w.alloc (.cells (bv [97]).toArray 5 (1, 2))) (heap_alloc_new _ _) rfl (by simp [maxLen])).keep ((Kp.refl _ _).alloc _)))).mono ?_
  rintro e w' ⟨rfl, rfl⟩
  rw [show sumN [[97]].flatten = 12638187200555641996 from by decide +kernel]
  go_wp2
  go_ret
  exact ⟨rfl, ((Kp.refl _ _).alloc _).alloc _⟩

/-- The sum, the most significant byte first. -/
def eightL (h : Nat) : List UInt8 := [UInt8.ofNat (h / 72057594037927936), UInt8.ofNat (h / 281474976710656), UInt8.ofNat (h / 1099511627776), UInt8.ofNat (h / 4294967296), UInt8.ofNat (h / 16777216), UInt8.ofNat (h / 65536), UInt8.ofNat (h / 256), UInt8.ofNat h]

theorem u8_ofNat (x : Nat) : Value.int .u8 ((x : Int) % 256) = .int .u8 ((UInt8.ofNat x).toNat : Int) := by
  simp

set_option maxHeartbeats 1000000 in
theorem eight_any (h : Nat) (x0 x1 x2 x3 x4 x5 x6 x7 : UInt8) (hx : [x0, x1, x2, x3, x4, x5, x6, x7] = eightL h) (w : World) : Calls Try.prog 46 #[.int .u64 (h : Int)] w fun e w' =>
    e = .returned (.agg #[.int .u8 (x0.toNat : Int), .int .u8 (x1.toNat : Int), .int .u8 (x2.toNat : Int), .int .u8 (x3.toNat : Int), .int .u8 (x4.toNat : Int), .int .u8 (x5.toNat : Int), .int .u8 (x6.toNat : Int), .int .u8 (x7.toNat : Int)]) ∧ Kp Noone w w' := by
  simp only [eightL, List.cons.injEq] at hx
  obtain ⟨rfl, rfl, rfl, rfl, rfl, rfl, rfl, rfl, _⟩ := hx
  go_enter Try.func46, Try.ntmps46
  go_wp2
  refine wp_loop_rounds 9 ?_
  rw [rounds_succ]
  go_wp2
  rw [rounds_succ]
  go_wp2
  rw [rounds_succ]
  go_wp2
  rw [rounds_succ]
  go_wp2
  rw [rounds_succ]
  go_wp2
  rw [rounds_succ]
  go_wp2
  rw [rounds_succ]
  go_wp2
  rw [rounds_succ]
  go_wp2
  rw [rounds_succ]
  go_wp2
  refine bodyPost_ret (v := .agg (bv (eightL h)).toArray) ?_ rfl ⟨rfl, ?_⟩
  · simp [results, Try.results46, go_sem, bv, eightL, U8]
  · repeat (first | exact Kp.refl _ _ | apply Kp.alloc | refine Kp.setCell ?_ (fun h => absurd h (by simp)) _)

theorem eight_get (h : Nat) : ∃ x0 x1 x2 x3 x4 x5 x6 x7 : UInt8, [x0, x1, x2, x3, x4, x5, x6, x7] = eightL h := ⟨_, _, _, _, _, _, _, _, rfl⟩

set_option maxHeartbeats 400000 in
theorem seal_any (ao : Option Addr) (n cap : Nat) (l : List UInt8) (w : World) (hb : BS w ao n cap l) (hn : n ≤ 140737488353000) :
    Calls Try.prog 22 #[.slice ao n cap] w fun e w' => ∃ bo c, e = .returned (.slice bo (n + 8) c) ∧ Own (Ex Noone w w') w' 5 1 bo (n + 8) c (bv (l ++ eightL (sumN l))) ∧ Kp Noone w w' := by
  obtain ⟨i0, hi, hz0, hz1, hz2⟩ := info_parts info_u8
  obtain ⟨x0, x1, x2, x3, x4, x5, x6, x7, hx⟩ := eight_get (sumN l)
  have HX := Lib.hid hx
  clear hx
  go_enter Try.func22, Try.ntmps22
  go_wp2_with fail
  refine (sum_any _ _ _ [l] _ (BSS.one (bo := ao) (m := n) (c := cap) (by go_simp) (hb.keep ((Kp.refl _ _).alloc _)))).mono ?_
  rintro e w' ⟨rfl, rfl⟩
  rw [show [l].flatten = l from by simp]
  go_wp2_with fail
  refine (eight_any _ x0 x1 x2 x3 x4 x5 x6 x7 HX.out _).mono ?_
  rintro e w1 ⟨rfl, hk⟩
  have hb1 := hb.keep (((Kp.refl _ _).alloc _).trans hk)
  have hr8 := Row.ofHeap (w := (w1.alloc (.cells (bv [x0, x1, x2, x3, x4, x5, x6, x7]).toArray 76)).drew) (e := 76) (fr := (0, 0)) (heap_alloc_new w1 _)
  go_wp2_with fail
  go_region_law (first
    | (refine step_append_gen rfl (.const (.slice none 0 0)) (.tmp 8) 24 rfl 5 i0 (.int .u8 0) 1 1 Try.underlying24 hi hz0 hz1 hz2 rfl none 0 0 rfl ao n cap rfl Noone [] (Own.nil _ _ _ _ _) (bv l) (by simp [bv, hb.len]) (hb1.row.keep ((((Kp.refl _ _).alloc _)).drew)) (bv_one l) (by omega) (by unfold maxLen; omega) ?_; intro ao1 cap1 w2 hown1 hk1; simp only [Nat.zero_add, List.nil_append] at hown1)
    | (refine step_append_gen rfl (.tmp 9) (.tmp 10) 24 rfl 5 i0 (.int .u8 0) 1 1 Try.underlying24 hi hz0 hz1 hz2 rfl ao1 n cap1 rfl _ 8 8 rfl _ (bv l) hown1 (bv [x0, x1, x2, x3, x4, x5, x6, x7]) rfl (hr8.keep hk1) (bv_one _) (by omega) (by unfold maxLen; omega) ?_; intro ao2 cap2 w3 hown2 hk2))
  go_wp2
  go_ret
  have s1 : w.heap.size + 1 ≤ w1.heap.size := by simpa using hk.size
  have s2 : w1.heap.size + 1 ≤ w2.heap.size := by simpa using hk1.size
  have s3 := hk2.size
  refine ⟨ao2, cap2, rfl, ?_, ?_⟩
  · rw [← HX.out, ← bv_append]
    refine hown2.mono (fun k hk h => ?_)
    rcases h with h | h
    · have h' := h.none
      simp at h'
      exact Or.inr ⟨by omega, by omega⟩
    · exact Or.inr ⟨by omega, h.2⟩
  · refine Kp.fin (((((Kp.refl _ _).alloc _).trans hk).alloc _).drew.trans hk1) hk2 (fun k h => Or.inr ?_)
    have h' := h.none
    simp at h'
    omega

/-- h shifted left by k bytes, and what its first byte is. -/
def shl (h k : Nat) : Nat := h * 256 ^ k % 18446744073709551616
theorem W64_sumN (l : List UInt8) : W64 (sumN l) := W64_sumFrom _ _ W64_start
theorem shl_zero {h : Nat} (hh : W64 h) : shl h 0 = h := by
  unfold shl; unfold W64 at hh; rw [Nat.pow_zero, Nat.mul_one]; exact Nat.mod_eq_of_lt hh
theorem shl_succ (h k : Nat) : IntKind.u64.wrap ((shl h k : Int) * 256) = (shl h (k + 1) : Int) := by
  rw [IntKind.wrap_u64]; unfold shl; rw [Nat.pow_succ, ← Nat.mul_assoc]; generalize h * 256 ^ k = x; omega
theorem shl_top (h k : Nat) (hk : k < 8) : IntKind.u64.wrap ((shl h k : Int) / 72057594037927936) % 256 = ((eightL h)[k]'(by simpa [eightL] using hk)).toNat := by
  have h8 : k = 0 ∨ k = 1 ∨ k = 2 ∨ k = 3 ∨ k = 4 ∨ k = 5 ∨ k = 6 ∨ k = 7 := by omega
  rcases h8 with rfl | rfl | rfl | rfl | rfl | rfl | rfl | rfl <;> simp [IntKind.wrap_u64, shl, eightL] <;> omega

set_option maxHeartbeats 400000 in
theorem refSeal_any (ao : Option Addr) (n cap : Nat) (l : List UInt8) (w : World) (hb : BS w ao n cap l) (hn : n ≤ 140737488353000) :
    Calls Try.prog 23 #[.slice ao n cap] w fun e w' => ∃ bo c, e = .returned (.slice bo (n + 8) c) ∧ Own (Ex Noone w w') w' 5 1 bo (n + 8) c (bv (l ++ eightL (sumN l))) ∧ Kp Noone w w' := by
  obtain ⟨i0, hi, hz0, hz1, hz2⟩ := info_parts info_u8
  go_enter Try.func23, Try.ntmps23
  go_wp2_with fail
  refine (copy_exact _ _ _ l _ hb (by omega)).mono ?_
  rintro e w1 ⟨rfl, hw1⟩
  have hk : Kp Noone w w1 := by rw [hw1]; exact (Kp.refl _ _).alloc _
  have hown : Own (Ex Noone w w1) w1 5 1 (some ⟨w.heap.size, 0, none⟩) n n (bv l) :=
    Own.fresh (Or.inr ⟨Nat.le_refl _, by rw [hw1]; simp⟩) (by rw [hw1]; exact heap_alloc_new w _) (by simp [bv, hb.len]) (by unfold maxLen; omega)
  have hb1 := hb.keep hk
  clear hw1
  go_wp2_with fail
  refine (refSum_any _ _ _ l _ hb1 (by omega)).mono ?_
  rintro e w' ⟨rfl, rfl⟩
  have hs1 := hk.size
  go_wp2_with fail
  go_loopw [3, 4, 5] (fun v h i wr => ∃ (k : Nat) (bo : Option Addr) (c : Nat), k ≤ 8 ∧ i = .int .i64 k ∧ h = .int .u64 (shl (sumN l) k : Nat) ∧ v = .slice bo (n + k) c ∧ Own (Ex Noone w wr) wr 5 1 bo (n + k) c (bv (l ++ (eightL (sumN l)).take k)) ∧ Kp Noone w wr)
    (fun _ _ i _ => 8 - (intOf i).toNat)
  case atStart => exact ⟨0, _, _, by omega, rfl, by rw [shl_zero (W64_sumN l)], rfl, by simpa using hown, hk⟩
  case round =>
    obtain ⟨k, bo, c, hk8, rfl, rfl, rfl, ho, hkr⟩ := hrel
    by_cases hlt : k < 8
    · have hkl : k < (eightL (sumN l)).length := hlt
      have HT := Lib.hid (shl_top (sumN l) k hlt)
      have HS := Lib.hid (shl_succ (sumN l) k)
      have HA : Hid ((eightL (sumN l)).take (k + 1) = (eightL (sumN l)).take k ++ [(eightL (sumN l))[k]]) := take_snoc _ _ hkl
      generalize (eightL (sumN l))[k] = x at HT HA
      generalize shl (sumN l) k = X at *
      clear hb hb1 hown hk hs1
      have HR : Hid (∀ W : World, Row (W.alloc (.cells #[.int .u8 (IntKind.u64.wrap ((X : Int) / 72057594037927936) % 256)] 5)) (some ⟨W.heap.size, 0, none⟩) (bv [x])) := by
        intro W
        rw [HT.out]
        exact Row.ofHeap (heap_alloc_new W _)
      go_wp2_with (at_builtin; refine wpList_append_gen _ rfl (.tmp 14) (.tmp 18) 24 rfl 5 i0 (.int .u8 0) 1 1 Try.underlying24 hi hz0 hz1 hz2 rfl bo (n + k) c rfl _ 1 1 rfl _ (bv (l ++ (eightL (sumN l)).take k)) (ho.keep ((Kp.refl _ _).alloc _)) (bv [x]) rfl (HR.out _) (bv_one _) (by omega) (by unfold maxLen; omega) ?_)
      intro bo' c' w2 ho2 hk2
      go_wp2
      go_roundw
      case rel =>
        have s1 := hkr.size
        have s2 : wr.heap.size + 1 ≤ w2.heap.size := by simpa using hk2.size
        refine ⟨k + 1, bo', c', by omega, by go_num, int_eq HS.out, rfl, ?_, ?_⟩
        · rw [HA.out, ← List.append_assoc, ← bv_append]
          refine ho2.mono (fun j hj h => ?_)
          rcases h with h | h
          · exact Or.inr ⟨h.none.1, hj⟩
          · simp at h
            exact Or.inr ⟨by omega, hj⟩
        · exact Kp.fin (hkr.alloc _) hk2 (fun j h => Or.inr h.none.1)
      case measure => simp [intOf]; omega
    · go_wp2
      go_ret
      obtain rfl : k = 8 := by omega
      exact ⟨bo, c, rfl, ho, hkr⟩

end Go.Proofs.Ytgbfbhkpjmgipaa
