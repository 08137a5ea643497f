/-
  SealShort: for every input the law returns true, and nothing that was there has changed.
-/
import Derived.Test.YtgbfbhkpjmgipaaOpen
import Derived.Test.YtgbfbhkpjmgipaaRead
namespace Go.Proofs.Ytgbfbhkpjmgipaa
open Go.RowKit Go.WideShapes

theorem openE_short {l : List UInt8} (h : l.length < 8) : openE l = 10 := by
  unfold openE okSeal
  rw [decide_eq_false (by omega), Bool.false_and, if_neg (by simp), if_pos h]
theorem openL_short {l : List UInt8} (h : l.length < 8) : openL l = [] := by
  unfold openL okSeal
  rw [decide_eq_false (by omega), Bool.false_and, if_neg (by simp)]

set_option maxHeartbeats 1000000 in
theorem sealShort_walk (ao : Option Addr) (n cap : Nat) (l : List UInt8) (k : Int) (W : World) (hb : BS W ao n cap l) (hn : n ≤ 140737488351232) :
    Calls Try.prog 6 #[.slice ao n cap, .int .i64 k] W fun e w' => e = .returned (.bool true) ∧ Kp Noone W w' := by
  obtain ⟨i0, hi, hz0, hz1, hz2⟩ := info_parts info_u8
  have hle := hb.le
  have HL := Lib.hid hb.len
  have hmk : ∀ u : World, (Instr.makeSlice 24 (.int .i64 7) (.int .i64 7)).run Try.prog u =
      .ok (.slice (some ⟨u.heap.size, 0, none⟩) 7 7) (u.alloc (.cells (bv [0, 0, 0, 0, 0, 0, 0]).toArray 5)) := fun u => by kernel_rfl
  have h7 : BS (W.alloc (.cells (bv [0, 0, 0, 0, 0, 0, 0]).toArray 5)) (some ⟨W.heap.size, 0, none⟩) 7 7 [0, 0, 0, 0, 0, 0, 0] := BS.ofHeap (fr := (0, 0)) (e := 5) (heap_alloc_new _ _) rfl (by simp [maxLen])
  by_cases hj : 0 ≤ k ∧ k ≤ 7 ∧ k ≤ n
  · obtain ⟨j, rfl⟩ := Int.eq_ofNat_of_zero_le hj.1
    obtain ⟨_, hj1, hj2⟩ := hj
    go_enter Try.func6, Try.ntmps6
    go_wp2_with fail
    refine (open_any _ _ _ _ _ h7 (by omega)).mono ?_
    rintro e w1 ⟨bo, m, c, rfl, ho, hk1⟩
    have hk2 : Kp Noone W w1 := ((Kp.refl _ _).alloc _).trans hk1
    have hm : m = 0 := by have := ho.1; rw [openL_short (by simp)] at this; simpa [bv] using this.symm
    rw [openE_short (by simp)]
    subst hm
    have hb1 := hb.keep hk2
    clear hmk h7 ho hk1
    go_wp2_with fail
    refine (head2_any _).mono ?_
    rintro e w2 ⟨rfl, hk3⟩
    have hk4 := hk2.trans hk3
    have hb2 := hb.keep hk4
    go_wp2_with fail
    go_wp2_with fail
    all_goals
      refine (copy_exact _ _ _ _ _ (hb2.take (by omega)) (by omega)).mono ?_
      rintro e w3 ⟨rfl, hw3⟩
      have hk5 : Kp Noone w2 w3 := by rw [hw3]; exact (Kp.refl _ _).alloc _
      have hbc : BS w3 (some ⟨w2.heap.size, 0, none⟩) j j (l.take j) := BS.ofHeap (fr := (0, 0)) (e := 5) (by rw [hw3]; exact heap_alloc_new w2 _) (by rw [List.length_take, HL.out]; omega) (by unfold maxLen; omega)
      clear hw3 hb hb1 hb2
      go_wp2_with fail
      refine (open_any _ _ _ _ _ hbc (by omega)).mono ?_
      rintro e w4 ⟨bo', m', c', rfl, ho, hk6⟩
      rw [openE_short (by rw [List.length_take]; omega)]
      go_wp2
      go_ret
      exact ⟨rfl, (hk4.trans hk5).trans hk6⟩

  · go_enter Try.func6, Try.ntmps6
    go_wp2_with fail
    refine (open_any _ _ _ _ _ h7 (by omega)).mono ?_
    rintro e w1 ⟨bo, m, c, rfl, ho, hk1⟩
    have hk2 : Kp Noone W w1 := ((Kp.refl _ _).alloc _).trans hk1
    have hm : m = 0 := by have := ho.1; rw [openL_short (by simp)] at this; simpa [bv] using this.symm
    rw [openE_short (by simp)]
    subst hm
    have hb1 := hb.keep hk2
    clear hmk h7 ho hk1
    go_wp2_with fail
    refine (head2_any _).mono ?_
    rintro e w2 ⟨rfl, hk3⟩
    have hk4 := hk2.trans hk3
    have hb2 := hb.keep hk4
    go_wp2_with fail
    go_wp2_with fail
    all_goals
      refine (copy_exact _ _ _ _ _ (hb2.take (by omega)) (by omega)).mono ?_
      rintro e w3 ⟨rfl, hw3⟩
      have hk5 : Kp Noone w2 w3 := by rw [hw3]; exact (Kp.refl _ _).alloc _
      have hbc : BS w3 (some ⟨w2.heap.size, 0, none⟩) 0 0 (l.take 0) := BS.ofHeap (fr := (0, 0)) (e := 5) (by rw [hw3]; exact heap_alloc_new w2 _) (by rw [List.length_take, HL.out]; omega) (by unfold maxLen; omega)
      clear hw3 hb hb1 hb2
      go_wp2_with fail
      refine (open_any _ _ _ _ _ hbc (by omega)).mono ?_
      rintro e w4 ⟨bo', m', c', rfl, ho, hk6⟩
      rw [openE_short (by rw [List.length_take]; omega)]
      go_wp2
      go_ret
      exact ⟨rfl, (hk4.trans hk5).trans hk6⟩

theorem sealShort_core {H : Type} {enc : TypeId × Value → H} (W : World) (base : Nat) (v0 : Value) (d0 : DataW H) (p0 : List MemPlace) (v1 : Value) (d1 : DataW H) (p1 : List MemPlace)
    (h0 : DataW.Trod enc Try.prog W 0 (fun _ => true) true 24 v0 d0 p0) (h1 : DataW.Trod enc Try.prog W 0 (fun _ => true) true 3 v1 d1 p1)
    (g0 : Value.okWide Try.prog W .any base 24 v0) (g1 : Value.okWide Try.prog W .any base 3 v1) (w0 : ∀ n ∈ d0.weights Try.prog 24, n ≤ reachBytes) (_w1 : ∀ n ∈ d1.weights Try.prog 3, n ≤ reachBytes) :
    Calls Try.prog 6 #[v0, v1] W fun e w' => e = .returned (.bool true) ∧ Kp Noone W w' := by
  obtain ⟨ao, n, cap, l, rfl, hb, hc⟩ := arg_bytesR h0 g0 w0
  obtain ⟨k, rfl, _⟩ := arg_int h1 g1
  have := hb.le
  exact sealShort_walk ao n cap l k W hb (by omega)

end Go.Proofs.Ytgbfbhkpjmgipaa
