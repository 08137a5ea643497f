/-
  SealTells: for every input the law returns true, and nothing that was there has changed.
-/
import Derived.Test.YtgbfbhkpjmgipaaTell
import Derived.Test.YtgbfbhkpjmgipaaRead
namespace Go.Proofs.Ytgbfbhkpjmgipaa
open Go.RowKit Go.WideShapes

theorem openE_ok (l : List UInt8) : (openE l == 0) = okSeal l := by
  unfold openE
  cases okSeal l
  · by_cases h : l.length < 8 <;> simp [h]
  · simp

set_option maxHeartbeats 1000000 in
theorem sealTells_walk (ao : Option Addr) (n cap : Nat) (l : List UInt8) (k : Int) (c : UInt8) (W : World) (hb : BS W ao n cap l) (hn : n ≤ 140737488351232) (hk1 : -9223372036854775808 ≤ k) (hk2 : k ≤ 9223372036854775807) :
    Calls Try.prog 8 #[.slice ao n cap, .int .i64 k, .int .u8 (c.toNat : Int)] W fun e w' => e = .returned (.bool true) ∧ Kp Noone W w' := by
  have HL := Lib.hid hb.len
  have hlen : (l ++ eightL (sumN l)).length = n + 8 := by rw [List.length_append, length_eightL, HL.out]
  obtain ⟨j, hj, hjk⟩ : ∃ j : Nat, j < n + 8 ∧ ((k = j) ∨ ((k < 0 ∨ (n : Int) + 8 ≤ k) ∧ j = 0)) := by
    by_cases h : 0 ≤ k ∧ k < n + 8
    · exact ⟨k.toNat, by omega, Or.inl (by omega)⟩
    · exact ⟨0, by omega, Or.inr ⟨by omega, rfl⟩⟩
  have hjl : j < (l ++ eightL (sumN l)).length := by omega
  have HO := Lib.hid (ok_set l hjl c)
  have HN := Lib.hid hlen
  clear hlen
  rcases hjk with rfl | ⟨hk | hk, rfl⟩
  · go_enter Try.func8, Try.ntmps8
    go_wp2_with fail
    refine (head2_any _).mono ?_
    rintro e w1 ⟨rfl, hk3⟩
    go_wp2_with fail
    refine (copy_exact _ _ _ l _ (hb.keep hk3) (by omega)).mono ?_
    rintro e w2 ⟨rfl, hw2⟩
    have hk4 : Kp Noone w1 w2 := by rw [hw2]; exact (Kp.refl _ _).alloc _
    have hbc : BS w2 (some ⟨w1.heap.size, 0, none⟩) n n l := BS.ofHeap (fr := (0, 0)) (e := 5) (by rw [hw2]; exact heap_alloc_new w1 _) HL.out (by unfold maxLen; omega)
    clear hw2
    go_wp2_with fail
    refine (seal_any _ _ _ l _ hbc (by omega)).mono ?_
    rintro e w3 ⟨bo, cc, rfl, ho, hk5⟩
    have hk6 := (hk3.trans hk4).trans hk5
    obtain ⟨g, off, rfl, hF, hg, hcell, hfr⟩ := ho.at (k := j) (by rw [length_bv]; exact hjl)
    have ho2 := ho.set (k := j) (by rw [length_bv]; exact hjl) (U8 c)
    have s1 := hF.none
    have s2 := (hk3.trans hk4).size
    have hcell' : w3.cell? ⟨g, off + j, none⟩ = some (.int .u8 ((l ++ eightL (sumN l))[j].toNat : Int)) := by rw [hcell, bv_get _ _ hjl]
    rw [bv_set] at ho2
    clear hcell hbc hk3 hk4 hk5 hb
    generalize (l ++ eightL (sumN l))[j] = x at *
    go_wp2_with fail
    refine (open_any _ _ _ _ _ ho2.bs (by omega)).mono ?_
    rintro e w4 ⟨bo', m', c', rfl, ho4, hk7⟩
    go_wp2
    go_ret
    refine ⟨ret_eq ?_, ((hk6.setCell (fun h => absurd h (by simp; omega)) _).trans hk7)⟩
    show Value.bool ((openE _ == 0) == ((x.toNat : Int) == (c.toNat : Int))) = _
    rw [openE_ok, HO.out, u8_beq]
    simp
  · go_enter Try.func8, Try.ntmps8
    go_wp2_with fail
    refine (head2_any _).mono ?_
    rintro e w1 ⟨rfl, hk3⟩
    go_wp2_with fail
    refine (copy_exact _ _ _ l _ (hb.keep hk3) (by omega)).mono ?_
    rintro e w2 ⟨rfl, hw2⟩
    have hk4 : Kp Noone w1 w2 := by rw [hw2]; exact (Kp.refl _ _).alloc _
    have hbc : BS w2 (some ⟨w1.heap.size, 0, none⟩) n n l := BS.ofHeap (fr := (0, 0)) (e := 5) (by rw [hw2]; exact heap_alloc_new w1 _) HL.out (by unfold maxLen; omega)
    clear hw2
    go_wp2_with fail
    refine (seal_any _ _ _ l _ hbc (by omega)).mono ?_
    rintro e w3 ⟨bo, cc, rfl, ho, hk5⟩
    have hk6 := (hk3.trans hk4).trans hk5
    obtain ⟨g, off, rfl, hF, hg, hcell, hfr⟩ := ho.at (k := 0) (by rw [length_bv]; exact hjl)
    have ho2 := ho.set (k := 0) (by rw [length_bv]; exact hjl) (U8 c)
    have s1 := hF.none
    have s2 := (hk3.trans hk4).size
    have hcell' : w3.cell? ⟨g, off + 0, none⟩ = some (.int .u8 ((l ++ eightL (sumN l))[0].toNat : Int)) := by rw [hcell, bv_get _ _ hjl]
    rw [bv_set] at ho2
    clear hcell hbc hk3 hk4 hk5 hb
    simp only [Nat.add_zero] at hcell' hfr ho2
    generalize (l ++ eightL (sumN l))[0] = x at *
    go_wp2_with fail
    refine (open_any _ _ _ _ _ ho2.bs (by omega)).mono ?_
    rintro e w4 ⟨bo', m', c', rfl, ho4, hk7⟩
    go_wp2
    go_ret
    refine ⟨ret_eq ?_, ((hk6.setCell (fun h => absurd h (by simp; omega)) _).trans hk7)⟩
    show Value.bool ((openE _ == 0) == ((x.toNat : Int) == (c.toNat : Int))) = _
    rw [openE_ok, HO.out, u8_beq]
    simp
  · go_enter Try.func8, Try.ntmps8
    go_wp2_with fail
    refine (head2_any _).mono ?_
    rintro e w1 ⟨rfl, hk3⟩
    go_wp2_with fail
    refine (copy_exact _ _ _ l _ (hb.keep hk3) (by omega)).mono ?_
    rintro e w2 ⟨rfl, hw2⟩
    have hk4 : Kp Noone w1 w2 := by rw [hw2]; exact (Kp.refl _ _).alloc _
    have hbc : BS w2 (some ⟨w1.heap.size, 0, none⟩) n n l := BS.ofHeap (fr := (0, 0)) (e := 5) (by rw [hw2]; exact heap_alloc_new w1 _) HL.out (by unfold maxLen; omega)
    clear hw2
    go_wp2_with fail
    refine (seal_any _ _ _ l _ hbc (by omega)).mono ?_
    rintro e w3 ⟨bo, cc, rfl, ho, hk5⟩
    have hk6 := (hk3.trans hk4).trans hk5
    obtain ⟨g, off, rfl, hF, hg, hcell, hfr⟩ := ho.at (k := 0) (by rw [length_bv]; exact hjl)
    have ho2 := ho.set (k := 0) (by rw [length_bv]; exact hjl) (U8 c)
    have s1 := hF.none
    have s2 := (hk3.trans hk4).size
    have hcell' : w3.cell? ⟨g, off + 0, none⟩ = some (.int .u8 ((l ++ eightL (sumN l))[0].toNat : Int)) := by rw [hcell, bv_get _ _ hjl]
    rw [bv_set] at ho2
    clear hcell hbc hk3 hk4 hk5 hb
    simp only [Nat.add_zero] at hcell' hfr ho2
    generalize (l ++ eightL (sumN l))[0] = x at *
    go_wp2_with fail
    refine (open_any _ _ _ _ _ ho2.bs (by omega)).mono ?_
    rintro e w4 ⟨bo', m', c', rfl, ho4, hk7⟩
    go_wp2
    go_ret
    refine ⟨ret_eq ?_, ((hk6.setCell (fun h => absurd h (by simp; omega)) _).trans hk7)⟩
    show Value.bool ((openE _ == 0) == ((x.toNat : Int) == (c.toNat : Int))) = _
    rw [openE_ok, HO.out, u8_beq]
    simp

theorem sealTells_core {H : Type} {enc : TypeId × Value → H} (W : World) (base : Nat) (v0 : Value) (d0 : DataW H) (p0 : List MemPlace) (v1 : Value) (d1 : DataW H) (p1 : List MemPlace) (v2 : Value) (d2 : DataW H) (p2 : List MemPlace)
    (h0 : DataW.Trod enc Try.prog W 0 (fun _ => true) true 24 v0 d0 p0) (h1 : DataW.Trod enc Try.prog W 0 (fun _ => true) true 3 v1 d1 p1) (h2 : DataW.Trod enc Try.prog W 0 (fun _ => true) true 5 v2 d2 p2)
    (g0 : Value.okWide Try.prog W .any base 24 v0) (g1 : Value.okWide Try.prog W .any base 3 v1) (g2 : Value.okWide Try.prog W .any base 5 v2)
    (w0 : ∀ n ∈ d0.weights Try.prog 24, n ≤ reachBytes) (_w1 : ∀ n ∈ d1.weights Try.prog 3, n ≤ reachBytes) (_w2 : ∀ n ∈ d2.weights Try.prog 5, n ≤ reachBytes) :
    Calls Try.prog 8 #[v0, v1, v2] W fun e w' => e = .returned (.bool true) ∧ Kp Noone W w' := by
  obtain ⟨ao, n, cap, l, rfl, hb, hc⟩ := arg_bytesR h0 g0 w0
  obtain ⟨k, rfl, hk⟩ := arg_int h1 g1
  obtain ⟨c, rfl⟩ := arg_u8 h2 g2
  have := hb.le
  have hkb := bounds_i64 hk
  exact sealTells_walk ao n cap l k c W hb (by omega) (by omega) (by omega)

end Go.Proofs.Ytgbfbhkpjmgipaa
