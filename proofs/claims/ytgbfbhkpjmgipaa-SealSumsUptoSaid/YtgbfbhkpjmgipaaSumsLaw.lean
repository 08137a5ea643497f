/-
  SealSums: for every input within the bound the law returns true, and nothing that was there has changed.
-/
import Derived.Test.YtgbfbhkpjmgipaaSeal
import Derived.Test.YtgbfbhkpjmgipaaCol
import Derived.Test.YtgbfbhkpjmgipaaRead
namespace Go.Proofs.Ytgbfbhkpjmgipaa
open Go.RowKit Go.WideShapes Go.Deep

/-- A copy of each of the pieces, in memory of its own. -/
def Mine (F : Nat → Prop) (w : World) (hs : List (Option Addr × Nat × Nat)) (ls : List (List UInt8)) : Prop :=
  hs.length = ls.length ∧ ∀ i (h1 : i < hs.length) (h2 : i < ls.length), Own F w 5 1 hs[i].1 hs[i].2.1 hs[i].2.2 (bv ls[i])
def heads (hs : List (Option Addr × Nat × Nat)) : List Value := hs.map fun h => .slice h.1 h.2.1 h.2.2

theorem Mine.map {F G : Nat → Prop} {w w' : World} {hs : List (Option Addr × Nat × Nat)} {ls : List (List UInt8)} (h : Mine F w hs ls) (f : ∀ ao n cap xs, Own F w 5 1 ao n cap xs → Own G w' 5 1 ao n cap xs) : Mine G w' hs ls :=
  ⟨h.1, fun i a b => f _ _ _ _ (h.2 i a b)⟩
theorem Mine.snoc {F : Nat → Prop} {w : World} {hs : List (Option Addr × Nat × Nat)} {ls : List (List UInt8)} (h : Mine F w hs ls) {ao : Option Addr} {n cap : Nat} {l : List UInt8} (ho : Own F w 5 1 ao n cap (bv l)) :
    Mine F w (hs ++ [(ao, n, cap)]) (ls ++ [l]) := by
  refine ⟨by simp [h.1], fun i h1 h2 => ?_⟩
  by_cases hi : i < hs.length
  · have hi' : i < ls.length := by rw [← h.1]; exact hi
    simp only [List.getElem_append_left hi, List.getElem_append_left hi']
    exact h.2 i hi hi'
  · have e1 : i = hs.length := by simp at h1; omega
    have e2 : i = ls.length := by rw [← h.1]; exact e1
    have g1 : (hs ++ [(ao, n, cap)])[i] = (ao, n, cap) := by rw [List.getElem_append_right (by omega)]; simp
    have g2 : (ls ++ [l])[i] = l := by rw [List.getElem_append_right (by omega)]; simp
    rw [g1, g2]
    exact ho
theorem Mine.bss {F G : Nat → Prop} {w : World} {hs : List (Option Addr × Nat × Nat)} {ls : List (List UInt8)} {ao : Option Addr} {n cap : Nat} (h : Mine F w hs ls) (ho : Own G w 24 1 ao n cap (heads hs)) : BSS w ao n cap ls := by
  have hl : hs.length = n := by have := ho.1; simpa [heads] using this
  exact ⟨by rw [← h.1]; exact hl, ho.2.1, ho.2.2.1, hs, hl, ho.row, fun i a b => (h.2 i a b).bs⟩
theorem heads_one (hs : List (Option Addr × Nat × Nat)) : ∀ u ∈ heads hs, u.oneCell' = true := by
  intro u hu
  obtain ⟨_, _, rfl⟩ := List.mem_map.1 hu
  rfl

theorem info_bytes : (Try.prog.info? 24).map (fun i => (i.zero, i.size, i.bytes)) = some (some (.slice none 0 0), 1, 24) := by kernel_rfl

theorem flatten_take_le (ls : List (List UInt8)) (k : Nat) : (ls.take k).flatten.length ≤ ls.flatten.length := by
  have h : ls.flatten = (ls.take k).flatten ++ (ls.drop k).flatten := by rw [← List.flatten_append, List.take_append_drop]
  rw [h, List.length_append]; omega

set_option maxHeartbeats 2000000 in
theorem sealSums_walk (ao : Option Addr) (n cap : Nat) (ls : List (List UInt8)) (W : World) (hb : BSS W ao n cap ls) (hn : n ≤ 1048576) (hT : ls.flatten.length ≤ 1048576) :
    Calls Try.prog 3 #[.slice ao n cap] W fun e w' => e = .returned (.bool true) ∧ Kp Noone W w' := by
  obtain ⟨i0, hi, hz0, hz1, hz2⟩ := info_parts info_u8
  obtain ⟨i1, hj, hy0, hy1, hy2⟩ := info_parts info_bytes
  have HL := Lib.hid hb.len
  go_enter Try.func3, Try.ntmps3
  go_wp2_with fail
  refine (head2_any _).mono ?_
  rintro e w1 ⟨rfl, k01⟩
  go_wp2_with fail
  have s01 := k01.size
  generalize hw2 : (w1.alloc (.cells #[] 5)).alloc (.cells #[] 24) = w2
  have k02 : Kp Noone W w2 := by rw [← hw2]; exact (k01.alloc _).alloc _
  have hb2 := hb.keep k02
  have s02 := k02.size
  clear hw2
  go_loopw [3, 4, 15] (fun va vm i wr => ∃ (k : Nat) (col : Nat → Nat) (ao1 : Option Addr) (n1 c1 : Nat) (ao2 : Option Addr) (c2 : Nat) (hs : List (Option Addr × Nat × Nat)), k ≤ n ∧ i = .int .i64 k ∧
      va = .slice ao1 n1 c1 ∧ vm = .slice ao2 k c2 ∧ Cols W.heap.size wr col ∧ Own (Col col 1) wr 5 1 ao1 n1 c1 (bv (ls.take k).flatten) ∧ Own (Col col 2) wr 24 1 ao2 k c2 (heads hs) ∧ Mine (Col col 3) wr hs (ls.take k) ∧ Kp Noone W wr)
    (fun _ _ i _ => n - (intOf i).toNat)
  case atStart => exact ⟨0, fun _ => 0, _, 0, 0, _, 0, [], Nat.zero_le _, rfl, rfl, rfl, Cols.zero _ _, Own.nil _ _ _ _ _, Own.nil _ _ _ _ _, ⟨rfl, fun i h => by simp at h⟩, k02⟩
  case round =>
    obtain ⟨k, col, ao1, n1, c1, ao2, c2, hs, hk, rfl, rfl, rfl, hcol, ho1, ho2, hmine, k0r⟩ := hrel
    by_cases hlt : k < n
    · obtain ⟨b, off, bo, m, c, hl, rfl, _, hckW, hB⟩ := hb.at hlt
      have hck := k0r.cell hckW id
      have hn1 : n1 = (ls.take k).flatten.length := by have := ho1.1; rw [length_bv] at this; omega
      have hf1 := flat_snoc ls k hl
      have hf2 := flatten_take_le ls (k + 1)
      have hf3 : (ls.take (k + 1)).flatten.length = n1 + m := by rw [hf1, List.length_append, hn1, hB.len]
      have HF := Lib.hid hf1
      have HT := Lib.hid (List.take_succ_eq_append_getElem hl)
      have s0r := k0r.size
      have HM := Lib.hid hB.len
      have hnm : n1 + m ≤ 1048576 := by omega
      clear hf1 hf2 hf3 hn1 hb hb2 hckW
      generalize ls[k] = l at *
      go_wp2_with (at_builtin; refine wpList_append_gen _ rfl (.tmp 19) (.tmp 20) 24 rfl 5 i0 (.int .u8 0) 1 1 Try.underlying24 hi hz0 hz1 hz2 rfl ao1 n1 c1 rfl bo m c rfl _ _ ho1 (bv l) (by rw [length_bv, HM.out, Nat.mul_one]) (hB.keep k0r).row (bv_one _) (by omega) (by unfold maxLen; omega) ?_)
      intro ao1' c1' w3 ho3 k3
      have hc3 := hcol.paint s0r k3.size 1
      have ho1' := ho3.painted
      have ho2' := ho2.other hcol (by omega) (by omega) k3 1
      have hm' := hmine.map (fun _ _ _ _ h => h.other hcol (by omega) (by omega) k3 1)
      have k03 := k0r.col (Nat.le_refl _) hcol (by omega) k3
      have s03 := k03.size
      clear ho3 ho1 ho2 hmine hcol k3 hck k0r
      go_wp2_with fail
      refine (copy_exact _ _ _ l _ (hB.keep k03) (by omega)).mono ?_
      rintro e w4 ⟨rfl, hw4⟩
      have k34 : Kp Noone w3 w4 := by rw [hw4]; exact (Kp.refl _ _).alloc _
      have hcopy : Own (Ex Noone w3 w4) w4 5 1 (some ⟨w3.heap.size, 0, none⟩) m m (bv l) :=
        Own.fresh (Or.inr ⟨Nat.le_refl _, by rw [hw4]; simp⟩) (by rw [hw4]; exact heap_alloc_new w3 _) (by rw [length_bv, HM.out, Nat.mul_one]) (by unfold maxLen; omega)
      have hc4 := hc3.paint s03 k34.size 3
      have ho1'' := ho1'.aside hc3 (by omega) k34 3
      have ho2'' := ho2'.aside hc3 (by omega) k34 3
      have hm'' := (hm'.map (fun _ _ _ _ h => h.aside hc3 (by omega) k34 3)).snoc hcopy.born
      have k04 := k03.trans k34
      have s04 := k04.size
      clear hw4 hcopy hc3 ho1' ho2' hm' k34 k03
      generalize paint (paint col _ _ 1) w3 w4 3 = col4 at *
      have kal : ∀ o : Obj, Kp Noone w4 (w4.alloc o) := fun o => (Kp.refl _ _).alloc o
      go_wp2_with (at_builtin; refine wpList_append_gen _ rfl (.tmp 22) (.tmp 25) 22 rfl 24 i1 (.slice none 0 0) 1 24 Try.underlying22 hj hy0 hy1 hy2 rfl ao2 k c2 rfl (some ⟨w4.heap.size, 0, none⟩) 1 1 rfl _ _ (ho2''.keep (kal _)) [.slice (some ⟨w3.heap.size, 0, none⟩) m m] rfl (Row.ofHeap (heap_alloc_new w4 _)) (by intro u hu; simp at hu; subst hu; rfl) (by omega) (by unfold maxLen; omega) ?_)
      intro ao2' c2' w5 ho5 k5
      have hcA : Cols W.heap.size (w4.alloc (.cells #[.slice (some ⟨w3.heap.size, 0, none⟩) m m] 24)) col4 := hc4.keep (kal _).size
      have s0A : W.heap.size ≤ (w4.alloc (.cells #[.slice (some ⟨w3.heap.size, 0, none⟩) m m] 24)).heap.size := Nat.le_trans s04 (kal _).size
      have hc5 := hcA.paint s0A k5.size 2
      have e1 := (ho1''.keep (kal _)).other hcA (by omega) (by omega) k5 2
      have e2 := ho5.painted
      have e3 := (hm''.map (fun _ _ _ _ h => (h.keep (kal _)).other hcA (by omega) (by omega) k5 2))
      have k05 := (k04.trans (kal _)).col (Nat.le_refl _) hcA (by omega) k5
      clear ho5 k5 hcA s0A ho1'' ho2'' hm'' kal hc4
      go_wp2
      go_roundw
      case rel =>
        refine ⟨k + 1, _, ao1', n1 + m, c1', ao2', c2', hs ++ [(some ⟨w3.heap.size, 0, none⟩, m, m)], by omega, by go_num, rfl, rfl, hc5, ?_, ?_, ?_, k05⟩
        · rw [HF.out, ← bv_append]; exact e1
        · have : heads (hs ++ [(some ⟨w3.heap.size, 0, none⟩, m, m)]) = heads hs ++ [.slice (some ⟨w3.heap.size, 0, none⟩) m m] := by simp [heads]
          rw [this]; exact e2
        · rw [HT.out]; exact e3
      case measure => simp [intOf]; omega
    · obtain rfl : k = n := by omega
      have ht : ls.take k = ls := List.take_of_length_le (by rw [HL.out]; omega)
      rw [ht] at ho1 hmine
      have hn1 : n1 = ls.flatten.length := by have := ho1.1; rw [length_bv] at this; omega
      have hn1b : n1 ≤ 1048576 := by omega
      have HN := Lib.hid hn1
      clear ht hn1 hb2
      have hbs := hmine.bss ho2
      have hal := ho1.bs
      have hbr := hb.keep k0r
      clear ho1 ho2 hmine hb
      obtain ⟨wx, hwx⟩ : ∃ wx, wx = wr := ⟨_, rfl⟩
      subst hwx
      go_wp2_with fail
      refine (sum_any _ _ _ ls _ hbs).mono ?_
      rintro e w' ⟨rfl, rfl⟩
      go_wp2_with fail
      refine (refSum_any _ _ _ _ _ hal (by omega)).mono ?_
      rintro e w' ⟨rfl, rfl⟩
      go_wp2_with fail
      refine (sum_any _ _ _ [ls.flatten] _ (BSS.one (bo := ao1) (m := n1) (c := c1) (by go_simp) (hal.keep ((Kp.refl _ _).alloc _)))).mono ?_
      rintro e w' ⟨rfl, rfl⟩
      rw [show [ls.flatten].flatten = ls.flatten from by simp]
      go_wp2_with fail
      refine (refSum_any _ _ _ _ _ (hal.keep ((Kp.refl _ _).alloc _)) (by omega)).mono ?_
      rintro e w' ⟨rfl, rfl⟩
      generalize hwy : wx.alloc _ = wy
      have kxy : Kp Noone wx wy := by rw [← hwy]; exact (Kp.refl _ _).alloc _
      have hby := hbr.keep kxy
      have hms := hbs.keep kxy
      have k0y := k0r.trans kxy
      clear hwy
      go_wp2_with fail
      go_loopw [7, 43] (fun v i wr => ∃ (j : Nat) (q : Nat), j ≤ k ∧ i = .int .i64 j ∧ v = .bool true ∧ wr = wy.drewN q) (fun _ i _ => k - (intOf i).toNat)
      case atStart => exact ⟨0, 0, Nat.zero_le _, rfl, by simp, rfl⟩
      case round =>
        obtain ⟨j, q, hj', rfl, rfl, hwr⟩ := hrel
        have kr : Kp Noone wy wr := by rw [hwr]; exact (Kp.refl _ _).drewN _
        have HW := Lib.hid hwr
        clear hwr
        by_cases hlt : j < k
        · obtain ⟨b, off, bo, m, c, hl, rfl, _, hck, hB⟩ := (hby.keep kr).at hlt
          obtain ⟨b', off', bo', m', c', _, rfl, _, hck', hB'⟩ := (hms.keep kr).at hlt
          have hm : m' ≤ 9223372036854775807 := by have h1 := hB'.le; have h2 := hB'.max; unfold maxLen at h2; omega
          clear hby hms hbs hal hbr
          generalize ls[j] = l at *
          go_wp2
          go_quiet ((go_at_call 18; exact Calls.quiet_of (same_any _ _ _ _ _ _ l l _ (by exact hB'.keep ((Kp.refl _ _).drewN _)) (by exact hB.keep ((Kp.refl _ _).drewN _)) hm)))
          go_wp2
          go_roundw
          case rel => exact ⟨j + 1, _, by omega, by go_num, by simp, by rw [HW.out, World.drewN_drewN]⟩
          case measure => simp [intOf]; omega
        · go_wp2
          go_ret
          exact ⟨rfl, k0y.trans kr⟩

theorem sealSums_core {H : Type} {enc : TypeId × Value → H} (W : World) (base : Nat) (v0 : Value) (d0 : DataW H) (p0 : List MemPlace)
    (h0 : DataW.Trod enc Try.prog W 0 (fun _ => true) true 22 v0 d0 p0) (g0 : Value.okWide Try.prog W .any base 22 v0)
    (hk : Rows.uptoBulkAll [d0] ≤ 1048576) :
    Calls Try.prog 3 #[v0] W fun e w' => e = .returned (.bool true) ∧ Kp Noone W w' := by
  obtain ⟨ao, n, cap, ls, rfl, hb, hc⟩ := arg_bss h0 g0
  simp only [Rows.uptoBulkAll] at hk
  exact sealSums_walk ao n cap ls W hb (by omega) (by omega)

end Go.Proofs.Ytgbfbhkpjmgipaa
