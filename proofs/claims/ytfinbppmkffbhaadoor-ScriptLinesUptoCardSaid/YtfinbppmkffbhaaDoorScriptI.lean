/-
  WALK of the laws' head: answers that the document fixes.
-/
import Derived.Test.YtfinbppmkffbhaaDoorScriptH
import Derived.Test.YtfinbppmkffbhaaDoorDigits
namespace Go.Proofs.YtfinbppmkffbhaaDoor
open Go.RowKit Go.Sort

theorem itoa_dig (n : Int) (h0 : 0 ≤ n) (h : n < 10) : Lib.itoa n = [UInt8.ofNat (48 + n.natAbs)] := itoa_one_pos n h0 h
theorem numF_dig (n : Int) (h0 : 0 ≤ n) (h : n < 10) : numF [UInt8.ofNat (48 + n.natAbs)] = some n := by
  rw [← itoa_dig n h0 h]
  exact numF_itoa n (by omega) (by omega)
theorem show_21 : showL 2 1 = [50, 43, 49, 105] := by
  have h1 := itoa_dig 2 (by decide) (by decide)
  have h2 : Lib.decDigits (1 : Int).natAbs = [49] := Lib.decDigits_one (by decide)
  unfold showL
  rw [h1, h2]
  rfl
def cHead1 : CmdV := ⟨vAsk, [1], ⟨2, 0, 0, 2, 1⟩, []⟩
theorem head_read1 : readF [97, 115, 107, 32, 49, 32, 112, 117, 116, 32, 48, 32, 50, 43, 49, 105] = (cHead1, 0) := by
  have h1 := itoa_dig 1 (by decide) (by decide)
  have h0 := itoa_dig 0 (by decide) (by decide)
  have hl : lineF cHead1 = ([97, 115, 107, 32, 49, 32, 112, 117, 116, 32, 48, 32, 50, 43, 49, 105], 0) := by
    unfold lineF
    rw [if_neg (by decide), if_neg (by decide), if_neg (by decide)]
    unfold lineL lineW tailW wordsW cHead1
    simp only [if_true, List.map_cons, List.map_nil]
    rw [h1, h0, show_21]
    rfl
  exact read_line hl (by intro n hn; simp [cHead1] at hn; subst hn; decide)
def cHead2 : CmdV := ⟨vInject, [1, 9], op0, [10, 255]⟩
theorem head_line : lineF cHead2 = ([105, 110, 106, 101, 99, 116, 32, 49, 32, 57, 32, 120, 48, 97, 102, 102], 0) := by
  have h1 := itoa_dig 1 (by decide) (by decide)
  have h9 := itoa_dig 9 (by decide) (by decide)
  unfold lineF
  rw [if_neg (by decide), if_neg (by decide), if_neg (by decide)]
  unfold lineL lineW tailW cHead2
  simp only [List.map_cons, List.map_nil]
  rw [h1, h9]
  rfl
theorem head_read2 : readF [102, 117, 115, 101, 32, 49, 32, 48, 50] = (cmd0, 21) := by
  have h1 : numF [49] = some 1 := numF_dig 1 (by decide) (by decide)
  have h2 : numF [48, 50] = none := by
    unfold numF
    have e : Lib.atoiAll [48, 50] = .ok 2 := rfl
    rw [e]
    simp only []
    rw [itoa_dig 2 (by decide) (by decide), if_neg (by decide)]
  have hs : splitF 32 [102, 117, 115, 101, 32, 49, 32, 48, 50] = [[102, 117, 115, 101], [49], [48, 50]] := by decide
  unfold readF
  rw [hs]
  simp only [List.headD_cons, List.tail_cons]
  unfold readW
  rw [if_neg (by decide), if_neg (by decide)]
  have hc : countF [102, 117, 115, 101] [[(49 : UInt8)], [48, 50]].length = 2 := by decide
  rw [hc]
  have ht : [[(49 : UInt8)], [48, 50]].take 2 = [[49], [48, 50]] := rfl
  rw [ht]
  have hn : numsF [[49], [48, 50]] = none := by
    unfold numsF
    rw [h1]
    unfold numsF
    rw [h2]
  rw [hn]
set_option maxHeartbeats 8000000 in
set_option maxRecDepth 100000 in
theorem head_any (w : World) (hL : LaidS w) : Calls Tryd.prog 8 #[] w fun e w' => e = .returned (.bool true) ∧ Kp Noone w w' := by
  have HL := Lib.hid hL
  clear hL
  have h1 := fun W hW => readL_any ⟨#[97, 115, 107, 32, 49, 32, 112, 117, 116, 32, 48, 32, 50, 43, 49, 105]⟩ W (by decide) hW
  have h3 := fun W hW => readL_any ⟨#[102, 117, 115, 101, 32, 49, 32, 48, 50]⟩ W (by decide) hW
  go_enter Tryd.func8, Tryd.ntmps8
  go_wp2_with fail
  refine (h1 _ HL.out).mono ?_
  clear h1
  rintro e w1 ⟨k1, l1, hto, -⟩
  rw [head_read1] at hto
  have hto2 : e = .returned (.tuple #[.agg #[.string ⟨#[97, 115, 107]⟩, .slice l1.no 1 l1.nc, .int .i64 2, .int .i64 0, .int .i64 0, .int .i64 2, .int .i64 1, .slice l1.bo 0 l1.bc], .int .i64 0]) := hto
  subst hto2
  have HK1 := Lib.hid k1
  have hb1 := heap_alloc_new w1 (.cells #[.string ⟨#[97, 115, 107]⟩, .slice l1.no 1 l1.nc, .int .i64 2, .int .i64 0, .int .i64 0, .int .i64 2, .int .i64 1, .slice l1.bo 0 l1.bc] 27)
  have HKB : Hid (Kp Noone w1 (w1.alloc (.cells #[.string ⟨#[97, 115, 107]⟩, .slice l1.no 1 l1.nc, .int .i64 2, .int .i64 0, .int .i64 0, .int .i64 2, .int .i64 1, .slice l1.bo 0 l1.bc] 27))) := Lib.hid ((Kp.refl _ _).alloc _)
  clear hto k1
  go_upto_region 2 with fail
  generalize w1.alloc (.cells #[.string ⟨#[97, 115, 107]⟩, .slice l1.no 1 l1.nc, .int .i64 2, .int .i64 0, .int .i64 0, .int .i64 2, .int .i64 1, .slice l1.bo 0 l1.bc] 27) = w2 at *
  generalize w1.heap.size = g1 at *
  have HB1 := Lib.hid hb1
  clear hb1
  have HK2 := Lib.hid (HK1.out.trans HKB.out)
  have HKC : Hid (Kp Noone w2 ((w2.alloc (.cells #[.int .i64 1, .int .i64 9] 3)).alloc (.cells #[.int .u8 10, .int .u8 255] 5))) := Lib.hid (((Kp.refl _ _).alloc _).alloc _)
  have HCA : Hid (CmdAt ((w2.alloc (.cells #[.int .i64 1, .int .i64 9] 3)).alloc (.cells #[.int .u8 10, .int .u8 255] 5)) cHead2 ⟨some ⟨w2.heap.size, 0, none⟩, 2, some ⟨w2.heap.size + 1, 0, none⟩, 2⟩) := Lib.hid (by
    have e1 : (w2.alloc (.cells #[.int .i64 1, .int .i64 9] 3)).heap.size = w2.heap.size + 1 := by simp
    have r1 : Row (w2.alloc (.cells #[.int .i64 1, .int .i64 9] 3)) (some ⟨w2.heap.size, 0, none⟩) [.int .i64 1, .int .i64 9] := Row.ofHeap (heap_alloc_new w2 _)
    have r2 := Row.ofHeap (heap_alloc_new (w2.alloc (.cells #[.int .i64 1, .int .i64 9] 3)) (.cells #[.int .u8 10, .int .u8 255] 5))
    rw [e1] at r2
    exact ⟨⟨rfl, Nat.le_refl _, (show 2 ≤ maxLen by decide), r1.keep ((Kp.refl _ _).alloc _)⟩, ⟨rfl, Nat.le_refl _, (show 2 ≤ maxLen by decide), r2⟩, by decide, by decide, by decide, (by intro n hn; simp [cHead2] at hn; rcases hn with rfl | rfl <;> decide), by decide⟩)
  have h2 := fun W hC hL => line_any cHead2 ⟨some ⟨w2.heap.size, 0, none⟩, 2, some ⟨w2.heap.size + 1, 0, none⟩, 2⟩ W hC hL
  have hlv : lineV cHead2 = .tuple #[.string ⟨#[105, 110, 106, 101, 99, 116, 32, 49, 32, 57, 32, 120, 48, 97, 102, 102]⟩, .int .i64 0] := by unfold lineV; rw [head_line]; rfl
  rw [hlv] at h2
  clear hlv
  go_wp2_with fail
  refine (h2 _ HCA.out (HL.out.keep (HK2.out.trans HKC.out)).laid).mono ?_
  clear h2
  rintro e w3 ⟨rfl, k3⟩
  have HK3 := Lib.hid (HK2.out.trans (HKC.out.trans k3))
  have HB3 := Lib.hid ((HKC.out.trans k3).heap HB1.out id)
  clear k3
  go_wp2_with fail
  refine (h3 _ (HL.out.keep HK3.out)).mono ?_
  clear h3
  rintro e w4 ⟨k4, l4, hto, -⟩
  rw [head_read2] at hto
  have hto2 : e = .returned (.tuple #[.agg #[.string ⟨#[]⟩, .slice l4.no 0 l4.nc, .int .i64 0, .int .i64 0, .int .i64 0, .int .i64 0, .int .i64 0, .slice l4.bo 0 l4.bc], .int .i64 21]) := hto
  subst hto2
  have HK4 := Lib.hid (HK3.out.trans k4)
  have HKD : Hid (Kp Noone w4 (w4.alloc (.cells #[.string ⟨#[]⟩, .slice l4.no 0 l4.nc, .int .i64 0, .int .i64 0, .int .i64 0, .int .i64 0, .int .i64 0, .slice l4.bo 0 l4.bc] 27))) := Lib.hid ((Kp.refl _ _).alloc _)
  have hb4 := HKD.out.heap (k4.heap HB3.out id) id
  clear hto k4
  go_upto_region 4 with fail
  generalize w4.alloc (.cells #[.string ⟨#[]⟩, .slice l4.no 0 l4.nc, .int .i64 0, .int .i64 0, .int .i64 0, .int .i64 0, .int .i64 0, .slice l4.bo 0 l4.bc] 27) = w5 at *
  obtain ⟨z0, z1, z2, z3, z4, z5, z6, z7⟩ := cells_8f hb4
  clear hb4
  go_wp2_with fail
  go_ret
  exact ⟨rfl, HK4.out.trans HKD.out⟩

end Go.Proofs.YtfinbppmkffbhaaDoor
