/-
  THE WALK of strings.LastIndexAny at the signs + and -, over any text.
-/
import Derived.Test.YtfinbppmkffbhaaDoorGaussShow
import Derived.Test.YtfinbppmkffbhaaDoorSigns
import Derived.Test.YtfinbppmkffbhaaDoorLastPM
import Derived.Lib.TrimU
import Derived.Lib.AsciiSet
import Derived.Deep.WholeRow
import Derived.Deep.Cut
import Derived.Deep.LoopGhost
namespace Go.Proofs.YtfinbppmkffbhaaDoor
open Go.RowKit Go.Sort

theorem contains_pm (b : UInt8) : ([43, 45] : List UInt8).contains b = isPM b := by
  unfold isPM
  cases h1 : (b == 43) <;> cases h2 : (b == 45) <;> simp_all
def pmS : ByteArray := ⟨#[43, 45]⟩
set_option maxHeartbeats 8000000 in
set_option maxRecDepth 1000000 in
theorem lastAny_long (s : ByteArray) (w : World) (h8 : 8 < s.size) (hs : s.size ≤ 9223372036854775806) :
    Calls Tryd.prog 43 #[.string s, .string ⟨#[43, 45]⟩] w fun e w' => e = .returned (.int .i64 (lastPM s.data.toList s.size)) ∧ Kp Noone w w' := by
  have hz := zero_of_info (P := Tryd.prog) (t := 97) (v := .agg (Array.replicate 256 (.bool false))) (n := 256) (by kernel_rfl)
  have hM := fun W => Tryd.strings_makeASCIISet hz.1 ⟨#[43, 45]⟩ W (by decide) (by
    intro j b hb
    have h := List.mem_of_getElem? hb
    simp at h
    rcases h with rfl | rfl <;> decide)
  have hh := fun W => Tryd.strings_shouldUseASCIISet (s.size : Int) W
  have h8z : decide ((8 : Int) < (s.size : Int)) = true := decide_eq_true (by omega)
  have hn1 : ((s.size : Int) == 1) = false := beq_eq_false_iff_ne.2 (by omega)
  rw [h8z] at hh
  have hsc : (storeCells ⟨w.heap.size + 1, 0, none⟩ (Lib.setCells [43, 45]).toList 0).run Tryd.prog ((w.alloc (.cells (Lib.setCells [43, 45]) 97)).alloc (.cells (Tryd.zeroCells97) 97)) = .ok () ((w.alloc (.cells (Lib.setCells [43, 45]) 97)).alloc (.cells (Lib.setCells [43, 45]) 97)) := by
    have := run_storeCells_new (P := Tryd.prog) (w.alloc (.cells (Lib.setCells [43, 45]) 97)) 97 (Tryd.zeroCells97) (Lib.setCells [43, 45]) (by rw [Lib.setCells_size]; exact hz.2) (by rw [Lib.setCells_size]; exact (show (Tryd.zeroCells97).size = 256 by kernel_rfl).symm) (Lib.setCells_one _)
    simpa using this
  have hcellAt : ∀ x : UInt8, ((w.alloc (.cells (Lib.setCells [43, 45]) 97)).alloc (.cells (Lib.setCells [43, 45]) 97)).cell? ⟨w.heap.size + 1, x.toNat, none⟩ = some (.bool (isPM x)) := fun x => by
    rw [World.cell?_alloc_at _ _ _ _ (by simp), Lib.setCells_at, contains_pm]
  have HC := Lib.hid hcellAt
  have kB : Kp Noone w ((w.alloc (.cells (Lib.setCells [43, 45]) 97)).alloc (.cells (Lib.setCells [43, 45]) 97)) := ((Kp.refl _ _).alloc _).alloc _
  have HKB := Lib.hid kB
  have hl : s.data.toList.length = s.size := by rw [Array.length_toList]; rfl
  have HL := Lib.hid hl
  clear hcellAt hz kB hl
  have hw1 : IntKind.i64.wrap ((s.size : Int) - 1) = (s.size : Int) - 1 := IntWalk.i64_in _ (by omega)
  go_enter Tryd.func43, Tryd.ntmps43
  go_wp2_with (first
    | (go_at_call 55; refine (hh _).mono ?_; rintro e w' ⟨rfl, hw⟩; rw [hw])
    | (go_at_call 56; refine (hM _).mono ?_; rintro e w' ⟨rfl, hw⟩; rw [hw]))
  clear hM hsc hh
  generalize ((w.alloc (.cells (Lib.setCells [43, 45]) 97)).alloc (.cells (Lib.setCells [43, 45]) 97)) = wB at *
  clear hw1
  go_loopw [8] (fun v wx => wB = wx ∧ ∃ k : Nat, k ≤ s.size ∧ v = .int .i64 ((k : Int) - 1) ∧ lastPM s.data.toList s.size = lastPM s.data.toList k) (fun v _ => (intOf v + 1).toNat)
  case atStart => exact ⟨rfl, s.size, Nat.le_refl _, rfl, rfl⟩
  case round =>
    obtain ⟨rfl, k, hk, rfl, he⟩ := hrel
    have HE := Lib.hid he
    clear he
    cases k with
    | zero =>
      go_wp2_with fail
      go_ret
      exact ⟨by rw [HE.out]; rfl, HKB.out⟩
    | succ k =>
      have hi : k < s.size := by omega
      have hiz : (k : Int) < (s.size : Int) := by omega
      have hge : (0 : Int) ≤ (k : Int) := by omega
      have hwm : IntKind.i64.wrap ((k : Int) - 1) = (k : Int) - 1 := IntWalk.i64_in _ (by omega)
      obtain ⟨x, hx⟩ : ∃ x : UInt8, s[k]'hi = x := ⟨_, rfl⟩
      have hxl : s.data.toList.getD k 0 = x := by
        have h1 := Lib.data_getElem? s k hi
        rw [hx] at h1
        rw [List.getD_eq_getElem?_getD, h1]
        rfl
      have HX := Lib.hid hxl
      have hcx := HC.out x
      rw [show ((k + 1 : Nat) : Int) - 1 = (k : Int) by omega]
      clear hxl
      cases hin : isPM x <;> rw [hin] at hcx
      · go_wp2_with (go_at_call 57; refine (Tryd.asciiSet_contains _ x _ _ hcx).mono ?_; rintro e w' ⟨rfl, hw⟩; rw [hw])
        go_roundw
        case rel => exact ⟨trivial, k, by omega, rfl, by rw [HE.out, lastPM_succ, HX.out, hin]; rfl⟩
        case measure => simp [intOf]
      · go_wp2_with (go_at_call 57; refine (Tryd.asciiSet_contains _ x _ _ hcx).mono ?_; rintro e w' ⟨rfl, hw⟩; rw [hw])
        go_ret
        exact ⟨by rw [HE.out, lastPM_succ, HX.out, hin]; rfl, HKB.out⟩

end Go.Proofs.YtfinbppmkffbhaaDoor
