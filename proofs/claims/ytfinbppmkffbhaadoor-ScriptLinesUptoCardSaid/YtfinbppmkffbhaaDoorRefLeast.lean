/-
  WALK of the document's Least: how many numbers a verb has.
-/
import Derived.Test.YtfinbppmkffbhaaDoorScriptE0
import Derived.Test.YtfinbppmkffbhaaDoorLinePlain
import Derived.Test.YtfinbppmkffbhaaDoorScriptB
namespace Go.Proofs.YtfinbppmkffbhaaDoor
open Go.RowKit Go.Sort

theorem meas_ten (j : Nat) (h : j < 10) : (1048577 - ((j : Int) + 1)).toNat < (1048577 - (j : Int)).toNat := by omega
def leastV (v : List UInt8) : Value := if (boundsF v).2.2 = true then .tuple #[.int .i64 ((boundsF v).1 : Int), .int .i64 ((boundsF v).2.1 : Int)] else .tuple #[.int .i64 (-1), .int .i64 (-1)]
theorem str_var (s t : ByteArray) (h : s.data.toList = t.data.toList) : (s.toList == t.toList) = true := by
  rw [ByteArray.toList_eq, ByteArray.toList_eq, h]
  simp
theorem str_vne (s t : ByteArray) (h : s.data.toList ≠ t.data.toList) : (s.toList == t.toList) = false := by
  rw [ByteArray.toList_eq, ByteArray.toList_eq]
  exact beq_eq_false_iff_ne.2 h
def onesA : Array Value := #[.string ⟨#[100, 101, 108, 105, 118, 101, 114]⟩, .string ⟨#[108, 111, 115, 101]⟩, .string ⟨#[100, 111, 117, 98, 108, 101]⟩, .string ⟨#[115, 116, 97, 114, 116]⟩, .string ⟨#[114, 117, 105, 110]⟩, .string ⟨#[106, 111, 105, 110]⟩, .string ⟨#[97, 110, 101, 119]⟩, .string ⟨#[99, 97, 108, 109]⟩, .string ⟨#[115, 116, 97, 116, 101]⟩, .string ⟨#[97, 115, 107]⟩]
theorem ones_at (j : Nat) (h : j < 10) : onesA[j]? = some (.string ⟨(vOnes.getD j []).toArray⟩) := by
  have : j = 0 ∨ j = 1 ∨ j = 2 ∨ j = 3 ∨ j = 4 ∨ j = 5 ∨ j = 6 ∨ j = 7 ∨ j = 8 ∨ j = 9 := by omega
  rcases this with rfl | rfl | rfl | rfl | rfl | rfl | rfl | rfl | rfl | rfl <;> rfl
theorem ones_in (j : Nat) (h : j < 10) : vOnes.getD j [] ∈ vOnes := by
  have : j = 0 ∨ j = 1 ∨ j = 2 ∨ j = 3 ∨ j = 4 ∨ j = 5 ∨ j = 6 ∨ j = 7 ∨ j = 8 ∨ j = 9 := by omega
  rcases this with rfl | rfl | rfl | rfl | rfl | rfl | rfl | rfl | rfl | rfl <;> decide
theorem ones_all (v : List UInt8) (h : ∀ j, j < 10 → v ≠ vOnes.getD j []) : v ∉ vOnes := by
  intro hm
  obtain ⟨j, hj, e⟩ := List.getElem_of_mem hm
  refine h j (by simpa [vOnes] using hj) ?_
  rw [← e, List.getD_eq_getElem?_getD, List.getElem?_eq_getElem hj]
  rfl
set_option maxHeartbeats 4000000 in
set_option maxRecDepth 100000 in
theorem least_ref (s : ByteArray) (w : World) : Calls Tryd.prog 19 #[.string s] w fun e w' => e = .returned (leastV s.data.toList) ∧ Kp Noone w w' := by
  obtain ⟨v, hv⟩ : ∃ v, s.data.toList = v := ⟨_, rfl⟩
  rw [hv]
  have HV := Lib.hid hv
  clear hv
  have hb := heap_alloc_new w (.cells onesA 9)
  have HK : Hid (Kp Noone w (w.alloc (.cells onesA 9))) := Lib.hid ((Kp.refl _ _).alloc _)
  have HB := Lib.hid hb
  clear hb
  have hcell : ∀ j, j < 10 → (w.alloc (.cells onesA 9)).cell? ⟨w.heap.size, j, none⟩ = some (.string ⟨(vOnes.getD j []).toArray⟩) := fun j hj => by
    rw [cell_of_row _ _ j _ _ _ HB.out]
    exact ones_at j hj
  have HC := Lib.hid hcell
  clear hcell HB
  unfold onesA at HC HK
  go_enter Tryd.func19, Tryd.ntmps19
  go_upto_region 2 with fail
  generalize w.alloc (.cells #[.string ⟨#[100, 101, 108, 105, 118, 101, 114]⟩, .string ⟨#[108, 111, 115, 101]⟩, .string ⟨#[100, 111, 117, 98, 108, 101]⟩, .string ⟨#[115, 116, 97, 114, 116]⟩, .string ⟨#[114, 117, 105, 110]⟩, .string ⟨#[106, 111, 105, 110]⟩, .string ⟨#[97, 110, 101, 119]⟩, .string ⟨#[99, 97, 108, 109]⟩, .string ⟨#[115, 116, 97, 116, 101]⟩, .string ⟨#[97, 115, 107]⟩] 9) = w0 at *
  generalize hgs : w.heap.size = g at *
  clear hgs
  go_wp2_with fail
  go_loopw [9] (fun u wx => ∃ j : Nat, u = .int .i64 (j : Int) ∧ j ≤ 10 ∧ Hid (∀ i, i < j → v ≠ vOnes.getD i []) ∧ wx = w0) (fun u _ => (1048577 - intOf u).toNat)
  case atStart => exact ⟨0, rfl, Nat.zero_le _, Lib.hid (fun i hi => by omega), rfl⟩
  case round =>
    obtain ⟨j, rfl, hj, hno, rfl⟩ := hrel
    by_cases hlt : j < 10
    · have hltz : (j : Int) < 10 := by omega
      have hwj : IntKind.i64.wrap ((j : Int) + 1) = (j : Int) + 1 := IntWalk.i64_in _ (by omega)
      have hc := HC.out j hlt
      have HT : Hid ((⟨(vOnes.getD j []).toArray⟩ : ByteArray).data.toList = vOnes.getD j []) := Lib.hid (by simp)
      generalize (⟨(vOnes.getD j []).toArray⟩ : ByteArray) = t at *
      by_cases he : v = vOnes.getD j []
      · have q : (s.toList == t.toList) = true := str_var s t (by rw [HV.out, HT.out, he])
        have HR : Hid (leastV v = .tuple #[.int .i64 1, .int .i64 1]) := Lib.hid (by
          have hm : v ∈ vOnes := by rw [he]; exact ones_in j hlt
          have h0 : v ≠ vEvents := fun c => by rw [c] at hm; exact absurd hm (by decide)
          unfold leastV boundsF
          rw [if_neg h0, if_pos hm]
          rfl)
        clear he
        go_wp2_with fail
        go_ret2
        exact ⟨HR.out.symm ▸ rfl, HK.out⟩
      · have q : (s.toList == t.toList) = false := str_vne s t (by rw [HV.out, HT.out]; exact he)
        have HN : Hid (∀ i, i < j + 1 → v ≠ vOnes.getD i []) := Lib.hid (fun i hi => by
          by_cases e : i = j
          · subst e; exact he
          · exact hno.out i (by omega))
        clear he
        go_wp2_with fail
        go_roundw
        case rel => exact ⟨j + 1, rfl, hlt, HN, trivial⟩
        case measure => exact meas_ten j hlt
    · obtain rfl : j = 10 := by omega
      have hnm := ones_all v hno.out
      have hl : s.toList = v := (ByteArray.toList_eq s).trans HV.out
      have HNM := Lib.hid hnm
      clear hlt hno hnm HC HV
      by_cases hevents : v = [101, 118, 101, 110, 116, 115]
      · subst hevents
        go_wp2_with fail
        go_ret2
        exact ⟨rfl, HK.out⟩
      by_cases hfuse : v = [102, 117, 115, 101]
      · subst hfuse
        go_wp2_with fail
        go_ret2
        exact ⟨rfl, HK.out⟩
      by_cases hsend : v = [115, 101, 110, 100]
      · subst hsend
        go_wp2_with fail
        go_ret2
        exact ⟨rfl, HK.out⟩
      by_cases hinject : v = [105, 110, 106, 101, 99, 116]
      · subst hinject
        go_wp2_with fail
        go_ret2
        exact ⟨rfl, HK.out⟩
      by_cases htime : v = [116, 105, 109, 101]
      · subst htime
        go_wp2_with fail
        go_ret2
        exact ⟨rfl, HK.out⟩
      by_cases hcrash : v = [99, 114, 97, 115, 104]
      · subst hcrash
        go_wp2_with fail
        go_ret2
        exact ⟨rfl, HK.out⟩
      by_cases hchange : v = [99, 104, 97, 110, 103, 101]
      · subst hchange
        go_wp2_with fail
        go_ret2
        exact ⟨rfl, HK.out⟩
      by_cases hworld : v = [119, 111, 114, 108, 100]
      · subst hworld
        go_wp2_with fail
        go_ret2
        exact ⟨rfl, HK.out⟩
      by_cases hconfig : v = [99, 111, 110, 102, 105, 103]
      · subst hconfig
        go_wp2_with fail
        go_ret2
        exact ⟨rfl, HK.out⟩
      have HR : Hid (leastV v = .tuple #[.int .i64 (-1), .int .i64 (-1)]) := Lib.hid (by
        have hb : boundsF v = (0, 0, false) := by
          unfold boundsF
          rw [if_neg (show ¬ v = vEvents from hevents), if_neg HNM.out, if_neg (by simp [vTwos, vInject, hfuse, hsend, hinject]), if_neg (by simp [vTens, htime, hcrash, hchange]), if_neg (show ¬ v = vWorld from hworld), if_neg (show ¬ v = vConfig from hconfig)]
        unfold leastV
        rw [hb]
        rfl)
      have qevents := beq_eq_false_iff_ne.2 hevents
      have qfuse := beq_eq_false_iff_ne.2 hfuse
      have qsend := beq_eq_false_iff_ne.2 hsend
      have qinject := beq_eq_false_iff_ne.2 hinject
      have qtime := beq_eq_false_iff_ne.2 htime
      have qcrash := beq_eq_false_iff_ne.2 hcrash
      have qchange := beq_eq_false_iff_ne.2 hchange
      have qworld := beq_eq_false_iff_ne.2 hworld
      have qconfig := beq_eq_false_iff_ne.2 hconfig
      go_wp2_with fail
      go_ret2
      refine ⟨?_, HK.out⟩
      rw [HR.out]
      rfl

end Go.Proofs.YtfinbppmkffbhaaDoor
