/-
  THE WALKS of the two Right (which texts are names), and the law DiskRights.
-/
import Derived.Test.YtmmdojnjognccaaApp
import Derived.Test.YtmmdojnjognccaaSame
namespace Go.Proofs.Ytmmdojnjognccaa
open Go.RowKit

/-- A byte of a name. -/
def okc (c : UInt8) : Bool := decide (97 ≤ c.toNat ∧ c.toNat ≤ 122) || decide (48 ≤ c.toNat ∧ c.toNat ≤ 57) || decide (c.toNat = 45)
def rightL (l : List UInt8) : Bool := decide (0 < l.length) && decide (l.length ≤ 24) && l.all okc

/-! ### A string's bytes, as a slice -/
def convC (s : ByteArray) (w : World) : Nat := grownCap w s.size 0 5
def convW (s : ByteArray) (w : World) : World :=
  w.drew.alloc (.cells (bytesRow s (convC s w)) 5 ((bytesRow s (convC s w)).size, (bytesRow s (convC s w)).size + 1))
theorem run_conv (s : ByteArray) (w : World) : (convert 9 22 (.string s)).run Try.prog w = .ok (.slice (some ⟨w.heap.size, 0, none⟩) s.size (convC s w)) (convW s w) :=
  run_bytes_of_string w 9 22 5 s Try.underlying9 Try.underlying22 Try.underlying5
theorem convW_kp (s : ByteArray) (w : World) : Kp Noone w (convW s w) := ((Kp.refl _ _).drew).alloc _
theorem length_bytes (s : ByteArray) : s.data.toList.length = s.size := by rw [Array.length_toList]; rfl
theorem convW_bs (s : ByteArray) (w : World) (hs : s.size ≤ maxLen) : BS (convW s w) (some ⟨w.heap.size, 0, none⟩) s.size (convC s w) s.data.toList := by
  refine ⟨length_bytes s, grownCap_ge _ _ _ _, grownCap_le_maxLen _ _ _ _ hs, Or.inr ⟨w.heap.size, 0, rfl, fun i hi => ?_⟩⟩
  have hi' : i < s.data.size := by simpa [bv] using hi
  rw [cell_of_row (convW s w) w.heap.size _ _ 5 _ (heap_alloc_new w.drew _)]
  simp only [bytesRow, Nat.zero_add]
  rw [Array.getElem?_append_left (by simpa using hi')]
  simp [bv, U8]
  exact ⟨s.data[i], by simp, rfl⟩

theorem all_take_succ {l : List UInt8} {k : Nat} (h : k < l.length) : (l.take (k + 1)).all okc = ((l.take k).all okc && okc l[k]) := by
  rw [take_snoc l k h, List.all_append]; simp

theorem right_bad {l : List UInt8} {k : Nat} (h : k < l.length) (hb : okc l[k] = false) : rightL l = false := by
  have : l.all okc = false := by
    rw [List.all_eq_false]
    exact ⟨l[k], List.getElem_mem h, by simp [hb]⟩
  simp [rightL, this]

set_option maxHeartbeats 1000000 in
theorem right_any (s : ByteArray) (w : World) (hs : s.size ≤ 9223372036854775807) :
    Calls Try.prog 37 #[.string s] w fun e w' => e = .returned (.bool (rightL s.data.toList)) ∧ Kp Noone w w' := by
  have hl := length_bytes s
  by_cases h0 : s.size = 0
  · have e1 : s.toList = [] := by rw [ByteArray.toList_eq]; exact List.eq_nil_of_length_eq_zero (by omega)
    have e2 : s.toList.isEmpty = true := by rw [e1]; rfl
    have HF : Hid (rightL s.data.toList = false) := by
      show rightL s.data.toList = false
      rw [List.eq_nil_of_length_eq_zero (show s.data.toList.length = 0 by omega)]; rfl
    clear h0 hl
    go_enter Try.func37, Try.ntmps37
    go_wp2
    go_ret
    exact ⟨by rw [HF.out]; rfl, Kp.refl _ _⟩
  · have e2 : s.toList.isEmpty = false := by
      rw [ByteArray.toList_eq]
      cases h : s.data.toList with
      | nil => rw [h] at hl; simp at hl; omega
      | cons => rfl
    have e3 : ¬ s.toList = [] := by intro h; rw [h] at e2; simp at e2
    have h1 : 1 ≤ s.size := by omega
    have HL := Lib.hid hl
    clear h0 hl
    by_cases h24 : 24 < s.size
    · have HF : Hid (rightL s.data.toList = false) := by
        show rightL s.data.toList = false
        unfold rightL; rw [HL.out, decide_eq_false (show ¬ s.size ≤ 24 by omega)]; simp
      go_enter Try.func37, Try.ntmps37
      go_wp2
      go_ret
      exact ⟨by rw [HF.out]; rfl, Kp.refl _ _⟩
    · have kc := run_conv s
      have hb := convW_bs s w (by unfold maxLen; omega)
      have hk := convW_kp s w
      go_enter Try.func37, Try.ntmps37
      go_wp2
      clear kc
      generalize convW s w = w1 at *
      generalize convC s w = cc at *
      generalize s.size = n at *
      go_loop [15] (fun i => ∃ k : Nat, k ≤ n ∧ i = .int .i64 k ∧ (s.data.toList.take k).all okc = true) (fun i => n - (intOf i).toNat)
      case atStart => exact ⟨0, Nat.zero_le _, rfl, by simp⟩
      case round =>
        obtain ⟨k, hk', rfl, hall⟩ := hrel
        have HA := Lib.hid hall
        clear hall
        by_cases hlt : k < n
        · obtain ⟨b, off, hlk, hao, _, hck⟩ := hb.at hlt
          simp only [Option.some.injEq, Addr.mk.injEq] at hao
          obtain ⟨rfl, rfl, _⟩ := hao
          rw [Nat.zero_add] at hck
          have HS := Lib.hid (all_take_succ hlk)
          have HB := Lib.hid (right_bad hlk)
          generalize s.data.toList[k] = x at *
          clear hb
          have key : (x.toNat < 45 ∨ 45 < x.toNat ∧ x.toNat < 48 ∨ 57 < x.toNat ∧ x.toNat < 97 ∨ 122 < x.toNat) ∨ (x.toNat = 45 ∨ 48 ≤ x.toNat ∧ x.toNat ≤ 57 ∨ 97 ≤ x.toNat ∧ x.toNat ≤ 122) := by omega
          rcases key with h | h
          · have HF : Hid (okc x = false) := by
              show okc x = false
              unfold okc; simp; omega
            have hq : ((x.toNat : Int) != 45) = true := by rw [bne_iff_ne]; omega
            rcases h with h | h | h | h
            all_goals
              go_wp2
              go_ret
              exact ⟨by rw [HB.out HF.out]; rfl, hk⟩
          · have HT : Hid (okc x = true) := by
              show okc x = true
              unfold okc; simp; omega
            rcases h with h | h | h
            all_goals
              go_wp2
              go_round
              case rel => exact ⟨k + 1, by omega, by go_num, by rw [HS.out, HA.out, HT.out]; rfl⟩
              case measure => simp [intOf]; omega
        · go_wp2
          go_ret
          refine ⟨ret_eq ?_, hk⟩
          have h2 := HA.out
          rw [List.take_of_length_le (by rw [HL.out]; omega)] at h2
          rw [rightL, HL.out, h2, decide_eq_true (show 0 < n by omega), decide_eq_true (show n ≤ 24 by omega)]
          rfl

set_option maxHeartbeats 1000000 in
theorem refRight_any (s : ByteArray) (w : World) (hs : s.size ≤ 9223372036854775807) :
    Calls Try.prog 40 #[.string s] w fun e w' => e = .returned (.bool (rightL s.data.toList)) ∧ w = w' := by
  have HL := Lib.hid (length_bytes s)
  go_enter Try.func40, Try.ntmps40
  go_wp2
  go_loop [3] (fun i => ∃ k : Nat, k ≤ s.size ∧ i = .int .i64 k ∧ (s.data.toList.take k).all okc = true) (fun i => s.size - (intOf i).toNat)
  case atStart => exact ⟨0, Nat.zero_le _, rfl, by simp⟩
  case round =>
    obtain ⟨k, hk', rfl, hall⟩ := hrel
    have HA := Lib.hid hall
    clear hall
    by_cases hlt : k < s.size
    · have hlk : k < s.data.toList.length := by rw [HL.out]; exact hlt
      have HS := Lib.hid (all_take_succ hlk)
      have HB := Lib.hid (right_bad hlk)
      obtain ⟨x, hx⟩ : ∃ x, x = s[k] := ⟨_, rfl⟩
      have hxl : s.data.toList[k] = x := by rw [hx]; rfl
      rw [hxl] at HS HB
      have HX := Lib.hid hx
      clear hx hxl
      have key : (x.toNat < 45 ∨ 45 < x.toNat ∧ x.toNat < 48 ∨ 57 < x.toNat ∧ x.toNat < 97 ∨ 122 < x.toNat) ∨ (x.toNat = 45 ∨ 48 ≤ x.toNat ∧ x.toNat ≤ 57 ∨ 97 ≤ x.toNat ∧ x.toNat ≤ 122) := by omega
      have hidx : ∀ W : World, (Instr.index 9 (.string s) (.int .i64 (k : Int))).run Try.prog W = .ok (.int .u8 (x.toNat : Int)) W := by
        intro W
        rw [HX.out]
        go_simp
      rcases key with h | h
      · have HF : Hid (okc x = false) := by
          show okc x = false
          unfold okc; simp; omega
        have hq : ((x.toNat : Int) != 45) = true := by rw [bne_iff_ne]; omega
        rcases h with h | h | h | h
        all_goals
          try have d1 : decide ((x.toNat : Int) ≤ 57) = false := decide_eq_false (by omega)
          try have d2 : decide ((x.toNat : Int) ≤ 122) = false := decide_eq_false (by omega)
          go_wp2
          go_ret
          exact ⟨by rw [HB.out HF.out]; rfl, rfl⟩
      · have HT : Hid (okc x = true) := by
          show okc x = true
          unfold okc; simp; omega
        rcases h with h | h | h
        all_goals
          try have d1 : decide ((x.toNat : Int) ≤ 57) = false := decide_eq_false (by omega)
          try have d2 : decide ((x.toNat : Int) ≤ 57) = true := decide_eq_true (by omega)
          try have d3 : decide ((x.toNat : Int) ≤ 122) = true := decide_eq_true (by omega)
          go_wp2
          go_round
          case rel => exact ⟨k + 1, by omega, by go_num, by rw [HS.out, HA.out, HT.out]; rfl⟩
          case measure => simp [intOf]; omega
    · have h2 := HA.out
      rw [List.take_of_length_le (by rw [HL.out]; omega)] at h2
      have HF : Hid (rightL s.data.toList = (decide (0 < s.size) && decide (s.size ≤ 24))) := by
        show rightL s.data.toList = _
        rw [rightL, HL.out, h2, Bool.and_true]
      clear h2
      by_cases h0 : 0 < s.size
      · go_wp2
        go_ret
        refine ⟨ret_eq ?_, rfl⟩
        rw [HF.out, decide_eq_true h0, Bool.true_and]
        show Value.bool (decide ((s.size : Int) < 25)) = _
        congr 1
        rw [decide_eq_decide]
        omega
      · go_wp2
        go_ret
        refine ⟨ret_eq ?_, rfl⟩
        rw [HF.out, decide_eq_false h0]
        rfl

end Go.Proofs.Ytmmdojnjognccaa
