/-
  THE WALKS of the document's At and Safe.
-/
import Derived.Test.YtmmdojnjognccaaRefAt
namespace Go.Proofs.Ytmmdojnjognccaa
open Go.RowKit

/-- The document's disk as a value. -/
def diskV (ao : Option Addr) (n cap : Nat) (room steps fuse : Int) (down : Bool) : Value := .agg #[.slice ao n cap, .int .i64 room, .int .i64 steps, .int .i64 fuse, .bool down]

theorem ba_ne {x y : ByteArray} (h : x ≠ y) : (x == y) = false ∧ (x != y) = true ∧ (x.toList == y.toList) = false ∧ ¬ x.toList = y.toList := by
  have h1 : ¬ x.toList = y.toList := fun c => h (by
    rw [ByteArray.toList_eq, ByteArray.toList_eq] at c
    exact ByteArray.ext (by rw [← Array.toArray_toList (xs := x.data), c, Array.toArray_toList]))
  have h2 : (x == y) = false := by rw [ba_beq]; simpa using h
  exact ⟨h2, by show (!(x == y)) = true; rw [h2]; rfl, by simpa using h1, h1⟩

set_option maxRecDepth 100000 in
theorem at_ref (P : Nat → Prop) (ao : Option Addr) (n cap : Nat) (L : Img) (room steps fuse : Int) (down : Bool) (k : ByteArray) (w : World) (h : RA P w ao n cap L) (hn : n ≤ 1048576) :
    Calls Try.prog 41 #[diskV ao n cap room steps fuse down, .string k] w fun e w' => e = .returned (.int .i64 (atL L k)) ∧ Kp Noone w w' := by
  have hlen := h.len
  have kA : Kp Noone w (w.alloc (.cells #[.slice ao n cap, .int .i64 room, .int .i64 steps, .int .i64 fuse, .bool down] 56)) := (Kp.refl _ _).alloc _
  have hA := heap_alloc_new w (.cells #[.slice ao n cap, .int .i64 room, .int .i64 steps, .int .i64 fuse, .bool down] 56)
  have hRA := Lib.hid (h.keep kA)
  have HK := Lib.hid kA
  obtain ⟨v, hv⟩ : ∃ v, Hid (atL L k = v) := ⟨_, Lib.hid rfl⟩
  rw [hv.out]
  clear h kA
  unfold diskV
  go_enter Try.func41, Try.ntmps41
  go_upto_region 1 with fail
  generalize w.alloc (.cells #[.slice ao n cap, .int .i64 room, .int .i64 steps, .int .i64 fuse, .bool down] 56) = wA at *
  obtain ⟨⟨q0, -, -, -, -⟩, -⟩ := cells_five hA
  go_wp2_with fail
  go_loopw [9] (fun v wr => ∃ j : Nat, v = .int .i64 (j : Int) ∧ j ≤ n ∧ (∀ i (hi : i < L.length), i < j → L[i].1 ≠ k) ∧ wr = wA) (fun v _ => n - (intOf v).toNat)
  case atStart => exact ⟨0, by rfl, Nat.zero_le _, fun i _ h => by omega, rfl⟩
  case round =>
    obtain ⟨j, rfl, hj, hno, rfl⟩ := hrel
    have HNO := Lib.hid hno
    clear hno
    by_cases hlt : j < n
    · have hjl : j < L.length := by omega
      obtain ⟨b, off, bo, m, c, rfl, hbl, hPb, c0, c1, c2, hd⟩ := hRA.out.get j hjl
      have hwj : IntKind.i64.wrap ((j : Int) + 1) = (j : Int) + 1 := IntWalk.i64_in _ (by omega)
      have hex : Hid (∀ i (hi : i < L.length), i = j → L[i].1 = L[j].1) := Lib.hid (fun i hi e => by subst e; rfl)
      have hat : Hid (L[j].1 = k → atL L k = (j : Int)) := Lib.hid (fun e => by
        have h1 := idxL_skip (k := k) HNO.out (by omega)
        rw [List.drop_eq_getElem_cons hjl] at h1
        rw [idxL_cons, if_pos e] at h1
        simp at h1
        unfold atL
        rw [h1])
      generalize L[j].1 = nm at *
      generalize L[j].2.safe = sf at *
      clear hd c1 c2
      by_cases he : nm = k
      · have hv2 := hv.out
        rw [hat.out he] at hv2
        have HV2 := Lib.hid hv2
        subst he
        clear hv2
        go_wp2_with fail
        go_ret
        exact ⟨by rw [HV2.out]; rfl, HK.out⟩
      · obtain ⟨n1, n2, n3, n4⟩ := ba_ne he
        have R : Hid (∀ i (hi : i < L.length), i < j + 1 → L[i].1 ≠ k) := Lib.hid (fun i hi hij => by
          by_cases e : i = j
          · rw [hex.out i hi e]; exact he
          · exact HNO.out i hi (by omega))
        clear hat hex he
        go_wp2_with fail
        go_roundw
        case rel => exact ⟨j + 1, by rfl, by omega, R.out, by trivial⟩
        case measure => simp [intOf]; omega
    · have hv2 : Hid (v = -1) := Lib.hid (by
        rw [← hv.out]
        have h1 := idxL_skip (k := k) (L := L) (j := L.length) (fun i hi _ => HNO.out i hi (by omega)) (Nat.le_refl _)
        rw [List.drop_length] at h1
        unfold atL
        rw [h1]
        rfl)
      go_wp2_with fail
      go_ret
      exact ⟨by rw [hv2.out]; rfl, HK.out⟩

def sumL : Img → Int
  | [] => 0
  | x :: r => x.2.safe + sumL r
theorem sumL_append (a b : Img) : sumL (a ++ b) = sumL a + sumL b := by
  induction a with
  | nil => simp [sumL]
  | cons x r ih => simp [sumL, ih]; omega
theorem sumL_bound : ∀ (L : Img) (B : Int), (∀ x ∈ L, 0 ≤ x.2.safe ∧ x.2.safe ≤ B) → 0 ≤ sumL L ∧ sumL L ≤ L.length * B
  | [], B, _ => by simp [sumL]
  | p :: r, B, h => by
    have h1 := h p (by simp)
    have h2 := sumL_bound r B (fun x hx => h x (by simp [hx]))
    have e : ((p :: r).length : Int) * B = r.length * B + B := by rw [List.length_cons, Int.natCast_add, Int.add_mul]; omega
    rw [e]
    unfold sumL
    omega
/-- Small areas. -/
def Img.Small (L : Img) : Prop := L.length ≤ 64 ∧ ∀ x ∈ L, 0 ≤ x.2.safe ∧ x.2.safe ≤ 140737488355328
theorem Img.Small.sum {L : Img} (h : L.Small) : 0 ≤ sumL L ∧ sumL L ≤ 9007199254740992 := by
  have h1 := sumL_bound L 140737488355328 h.2
  have h2 := h.1
  have h3 : (L.length : Int) * 140737488355328 ≤ 64 * 140737488355328 := Int.mul_le_mul_of_nonneg_right (by omega) (by omega)
  omega
theorem Img.Small.take {L : Img} (h : L.Small) (j : Nat) : Img.Small (L.take j) := ⟨by have := h.1; rw [List.length_take]; omega, fun x hx => h.2 x (List.mem_of_mem_take hx)⟩

set_option maxRecDepth 100000 in
theorem safe_ref (P : Nat → Prop) (ao : Option Addr) (n cap : Nat) (L : Img) (room steps fuse : Int) (down : Bool) (w : World) (h : RA P w ao n cap L) (hs : L.Small) :
    Calls Try.prog 30 #[diskV ao n cap room steps fuse down] w fun e w' => e = .returned (.int .i64 (sumL L)) ∧ Kp Noone w w' := by
  have hlen := h.len
  have h64 := hs.1
  have kA : Kp Noone w (w.alloc (.cells #[.slice ao n cap, .int .i64 room, .int .i64 steps, .int .i64 fuse, .bool down] 56)) := (Kp.refl _ _).alloc _
  have hA := heap_alloc_new w (.cells #[.slice ao n cap, .int .i64 room, .int .i64 steps, .int .i64 fuse, .bool down] 56)
  have hRA := Lib.hid (h.keep kA)
  have HK := Lib.hid kA
  have HS := Lib.hid hs
  obtain ⟨v, hv⟩ : ∃ v, Hid (sumL L = v) := ⟨_, Lib.hid rfl⟩
  rw [hv.out]
  clear h kA hs
  unfold diskV
  go_enter Try.func30, Try.ntmps30
  go_upto_region 2 with fail
  generalize w.alloc (.cells #[.slice ao n cap, .int .i64 room, .int .i64 steps, .int .i64 fuse, .bool down] 56) = wA at *
  obtain ⟨⟨q0, -, -, -, -⟩, -⟩ := cells_five hA
  go_wp2_with fail
  go_loopw [8, 3] (fun v sv wr => ∃ j : Nat, v = .int .i64 (j : Int) ∧ j ≤ n ∧ sv = .int .i64 (sumL (L.take j)) ∧ wr = wA) (fun v _ _ => n - (intOf v).toNat)
  case atStart => exact ⟨0, by rfl, Nat.zero_le _, by rw [List.take_zero]; rfl, rfl⟩
  case round =>
    obtain ⟨j, rfl, hj, rfl, rfl⟩ := hrel
    by_cases hlt : j < n
    · have hjl : j < L.length := by omega
      obtain ⟨b, off, bo, m, c, rfl, hbl, hPb, c0, c1, c2, hd⟩ := hRA.out.get j hjl
      have hwj : IntKind.i64.wrap ((j : Int) + 1) = (j : Int) + 1 := IntWalk.i64_in _ (by omega)
      have hst : Hid (sumL (L.take (j + 1)) = sumL (L.take j) + L[j].2.safe) := Lib.hid (by
        rw [List.take_succ_eq_append_getElem hjl, sumL_append]
        simp [sumL])
      have hsb := (HS.out.take j).sum
      have hsf := HS.out.2 _ (List.getElem_mem hjl)
      generalize L[j].2.safe = sf at *
      have hwa : IntKind.i64.wrap (sumL (L.take j) + sf) = sumL (L.take j) + sf := IntWalk.i64_in _ (by omega)
      generalize sumL (L.take j) = sm at *
      clear hd c1 c0
      go_wp2_with fail
      go_roundw
      case rel => exact ⟨j + 1, by rfl, by omega, by rw [hst.out], by trivial⟩
      case measure => simp [intOf]; omega
    · have he : Hid (sumL (L.take j) = v) := Lib.hid (by rw [List.take_of_length_le (by omega)]; exact hv.out)
      go_wp2_with fail
      go_ret
      exact ⟨by rw [he.out]; rfl, HK.out⟩

end Go.Proofs.Ytmmdojnjognccaa
