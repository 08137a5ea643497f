/-
  THE WALKS of the document's own writer.
-/
import Derived.Test.YtlpdoefbjhlegaaWriteT
import Derived.Test.YtlpdoefbjhlegaaSame
namespace Go.Proofs.Ytlpdoefbjhlegaa
open Go.RowKit

/-- New bytes: what a reference answers. -/
def NewB (w : World) (l : List UInt8) (e : Ending) (w' : World) : Prop :=
  ∃ ao cap, e = .returned (.slice ao l.length cap) ∧ Own (Ex Noone w w') w' 5 1 ao l.length cap (bv l) ∧ Kp Noone w w'

theorem row_one (w : World) (x : UInt8) (v : Int) (hv : v = (x.toNat : Int)) : (w.alloc (.cells #[.int .u8 v] 5)).heap[w.heap.size]? = some (.cells (bv [x]).toArray 5 (0, 0)) := by
  rw [heap_alloc_new]
  simp [bv, U8, hv]

theorem sizeN_next (u k : Nat) (hu : W64 u) (hk : k ≤ sizeN u) : (0 < u / 256 ^ k) = (k < sizeN u) := by
  have hs := sizeN_lt u (by unfold W64 at hu; omega)
  have h8 := sizeN_le u
  apply propext
  constructor
  · intro h
    have h1 : 256 ^ k ≤ u := by
      rcases Nat.lt_or_ge u (256 ^ k) with c | c
      · rw [Nat.div_eq_of_lt c] at h; omega
      · exact c
    rcases Nat.lt_or_ge k (sizeN u) with c | c
    · exact c
    · have : k = sizeN u := by omega
      subst this
      omega
  · intro h
    have h1 : 256 ^ k ≤ u := by
      rcases Nat.lt_or_ge u (256 ^ k) with c | c
      · have := sizeN_min u c (by omega); omega
      · exact c
    exact Nat.div_pos h1 (Nat.pow_pos (by omega))

theorem beN_cons (k u : Nat) : beN (k + 1) u = UInt8.ofNat (u / 256 ^ k % 256) :: beN k u := by
  show UInt8.ofNat (u / 256 ^ k) :: beN k u = _
  congr 1
  apply UInt8.toNat_inj.1
  simp

theorem push_one {w wr w1 : World} {o : Obj} {e sz : Nat} {ao : Option Addr} {n cap : Nat} {xs : List Value} (kr : Kp Noone w wr) (h : Own (Ex (fun g => g = wr.heap.size) (wr.alloc o) w1) w1 e sz ao n cap xs) (k : Kp (fun g => g = wr.heap.size) (wr.alloc o) w1) :
    Own (Ex Noone w w1) w1 e sz ao n cap xs ∧ Kp Noone w w1 := by
  have hr := kr.size
  have hs := (kr.alloc o).size
  refine ⟨h.mono fun g hg h => ?_, (kr.alloc o).fin k (fun g h => Or.inr (by omega))⟩
  rcases h with h | h
  · exact Or.inr ⟨by omega, hg⟩
  · exact Or.inr ⟨by omega, hg⟩

set_option maxHeartbeats 1000000 in
set_option maxRecDepth 100000 in
theorem refNum_any (u : Nat) (w : World) (hu : W64 u) : Calls Try.prog 24 #[.int .u64 (u : Int)] w (NewB w (numL u)) := by
  obtain ⟨i0, hi, hz0, hz1, hz2⟩ := info_parts info_u8
  have HU := Lib.hid hu
  have hs8 := sizeN_le u
  have hlen := length_numL u
  clear hu
  unfold NewB
  rw [hlen]
  have HN : Hid (numL u = UInt8.ofNat (sizeN u) :: beN (sizeN u) u) := Lib.hid rfl
  have HD : Hid (∀ k, k ≤ sizeN u → (0 < u / 256 ^ k) = (k < sizeN u)) := Lib.hid (fun k hk => sizeN_next u k HU.out hk)
  clear hlen
  go_enter Try.func24, Try.ntmps24
  go_wp2_with fail
  go_loopw [0, 3] (fun i d wr => ∃ (k x : Nat) (ao : Option Addr) (cap : Nat), k ≤ sizeN u ∧ x = u / 256 ^ k ∧ x ≤ 18446744073709551615 ∧ i = .int .u64 (x : Int) ∧ d = .slice ao k cap ∧ Own (Ex Noone w wr) wr 5 1 ao k cap (bv (beN k u)) ∧ Kp Noone w wr) (fun i _ _ => (intOf i).toNat)
  case atStart => exact ⟨0, u, _, 0, Nat.zero_le _, by simp, by have := HU.out; unfold W64 at this; omega, rfl, rfl, Own.nil _ _ _ _ _, (Kp.refl _ _).alloc _⟩
  case round =>
    obtain ⟨k, x, ao, cap, hk, hx, hxb, rfl, rfl, ho, kr⟩ := hrel
    have HX := Lib.hid hx
    clear hx
    have hr := kr.size
    have hpos := HD.out k hk
    rw [← HX.out] at hpos
    have hHA := fun v hv => row_one wr (UInt8.ofNat (x % 256)) v hv
    have kar : ∀ o : Obj, Kp Noone wr (wr.alloc o) := fun o => (Kp.refl _ _).alloc o
    by_cases h0 : 0 < x
    · have hks : k < sizeN u := hpos ▸ h0
      clear hpos
      go_wp2_with (at_builtin; refine wpList_append_gen _ rfl (.tmp 10) (.tmp 11) 31 rfl 5 i0 (.int .u8 0) 1 1 Try.underlying31 hi hz0 hz1 hz2 rfl (some ⟨wr.heap.size, 0, none⟩) 1 1 rfl ao k cap rfl (fun g => g = wr.heap.size) (bv [UInt8.ofNat (x % 256)]) (Own.fresh rfl (hHA _ (by first | (simp; done) | (simp; omega) | go_num)) rfl (by simp [maxLen])) (bv (beN k u)) (by rw [length_bv, length_beN, Nat.mul_one]) (ho.row.keep (kar _)) (bv_one _) (by omega) (by unfold maxLen; omega) ?_)
      intro ao1 cap1 w1 ho1 k1
      have Ho := push_one kr ho1 k1
      rw [bv_append, Nat.add_comm 1 k, show [UInt8.ofNat (x % 256)] ++ beN k u = beN (k + 1) u by rw [beN_cons, ← HX.out]; rfl] at Ho
      clear hHA ho k1 ho1
      go_wp2_with fail
      go_roundw
      case rel => exact ⟨k + 1, x / 256, ao1, cap1, by omega, by rw [HX.out, Nat.pow_succ, Nat.div_div_eq_div_mul], by omega, by go_num, by rw [Nat.add_comm], Ho.1, Ho.2⟩
      case measure => simp [intOf]; omega
    · have hks := Lib.hid (show k = sizeN u by rw [hpos] at h0; omega)
      clear hpos
      have hHK := row_one wr (UInt8.ofNat k) (k : Int) (by simp; omega)
      clear hHA
      go_wp2_with (at_builtin; refine wpList_append_gen _ rfl (.tmp 18) (.tmp 19) 31 rfl 5 i0 (.int .u8 0) 1 1 Try.underlying31 hi hz0 hz1 hz2 rfl (some ⟨wr.heap.size, 0, none⟩) 1 1 rfl ao k cap rfl (fun g => g = wr.heap.size) (bv [UInt8.ofNat k]) (Own.fresh rfl hHK rfl (by simp [maxLen])) (bv (beN k u)) (by rw [length_bv, length_beN, Nat.mul_one]) (ho.row.keep (kar _)) (bv_one _) (by omega) (by unfold maxLen; omega) ?_)
      intro ao1 cap1 w1 ho1 k1
      have Ho := push_one kr ho1 k1
      rw [bv_append, show [UInt8.ofNat k] ++ beN k u = numL u by rw [HN.out, ← hks.out]; rfl] at Ho
      clear hHK ho k1 ho1
      go_wp2_with fail
      go_ret
      exact ⟨ao1, cap1, by rw [← hks.out, Nat.add_comm k 1]; rfl, by rw [← hks.out, Nat.add_comm]; exact Ho.1, Ho.2⟩

set_option maxHeartbeats 400000 in
set_option maxRecDepth 100000 in
theorem refText_any (bo : Option Addr) (m c : Nat) (b : List UInt8) (w : World) (hb : BS w bo m c b) (hm : m ≤ 70368744177664) :
    Calls Try.prog 25 #[.slice bo m c] w (NewB w (numL m ++ b)) := by
  obtain ⟨i0, hi, hz0, hz1, hz2⟩ := info_parts info_u8
  have hlen : (numL m ++ b).length = (numL m).length + m := by rw [List.length_append, hb.len]
  have hn9 : (numL m).length ≤ 9 := by have := sizeN_le m; rw [length_numL]; omega
  unfold NewB
  rw [hlen]
  clear hlen
  go_enter Try.func25, Try.ntmps25
  go_wp2_with fail
  refine (refNum_any m _ (by unfold W64; omega)).mono ?_
  rintro e w1 ⟨ao, cap, rfl, ho, k1⟩
  have hb1 := hb.keep k1
  generalize hN : (numL m).length = s at *
  go_wp2_with (at_builtin; refine wpList_append_gen _ rfl (.tmp 6) (.tmp 7) 31 rfl 5 i0 (.int .u8 0) 1 1 Try.underlying31 hi hz0 hz1 hz2 rfl ao s cap rfl bo m c rfl (Ex Noone w w1) (bv (numL m)) ho (bv b) (by rw [length_bv, hb.len, Nat.mul_one]) hb1.row (bv_one _) (by omega) (by unfold maxLen; omega) ?_)
  intro ao1 cap1 w2 ho1 k2
  rw [bv_append] at ho1
  go_wp2_with fail
  go_ret
  have h1 := k1.size
  rw [hN]
  refine ⟨ao1, cap1, rfl, ho1.mono fun g hg h => ?_, k1.fin k2 (fun g h => Or.inr (Ex.none h).1)⟩
  rcases h with h | h
  · exact Or.inr ⟨(Ex.none h).1, hg⟩
  · exact Or.inr ⟨by omega, hg⟩

end Go.Proofs.Ytlpdoefbjhlegaa
