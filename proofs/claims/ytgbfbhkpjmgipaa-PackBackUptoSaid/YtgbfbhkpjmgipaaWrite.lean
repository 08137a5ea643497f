/-
  THE WALKS of pack's signs, and of the writer's other calls.
-/
import Derived.Test.YtgbfbhkpjmgipaaWriter
import Derived.Laws.BitsAllLaws
namespace Go.Proofs.Ytgbfbhkpjmgipaa
open Go.RowKit

def foldN (i : Int) : Nat := if 0 ≤ i then (2 * i).toNat else (-2 * i - 1).toNat
def unfoldN (u : Nat) : Int := if u % 2 = 0 then ((u / 2 : Nat) : Int) else -((u / 2 : Nat) : Int) - 1

theorem u64_xor_max (a : Nat) (ha : a < 18446744073709551616) : bits .xor .u64 (a : Int) 18446744073709551615 = ((18446744073709551615 - a : Nat) : Int) := by
  show IntKind.u64.wrap ((BitVec.ofInt 64 (a : Int) ^^^ BitVec.ofInt 64 18446744073709551615).toNat : Int) = _
  have h1 : BitVec.ofInt 64 18446744073709551615 = BitVec.allOnes 64 := by decide
  rw [h1, BitVec.xor_allOnes, BitVec.toNat_not, ofInt_u64 a (by omega), IntKind.wrap_u64]
  omega
theorem u64_xor_zero (a : Nat) (ha : a < 18446744073709551616) : bits .xor .u64 (a : Int) 0 = (a : Int) := by
  have := u64_xor_nat a 0 ha (by omega)
  simpa using this
theorem i64_xor_zero (a : Nat) (ha : a < 9223372036854775808) : bits .xor .i64 (a : Int) 0 = (a : Int) := by
  show IntKind.i64.wrap ((BitVec.ofInt 64 (a : Int) ^^^ BitVec.ofInt 64 0).toNat : Int) = _
  have h1 : BitVec.ofInt 64 0 = 0#64 := by decide
  rw [h1, BitVec.xor_zero, ofInt_u64 a (by omega), IntKind.wrap_i64]
  omega
theorem i64_xor_neg (a : Nat) (ha : a < 9223372036854775808) : bits .xor .i64 (a : Int) (-1) = -1 - (a : Int) := by
  show IntKind.i64.wrap ((BitVec.ofInt 64 (a : Int) ^^^ BitVec.ofInt 64 (-1)).toNat : Int) = _
  have h1 : BitVec.ofInt 64 (-1) = BitVec.allOnes 64 := by decide
  rw [h1, BitVec.xor_allOnes, BitVec.toNat_not, ofInt_u64 a (by omega), IntKind.wrap_i64]
  omega

theorem foldN_lt (i : Int) (h0 : -9223372036854775808 ≤ i) (h1 : i ≤ 9223372036854775807) : W64 (foldN i) := by
  unfold foldN W64
  split <;> omega
theorem unfold_fold (i : Int) : unfoldN (foldN i) = i := by
  unfold foldN unfoldN
  split <;> split <;> omega

set_option maxHeartbeats 400000 in
theorem fold_any (i : Int) (h0 : -9223372036854775808 ≤ i) (h1 : i ≤ 9223372036854775807) (w : World) :
    Calls Try.prog 48 #[.int .i64 i] w fun e w' => e = .returned (.int .u64 (foldN i : Int)) ∧ w = w' := by
  go_enter Try.func48, Try.ntmps48
  by_cases h : 0 ≤ i
  · obtain ⟨n, rfl⟩ := Int.eq_ofNat_of_zero_le h
    go_wp2_with fail
    go_ret
    refine ⟨ret_eq (int_eq ?_), rfl⟩
    have e1 : (n : Int) * 2 = ((2 * n : Nat) : Int) := by omega
    have e2 : (n : Int) / 9223372036854775808 = 0 := by omega
    rw [e1, e2, u64_xor_zero _ (by omega)]
    unfold foldN
    rw [if_pos (by omega)]
    omega
  · go_wp2_with fail
    go_ret
    refine ⟨ret_eq (int_eq ?_), rfl⟩
    have e1 : IntKind.u64.wrap (IntKind.u64.wrap i * 2) = ((2 * i + 18446744073709551616).toNat : Int) := by
      rw [IntKind.wrap_u64, IntKind.wrap_u64]
      omega
    have e2 : IntKind.u64.wrap (i / 9223372036854775808) = 18446744073709551615 := by
      rw [IntKind.wrap_u64]
      omega
    rw [e1, e2, u64_xor_max _ (by omega)]
    unfold foldN
    rw [if_neg (by omega)]
    omega

theorem u64_and_one (u : Nat) (hu : u < 18446744073709551616) : bits .and .u64 (u : Int) 1 = ((u % 2 : Nat) : Int) := by
  have := u64_and_nat u 1 hu (by omega)
  rw [Nat.and_one_is_mod] at this
  simpa using this

set_option maxHeartbeats 400000 in
theorem unfold_any (u : Nat) (hu : W64 u) (w : World) :
    Calls Try.prog 51 #[.int .u64 (u : Int)] w fun e w' => e = .returned (.int .i64 (unfoldN u)) ∧ w = w' := by
  have hu' := hu
  unfold W64 at hu'
  clear hu
  go_enter Try.func51, Try.ntmps51
  go_wp2_with fail
  go_ret
  refine ⟨ret_eq (int_eq ?_), rfl⟩
  rw [u64_and_one _ hu']
  unfold unfoldN
  have e0 : (u : Int) / 2 = ((u / 2 : Nat) : Int) := by omega
  rw [e0]
  rcases Nat.mod_two_eq_zero_or_one u with h | h
  · rw [h, if_pos rfl]
    have e1 : wrap64 (-wrap64 ((0 : Nat) : Int)) = 0 := by unfold wrap64; omega
    rw [e1, i64_xor_zero _ (by omega)]
  · rw [h, if_neg (by omega)]
    have e1 : wrap64 (-wrap64 ((1 : Nat) : Int)) = -1 := by unfold wrap64; omega
    rw [e1, i64_xor_neg _ (by omega)]
    omega

set_option maxHeartbeats 400000 in
theorem writerInt_any (F : Nat → Prop) (p : Nat) (l : List UInt8) (i : Int) (w : World) (hw : Wr F w p l) (h0 : -9223372036854775808 ≤ i) (h1 : i ≤ 9223372036854775807) (hl : l.length ≤ 140737488355000) :
    Calls Try.prog 30 #[.pointer (some ⟨p, 0, none⟩), .int .i64 i] w (WrPost F w p (l ++ numL (foldN i))) := by
  go_enter Try.func30, Try.ntmps30
  go_wp2_with fail
  refine (fold_any i h0 h1 _).mono ?_
  rintro e w1 ⟨rfl, rfl⟩
  have hf := foldN_lt i h0 h1
  have HF := Lib.hid (rfl : foldN i = foldN i)
  generalize foldN i = u at *
  clear h0 h1
  go_wp2_with fail
  refine (writerNum_any F p l u _ hw hf hl).mono ?_
  rintro e w2 ⟨rfl, hw2, k2⟩
  go_wp2_with fail
  go_ret
  exact ⟨rfl, hw2, k2⟩

set_option maxHeartbeats 400000 in
theorem writerText_any (F : Nat → Prop) (p : Nat) (l : List UInt8) (bo : Option Addr) (m c : Nat) (b : List UInt8) (w : World) (hw : Wr F w p l) (hb : BS w bo m c b) (hoff : Off F bo) (hl : l.length + m ≤ 140737488355000) :
    Calls Try.prog 31 #[.pointer (some ⟨p, 0, none⟩), .slice bo m c] w (WrPost F w p (l ++ numL m ++ b)) := by
  obtain ⟨i0, hi, hz0, hz1, hz2⟩ := info_parts info_u8
  go_enter Try.func31, Try.ntmps31
  go_wp2_with fail
  refine (writerNum_any F p l m _ hw (by unfold W64; omega) (by omega)).mono ?_
  rintro e w1 ⟨rfl, hw1, k1⟩
  have hb1 := hb.kp k1 hoff
  obtain ⟨hp', ao, n, cap, hh, ho⟩ := hw1
  obtain ⟨hc0, hf0⟩ := cell_one hh
  have hnb : n + m ≤ 140737488355016 := by
    have := ho.1
    rw [length_bv, List.length_append, length_numL] at this
    have := sizeN_le m
    omega
  go_wp2_with (at_builtin; refine wpList_append_gen _ rfl (.tmp 16) (.tmp 17) 24 rfl 5 i0 (.int .u8 0) 1 1 Try.underlying24 hi hz0 hz1 hz2 rfl ao n cap rfl bo m c rfl _ _ ho (bv b) (by rw [length_bv, hb.len, Nat.mul_one]) hb1.row (bv_one _) (by omega) (by unfold maxLen; omega) ?_)
  intro ao1 cap1 w2 ho2 k2
  have hh2 := k2.heap hh (fun h => h.2 rfl)
  obtain ⟨hc2, hf2⟩ := cell_one hh2
  rw [bv_append] at ho2
  have P := Wr.put hp' hh ho2 k2
  have hs1 := k1.size
  have Wf := Wr.chain P.1 hs1
  have Kf := k1.ex P.2
  clear ho2 k2 hh2 hc0 hf0 ho hh P
  go_wp2_with fail
  go_ret
  exact ⟨rfl, Wf, Kf⟩

set_option maxHeartbeats 400000 in
/-- All that was written, in new memory. -/
theorem writerBytes_any (F : Nat → Prop) (p : Nat) (l : List UInt8) (w : World) (hw : Wr F w p l) (hl : l.length ≤ 140737488355328) :
    Calls Try.prog 33 #[.pointer (some ⟨p, 0, none⟩)] w fun e w' => ∃ ao cap, e = .returned (.slice ao l.length cap) ∧ Own (Ex Noone w w') w' 5 1 ao l.length cap (bv l) ∧ Kp Noone w w' := by
  obtain ⟨i0, hi, hz0, hz1, hz2⟩ := info_parts info_u8
  obtain ⟨hp', ao, n, cap, hh, ho⟩ := hw
  obtain ⟨hc0, hf0⟩ := cell_one hh
  have hn : l.length = n := by have := ho.1; rw [length_bv] at this; omega
  rw [hn] at hl ⊢
  go_enter Try.func33, Try.ntmps33
  go_wp2_with (at_builtin; refine wpList_append_gen _ rfl (.const (.slice none 0 0)) (.tmp 8) 24 rfl 5 i0 (.int .u8 0) 1 1 Try.underlying24 hi hz0 hz1 hz2 rfl none 0 0 rfl ao n cap rfl Noone [] (Own.nil _ _ _ _ _) (bv l) (by rw [length_bv, hn, Nat.mul_one]) ho.row (bv_one _) (by omega) (by unfold maxLen; omega) ?_)
  intro ao1 cap1 w2 ho2 k2
  go_wp2_with fail
  go_ret

  exact ⟨ao1, cap1, rfl, ho2, k2⟩

end Go.Proofs.Ytgbfbhkpjmgipaa
