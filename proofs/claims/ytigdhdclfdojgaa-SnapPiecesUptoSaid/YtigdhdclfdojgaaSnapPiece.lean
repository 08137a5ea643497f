/-
  SnapPieces: the pieces of an image, taken one behind the other, are the image.
-/
import Derived.Test.YtigdhdclfdojgaaSnapHead
import Derived.Test.YtigdhdclfdojgaaPackSeal
namespace Go.Proofs.Ytigdhdclfdojgaa
open Go.RowKit

def pieceL (b : List UInt8) (a : Int) : List UInt8 := if a < 0 then [] else (b.drop a.toNat).take 1024
theorem pieceL_nil {b : List UInt8} {a : Int} (h : a < 0 ∨ (b.length : Int) ≤ a) : pieceL b a = [] := by
  unfold pieceL
  split
  · rfl
  · rw [List.drop_eq_nil_of_le (by omega)]; rfl
theorem pieceL_len (b : List UInt8) (a : Int) : (pieceL b a).length = if a < 0 then 0 else min 1024 (b.length - a.toNat) := by
  unfold pieceL
  split
  · rfl
  · rw [List.length_take, List.length_drop]

set_option maxHeartbeats 1000000 in
set_option maxRecDepth 100000 in
theorem piece_any (bo : Option Addr) (n cap : Nat) (b : List UInt8) (a : Int) (w : World) (hb : BS w bo n cap b) (hn : n ≤ 1048576) :
    Calls Try.prog 12 #[.slice bo n cap, .int .i64 a] w fun e w' => ∃ xo xc, e = .returned (.slice xo (pieceL b a).length xc) ∧ Own (Ex Noone w w') w' 5 1 xo (pieceL b a).length xc (bv (pieceL b a)) ∧ Kp Noone w w' := by
  obtain ⟨i0, hi, hz0, hz1, hz2⟩ := info_parts info_u8
  have hlen := hb.len
  have hcap := hb.le
  have hmx : cap ≤ 9223372036854775807 := by have := hb.max; unfold maxLen at this; omega
  by_cases h : a < 0 ∨ (n : Int) ≤ a
  · rw [pieceL_nil (by omega)]
    by_cases h0 : a < 0
    · clear h
      go_enter Try.func12, Try.ntmps12
      go_wp2_with fail
      go_ret
      exact ⟨none, 0, rfl, Own.nil _ _ _ _ _, Kp.refl _ _⟩
    · have h1 : (n : Int) ≤ a := by omega
      clear h
      go_enter Try.func12, Try.ntmps12
      go_wp2_with fail
      go_ret
      exact ⟨none, 0, rfl, Own.nil _ _ _ _ _, Kp.refl _ _⟩
  obtain ⟨k, rfl⟩ : ∃ k : Nat, a = (k : Int) := ⟨a.toNat, by omega⟩
  have hkn : k < n := by omega
  clear h
  obtain ⟨b0, off, _, rfl, hbW, _⟩ := hb.at (k := 0) (by omega)
  have hwk : IntKind.i64.wrap ((k : Int) + 1024) = (k : Int) + 1024 := IntWalk.i64_in _ (by omega)
  have b2 : ¬ cap = k := by omega
  have hpa := hb.past (m := k) (by omega)
  rw [if_neg b2] at hpa
  obtain ⟨m, hm⟩ : ∃ m, Hid (min 1024 (n - k) = m) := ⟨_, Lib.hid rfl⟩
  have hm1 : m ≤ 1024 ∧ k + m ≤ n := by have := hm.out; omega
  have hmin : min (n : Int) ((k : Int) + 1024) = (k : Int) + (m : Int) := by have := hm.out; omega
  have hpt := hpa.take (m := m) (by omega)
  have hP : pieceL b (k : Int) = (b.drop k).take m := by
    unfold pieceL
    rw [if_neg (by omega), Int.toNat_natCast]
    apply List.ext_getElem?
    intro i
    rw [List.getElem?_take, List.getElem?_take]
    by_cases h1 : i < m
    · rw [if_pos h1, if_pos (by omega)]
    · rw [if_neg h1]
      split
      · rw [List.getElem?_eq_none (by rw [List.length_drop, hlen]; have := hm.out; omega)]
      · rfl
  have hL : ((b.drop k).take m).length = m := hpt.len
  rw [hP, hL]
  have c1 : (k : Int) + (m : Int) ≤ (cap : Int) := by omega
  have c2 : (k : Int) ≤ (k : Int) + (m : Int) := by omega
  have c3 : ((k : Int) + (m : Int)).toNat - k = m := by omega
  have hpt2 : BS w (some ⟨b0, off + k, none⟩) m (cap - k) ((b.drop k).take m) := by
    rw [Option.map_some, Addr.add_lit] at hpt
    exact hpt
  clear hpa hpt hP hb
  go_enter Try.func12, Try.ntmps12
  go_wp2_with (at_builtin; refine wpList_append_gen _ rfl (.const (.slice none 0 0)) (.tmp 20) 22 rfl 5 i0 (.int .u8 0) 1 1 Try.underlying22 hi hz0 hz1 hz2 rfl none 0 0 rfl (some ⟨b0, off + k, none⟩) m (cap - k) rfl Noone [] (Own.nil _ _ _ _ _) (bv ((b.drop k).take m)) (by rw [length_bv, hL, Nat.mul_one]) (hpt2.keep (Kp.refl _ _).drew).row (bv_one _) (by omega) (by unfold maxLen; omega) ?_)
  intro xo xc w1 ho k1
  go_wp2_with fail
  go_ret
  exact ⟨xo, xc, rfl, ho, k1⟩

end Go.Proofs.Ytigdhdclfdojgaa
