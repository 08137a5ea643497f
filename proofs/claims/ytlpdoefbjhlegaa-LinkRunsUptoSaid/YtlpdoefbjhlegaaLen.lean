/-
  THE WALKS of Len64 and Size: how many bytes a number has.
-/
import Derived.Test.YtlpdoefbjhlegaaProg
import Derived.Test.YtlpdoefbjhlegaaSame
import Derived.Test.YtlpdoefbjhlegaaPackPlain
import Derived.Lib.Tables
import Derived.Deep.Light
namespace Go.Proofs.Ytlpdoefbjhlegaa
open Go.RowKit

/-- The number of bits of a byte. -/
def bits8 (y : Nat) : Nat := if y = 0 then 0 else if y < 2 then 1 else if y < 4 then 2 else if y < 8 then 3 else if y < 16 then 4 else if y < 32 then 5 else if y < 64 then 6 else if y < 128 then 7 else 8

theorem len8_bits : ∀ y : Fin 256, Lib.len8 (y.val : Int) = (bits8 y.val : Int) := by decide +kernel
theorem len8_at (y : Nat) (h : y < 256) : Lib.len8 (y : Int) = (bits8 y : Int) := len8_bits ⟨y, h⟩
theorem bits8_le (y : Nat) : bits8 y ≤ 8 := by unfold bits8; repeat' split
                                               all_goals omega

def LenPost (x : Nat) (w : World) (e : Ending) (w' : World) : Prop := ∃ b : Nat, e = .returned (.int .i64 (b : Int)) ∧ (b + 7) / 8 = sizeN x ∧ b ≤ 64 ∧ w = w'

theorem tab_get (y : Int) (h0 : 0 ≤ y) (h1 : y < 256) (h : y.toNat < Lib.len8tab.size) : (Lib.len8tab[y.toNat]'h).toNat = bits8 y.toNat := by
  have e := len8_at y.toNat (by omega)
  unfold Lib.len8 at e
  rw [show ((y.toNat : Nat) : Int).toNat = y.toNat from by omega, getElem?_pos Lib.len8tab y.toNat h] at e
  exact Int.ofNat.inj e
theorem bits8_pos {y : Nat} (h : 1 ≤ y) : 1 ≤ bits8 y := by unfold bits8; repeat' split
                                                            all_goals omega

/-- The last step of each way. -/
theorem len_end (x y : Int) (k m : Nat) (w : World) (v : Int) (h0 : 0 ≤ y) (h1 : y < 256) (h : y.toNat < Lib.len8tab.size) (hk : k = 8 * m) (hm : m ≤ 7) (hv : v = wrap64 ((k : Int) + wrap64 ((Lib.len8tab[y.toNat]'h).toNat : Int)))
    (hs : (1 ≤ y ∧ sizeN x.toNat = m + 1) ∨ (y = 0 ∧ m = 0 ∧ sizeN x.toNat = 0)) : LenPost x.toNat w (.returned (.int .i64 v)) w := by
  have a := bits8_le y.toNat
  rw [tab_get y h0 h1 h] at hv
  refine ⟨k + bits8 y.toNat, ?_, ?_, by omega, rfl⟩
  · have e : v = ((k + bits8 y.toNat : Nat) : Int) := by rw [hv]; unfold wrap64; omega
    rw [e]
  · rcases hs with ⟨h2, h3⟩ | ⟨rfl, rfl, h3⟩
    · have b := bits8_pos (y := y.toNat) (by omega)
      rw [h3]; omega
    · rw [h3, hk]; rfl

theorem size_of (x : Int) (_h0 : 0 ≤ x) (m : Nat) (hm : m ≤ 7) (h : (256 : Int) ^ m ≤ x) (h' : m = 7 ∨ x < (256 : Int) ^ (m + 1)) : sizeN x.toNat = m + 1 := by
  have h8 : m = 0 ∨ m = 1 ∨ m = 2 ∨ m = 3 ∨ m = 4 ∨ m = 5 ∨ m = 6 ∨ m = 7 := by omega
  unfold sizeN
  rcases h8 with rfl | rfl | rfl | rfl | rfl | rfl | rfl | rfl <;> simp at h h' <;> (repeat' split) <;> omega

set_option maxRecDepth 1000000 in
set_option maxHeartbeats 4000000 in
theorem len64_int (x : Int) (w : World) (h0 : 0 ≤ x) (h1 : x ≤ 18446744073709551615) : Calls Try.prog 46 #[.int .u64 x] w (LenPost x.toNat w) := by
  go_enter Try.func46, Try.ntmps46
  go_wp2
  all_goals first
    | (go_ret; go_light)
    | (exfalso
       go_light
       have hs := Lib.len8tab_size
       omega)
  all_goals first
    | exact len_end x (x / 4294967296 / 65536 / 256) 56 7 w _ (by omega) (by omega) _ (by decide) (by decide) rfl (Or.inl ⟨by omega, size_of x h0 7 (by decide) (by simp; omega) (Or.inl rfl)⟩)
    | exact len_end x (x / 4294967296 / 65536) 48 6 w _ (by omega) (by omega) _ (by decide) (by decide) rfl (Or.inl ⟨by omega, size_of x h0 6 (by decide) (by simp; omega) (Or.inr (by simp; omega))⟩)
    | exact len_end x (x / 4294967296 / 256) 40 5 w _ (by omega) (by omega) _ (by decide) (by decide) rfl (Or.inl ⟨by omega, size_of x h0 5 (by decide) (by simp; omega) (Or.inr (by simp; omega))⟩)
    | exact len_end x (x / 4294967296) 32 4 w _ (by omega) (by omega) _ (by decide) (by decide) rfl (Or.inl ⟨by omega, size_of x h0 4 (by decide) (by simp; omega) (Or.inr (by simp; omega))⟩)
    | exact len_end x (x / 65536 / 256) 24 3 w _ (by omega) (by omega) _ (by decide) (by decide) rfl (Or.inl ⟨by omega, size_of x h0 3 (by decide) (by simp; omega) (Or.inr (by simp; omega))⟩)
    | exact len_end x (x / 65536) 16 2 w _ (by omega) (by omega) _ (by decide) (by decide) rfl (Or.inl ⟨by omega, size_of x h0 2 (by decide) (by simp; omega) (Or.inr (by simp; omega))⟩)
    | exact len_end x (x / 256) 8 1 w _ (by omega) (by omega) _ (by decide) (by decide) rfl (Or.inl ⟨by omega, size_of x h0 1 (by decide) (by simp; omega) (Or.inr (by simp; omega))⟩)
    | (rename_i hsz
       refine len_end x x 0 0 w _ (by omega) (by omega) (by omega) (by decide) (by decide) ?_ ?_
       · show wrap64 (wrap64 _) = wrap64 (0 + wrap64 _)
         rw [Int.zero_add]
       · by_cases hx : x = 0
         · exact Or.inr ⟨hx, rfl, by rw [hx]; rfl⟩
         · exact Or.inl ⟨by omega, size_of x h0 0 (by decide) (by simp; omega) (Or.inr (by simp; omega))⟩)

theorem len64_any (x : Nat) (w : World) (hx : W64 x) : Calls Try.prog 46 #[.int .u64 (x : Int)] w (LenPost x w) := by
  have h := len64_int (x : Int) w (by omega) (by unfold W64 at hx; omega)
  rwa [Int.toNat_natCast] at h

set_option maxHeartbeats 400000 in
theorem size_any (x : Nat) (w : World) (hx : W64 x) : Calls Try.prog 41 #[.int .u64 (x : Int)] w fun e w' => e = .returned (.int .i64 ((sizeN x : Int) + 1)) ∧ w = w' := by
  have HX := Lib.hid hx
  clear hx
  go_enter Try.func41, Try.ntmps41
  go_wp2_with fail
  refine (len64_any x w HX.out).mono ?_
  rintro e w' ⟨b, rfl, hb, h64, rfl⟩
  have HB := Lib.hid hb
  clear hb
  go_wp2
  go_ret
  refine ⟨ret_eq (int_eq ?_), rfl⟩
  have := HB.out
  omega

end Go.Proofs.Ytlpdoefbjhlegaa
