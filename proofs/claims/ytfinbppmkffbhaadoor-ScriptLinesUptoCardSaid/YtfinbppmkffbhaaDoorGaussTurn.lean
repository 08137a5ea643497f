/-
  THE WALKS of Turn, of the document's own words, and of the law's 'is' and 'head'.
-/
import Derived.Test.YtfinbppmkffbhaaDoorGauss
namespace Go.Proofs.YtfinbppmkffbhaaDoor
open Go.RowKit

/-- So many quarters. -/
def turnN : Nat → Int × Int → Int × Int
  | 0, p => p
  | k + 1, p => (-(turnN k p).2, (turnN k p).1)

theorem turnN_in (k : Nat) (p : Int × Int) (h : rB p.1 p.2 = true) : rB (turnN k p).1 (turnN k p).2 = true := by
  induction k with
  | zero => exact h
  | succ k ih => have := rB_bound ih; exact rB_in (by simp only [turnN]; omega) this.1

theorem i64_and_three (q : Int) : bits .and .i64 q 3 = q % 4 := by
  show IntKind.i64.wrap ((BitVec.ofInt 64 q &&& BitVec.ofInt 64 3).toNat : Int) = _
  have h3 : (BitVec.ofInt 64 3).toNat = 2 ^ 2 - 1 := by decide
  rw [BitVec.toNat_and, h3, Nat.and_two_pow_sub_one_eq_mod, IntKind.wrap_i64, BitVec.toNat_ofInt]
  omega

set_option maxHeartbeats 1000000 in
theorem refRight_any (re im : Int) (w : World) : Calls Tryd.prog 37 #[.int .i64 re, .int .i64 im] w fun e w' => e = .returned (.bool (rB re im)) ∧ w = w' := by
  go_enter Tryd.func37, Tryd.ntmps37
  by_cases c1 : -1048576 ≤ re
  · by_cases c2 : re ≤ 1048576
    · by_cases c3 : -1048576 ≤ im
      · by_cases c4 : im ≤ 1048576
        · go_wp2_with fail
          go_ret
          exact ⟨ret_eq (by rw [rB_in ⟨c1, c2⟩ ⟨c3, by omega⟩]; rfl), rfl⟩
        · go_wp2_with fail
          go_ret
          exact ⟨ret_eq (by rw [rB_out (by omega)]; rfl), rfl⟩
      · go_wp2_with fail
        go_ret
        exact ⟨ret_eq (by rw [rB_out (by omega)]; rfl), rfl⟩
    · go_wp2_with fail
      go_ret
      exact ⟨ret_eq (by rw [rB_out (by omega)]; rfl), rfl⟩
  · go_wp2_with fail
    go_ret
    exact ⟨ret_eq (by rw [rB_out (by omega)]; rfl), rfl⟩

end Go.Proofs.YtfinbppmkffbhaaDoor
