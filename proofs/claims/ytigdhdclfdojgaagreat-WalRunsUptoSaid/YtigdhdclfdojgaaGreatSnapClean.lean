/-
  THE WALK of snap: Clean.
-/
import Derived.Test.YtigdhdclfdojgaaGreatSnapLoad
import Derived.Test.YtigdhdclfdojgaaGreatRefDiskA
namespace Go.Proofs.YtigdhdclfdojgaaGreat
open Go.RowKit

theorem nameOk_size {k : ByteArray} (h : nameOk k = true) : k.size ≤ 24 := by
  unfold nameOk rightL at h
  simp only [Bool.and_eq_true, decide_eq_true_eq] at h
  have := h.1.2
  simpa using this
theorem listF_ok {s : DS} (h : DOk s) : ∀ k ∈ listF s, k.size ≤ 24 := by
  intro k hk
  unfold listF at hk
  split at hk
  · cases hk
  · obtain ⟨x, hx, rfl⟩ := List.mem_map.1 (namesF_mem k hk)
    exact nameOk_size (h.names x hx)
theorem listF_len {s : DS} (h : DOk s) : (listF s).length ≤ 64 := by
  unfold listF
  split
  · simp
  · unfold namesF
    rw [sortN_length, List.length_map]
    exact h.len
theorem cleanL_nil (t : Nat) (s : DS) : cleanL t [] s = (s, 0) := rfl
theorem cleanL_cons (t : Nat) (k : ByteArray) (r : List ByteArray) (s : DS) : cleanL t (k :: r) s = if staysN t k = true then cleanL t r s else if (dropF s k).2 ≠ 0 then dropF s k else cleanL t r (dropF s k).1 := rfl
theorem now_ne {k : ByteArray} (h : ¬ k = ckNow) : (k.toList == [99, 107, 45, 110, 111, 119]) = false ∧ ¬ k.toList = [99, 107, 45, 110, 111, 119] := by
  have e : ckNow.toList = [99, 107, 45, 110, 111, 119] := by decide +kernel
  have h1 := ba_ne h
  rw [e] at h1
  exact h1.2.2
/-- Between two names. -/
structure ClR (B : Nat) (i p tn n : Nat) (c1 : Nat → Nat) (w1 : World) (N : List ByteArray) (s0 : DS) (v : Value) (wr : World) : Prop where
  ex : ∃ (j : Nat) (c : Nat → Nat) (s : DS), v = .int .i64 (j : Int) ∧ j ≤ n ∧ Ext B (S3 i) c1 w1 c wr ∧ Dk c i wr p s ∧ s.steps ≤ s0.steps + j ∧ cleanL tn N s0 = cleanL tn (N.drop j) s

attribute [local irreducible] currentF dropF listF

end Go.Proofs.YtigdhdclfdojgaaGreat
