/-
  The texts SnapClean in one: what the claim reaches of them.
-/
import Derived.Test.YtgbgbokcohfnpaaGreatP07
import Derived.Test.YtgbgbokcohfnpaaGreatP04
/-
  THE WALK of snap: Clean.
-/
namespace Go.Proofs.YtgbgbokcohfnpaaGreat
open Go.RowKit

theorem nameOk_size {k : ByteArray} (h : nameOk k = true) : k.size ≤ 24 := by
  unfold nameOk rightL at h
  simp only [Bool.and_eq_true, decide_eq_true_eq] at h
  have := h.1.2
  simpa using this
theorem listF_ok {s : DS} (h : DOk s) : ∀ k ∈ listF s, k.size ≤ 24 := by
  intro k hk
  unfold listF at hk
  split at hk
  · cases hk
  · obtain ⟨x, hx, rfl⟩ := List.mem_map.1 (namesF_mem k hk)
    exact nameOk_size (h.names x hx)
theorem listF_len {s : DS} (h : DOk s) : (listF s).length ≤ 64 := by
  unfold listF
  split
  · simp
  · unfold namesF
    rw [sortN_length, List.length_map]
    exact h.len
attribute [local irreducible] currentF dropF listF
end Go.Proofs.YtgbgbokcohfnpaaGreat
