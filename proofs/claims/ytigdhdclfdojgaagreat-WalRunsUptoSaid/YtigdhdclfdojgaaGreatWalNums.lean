/-
  wal: names and numbers, in plain Lean.
-/
import Derived.Test.YtigdhdclfdojgaaGreatWalHeadSame
import Derived.Test.YtigdhdclfdojgaaGreatRefDiskC
namespace Go.Proofs.YtigdhdclfdojgaaGreat
open Go.RowKit

theorem toL_walName (n : Nat) : toL (walName n) = walL n := rfl
theorem numD_ok : ∀ (l : List UInt8) (n : Nat), numD l n ≠ 0 → ∀ c ∈ l, 48 ≤ c.toNat ∧ c.toNat ≤ 57
  | [], _, _, c, hc => by cases hc
  | x :: r, n, h, c, hc => by
    rw [numD_cons] at h
    split at h
    · exact absurd rfl h
    · rename_i hx
      rcases List.mem_cons.1 hc with e | e
      · subst e; omega
      · exact numD_ok r _ h c e
theorem numD_go {c : UInt8} {r : List UInt8} {n : Nat} (h1 : 48 ≤ c.toNat) (h2 : c.toNat ≤ 57) : numD (c :: r) n = numD r (10 * n + (c.toNat - 48)) := by
  rw [numD_cons, if_neg (by omega)]
theorem dg_is {c : UInt8} {x : Nat} (h : c.toNat = 48 + x % 10) : dg x = c := by
  apply UInt8.toNat_inj.1
  rw [dg_val, h]
theorem number_back {k : ByteArray} (h : numberN k ≠ 0) : walName (numberN k) = k := by
  have hn : numberN k = if Lib.hasPrefix (toL k) walPre = true ∧ (toL k).length = 10 then numD ((toL k).drop 4) 0 else 0 := rfl
  by_cases hp : Lib.hasPrefix (toL k) walPre = true ∧ (toL k).length = 10
  case neg => rw [if_neg hp] at hn; exact absurd hn h
  rw [if_pos hp] at hn
  obtain ⟨hp1, hp2⟩ := hp
  have hpre : walPre <+: toL k := List.isPrefixOf_iff_prefix.1 hp1
  obtain ⟨t, ht⟩ := hpre
  have htl : t.length = 6 := by
    have := congrArg List.length ht
    rw [List.length_append, hp2] at this
    have e : walPre.length = 4 := rfl
    omega
  obtain ⟨c0, c1, c2, c3, c4, c5, rfl⟩ : ∃ c0 c1 c2 c3 c4 c5, t = [c0, c1, c2, c3, c4, c5] := by
    match t, htl with
    | [c0, c1, c2, c3, c4, c5], _ => exact ⟨c0, c1, c2, c3, c4, c5, rfl⟩
  have hd : (toL k).drop 4 = [c0, c1, c2, c3, c4, c5] := by rw [← ht]; rfl
  rw [hd] at hn
  have ho := numD_ok [c0, c1, c2, c3, c4, c5] 0 (by rw [← hn]; exact h)
  have h0 := ho c0 (by simp)
  have h1 := ho c1 (by simp)
  have h2 := ho c2 (by simp)
  have h3 := ho c3 (by simp)
  have h4 := ho c4 (by simp)
  have h5 := ho c5 (by simp)
  rw [numD_go h0.1 h0.2, numD_go h1.1 h1.2, numD_go h2.1 h2.2, numD_go h3.1 h3.2, numD_go h4.1 h4.2, numD_go h5.1 h5.2, numD_nil] at hn
  generalize numberN k = n at *
  have e : walName n = ofL (toL k) := by
    rw [← ht]
    show ofL (walL n) = _
    unfold walL dig6
    rw [dg_is (c := c0) (by omega), dg_is (c := c1) (by omega), dg_is (c := c2) (by omega), dg_is (c := c3) (by omega), dg_is (c := c4) (by omega), dg_is (c := c5) (by omega)]
  rw [e, ofL_toL]
theorem numD_dg (x : Nat) (r : List UInt8) (n : Nat) : numD (dg x :: r) n = numD r (10 * n + x % 10) := by
  have h := dg_val x
  rw [numD_go (by omega) (by omega), h, Nat.add_sub_cancel_left]
theorem number_of (n : Nat) (hn : n ≤ 999999) : numberN (walName n) = n := by
  have hp : Lib.hasPrefix (toL (walName n)) walPre = true ∧ (toL (walName n)).length = 10 := ⟨List.isPrefixOf_iff_prefix.2 ⟨dig6 n, rfl⟩, length_walL n⟩
  unfold numberN
  rw [if_pos hp]
  have hd : (toL (walName n)).drop 4 = dig6 n := rfl
  rw [hd]
  unfold dig6
  rw [numD_dg, numD_dg, numD_dg, numD_dg, numD_dg, numD_dg, numD_nil]
  omega
theorem dg_lt (x y : Nat) : dg x < dg y ↔ x % 10 < y % 10 := by
  rw [UInt8.lt_iff_toNat_lt, dg_val, dg_val]
  omega
theorem dg_eq (x y : Nat) : dg x = dg y ↔ x % 10 = y % 10 := by
  rw [← UInt8.toNat_inj, dg_val, dg_val]
  omega
theorem lt_step {x y : Nat} (h : x < y) : x / 10 < y / 10 ∨ (x / 10 = y / 10 ∧ x % 10 < y % 10) := by omega
theorem walName_lt {a b : Nat} (h : a < b) (hb : b ≤ 999999) : toL (walName a) < toL (walName b) := by
  have d2 : ∀ n : Nat, n / 100 = n / 10 / 10 := fun n => by omega
  have d3 : ∀ n : Nat, n / 1000 = n / 10 / 10 / 10 := fun n => by omega
  have d4 : ∀ n : Nat, n / 10000 = n / 10 / 10 / 10 / 10 := fun n => by omega
  have d5 : ∀ n : Nat, n / 100000 = n / 10 / 10 / 10 / 10 / 10 := fun n => by omega
  have hb5 : b / 10 / 10 / 10 / 10 / 10 ≤ 9 := by rw [← d5]; omega
  rw [toL_walName, toL_walName]
  unfold walL walPre dig6
  simp only [List.cons_append, List.nil_append, List.cons_lt_cons_iff, UInt8.lt_irrefl, false_or, true_and, dg_lt, dg_eq, List.lt_irrefl, and_false, or_false, d2, d3, d4, d5]
  rcases lt_step h with h1 | ⟨e, l⟩
  · rcases lt_step h1 with h2 | ⟨e, l⟩
    · rcases lt_step h2 with h3 | ⟨e, l⟩
      · rcases lt_step h3 with h4 | ⟨e, l⟩
        · rcases lt_step h4 with h5 | ⟨e, l⟩
          · refine Or.inl ?_
            rw [Nat.mod_eq_of_lt (by omega), Nat.mod_eq_of_lt (by omega)]
            exact h5
          · rw [e]
            exact Or.inr ⟨rfl, Or.inl l⟩
        · rw [e]
          exact Or.inr ⟨rfl, Or.inr ⟨rfl, Or.inl l⟩⟩
      · rw [e]
        exact Or.inr ⟨rfl, Or.inr ⟨rfl, Or.inr ⟨rfl, Or.inl l⟩⟩⟩
    · rw [e]
      exact Or.inr ⟨rfl, Or.inr ⟨rfl, Or.inr ⟨rfl, Or.inr ⟨rfl, Or.inl l⟩⟩⟩⟩
  · rw [e]
    exact Or.inr ⟨rfl, Or.inr ⟨rfl, Or.inr ⟨rfl, Or.inr ⟨rfl, Or.inr ⟨rfl, l⟩⟩⟩⟩⟩
theorem okc_dg (x : Nat) : okc (dg x) = true := by
  have h : ∀ y : Fin 10, okc (UInt8.ofNat (48 + y.1)) = true := by decide
  exact h ⟨x % 10, by omega⟩
theorem nameOk_wal (n : Nat) : nameOk (walName n) = true := by
  show rightL (walL n) = true
  unfold rightL walL dig6
  simp only [List.all_append, List.all_cons, List.all_nil, okc_dg, Bool.and_true]
  rfl

end Go.Proofs.YtigdhdclfdojgaaGreat
