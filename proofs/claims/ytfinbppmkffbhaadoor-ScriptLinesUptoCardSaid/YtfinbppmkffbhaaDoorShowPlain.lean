/-
  PLAIN LAWS: a number of two parts as a text, and that the text tells the parts. No program.
-/
import Derived.Lib.ItoaNum
namespace Go.Proofs.YtfinbppmkffbhaaDoor
open Go.Lib

def isDig (c : UInt8) : Bool := 48 ≤ c && c ≤ 57
def valL (l : List UInt8) : Nat := l.foldl (fun v c => 10 * v + (c.toNat - 48)) 0

theorem dig_of (d : Nat) (h : d < 10) : isDig (UInt8.ofNat (48 + d)) = true ∧ (UInt8.ofNat (48 + d)).toNat = 48 + d := by
  have h1 : (UInt8.ofNat (48 + d)).toNat = 48 + d := by simp; omega
  refine ⟨?_, h1⟩
  simp only [isDig, Bool.and_eq_true, decide_eq_true_eq, UInt8.le_iff_toNat_le, h1]
  exact ⟨by simp, by simp; omega⟩
theorem valL_snoc (l : List UInt8) (c : UInt8) : valL (l ++ [c]) = 10 * valL l + (c.toNat - 48) := by
  unfold valL; rw [List.foldl_append, List.foldl_cons, List.foldl_nil]

theorem dec_all (u : Nat) : (∀ c ∈ decDigits u, isDig c = true) ∧ valL (decDigits u) = u := by
  induction u using Nat.strongRecOn with
  | _ u ih =>
    rw [decDigits]
    split
    · rename_i h
      have hd := dig_of u h
      refine ⟨fun c hc => ?_, ?_⟩
      · rw [List.mem_singleton.1 hc]; exact hd.1
      · show 10 * 0 + ((UInt8.ofNat (48 + u)).toNat - 48) = u
        rw [hd.2]; omega
    · rename_i h
      have hi := ih (u / 10) (by omega)
      have hd := dig_of (u % 10) (by omega)
      refine ⟨fun c hc => ?_, ?_⟩
      · rcases List.mem_append.1 hc with hc | hc
        · exact hi.1 c hc
        · rw [List.mem_singleton.1 hc]; exact hd.1
      · rw [valL_snoc, hi.2, hd.2]; omega
theorem decDigits_inj {u v : Nat} (h : decDigits u = decDigits v) : u = v := by
  rw [← (dec_all u).2, ← (dec_all v).2, h]

/-- The sign and the digits of the second part. -/
def signC (m : Int) : UInt8 := if m < 0 then 45 else 43
def showL (n m : Int) : List UInt8 := itoa n ++ signC m :: decDigits m.natAbs ++ [105]

theorem sgn_itoa (m : Int) : (if m < 0 then ([] : List UInt8) else [43]) ++ itoa m = signC m :: decDigits m.natAbs := by
  unfold itoa signC
  by_cases h : m < 0
  · rw [if_pos h, if_pos h, if_pos h]; rfl
  · rw [if_neg h, if_neg h, if_neg h, show m.toNat = m.natAbs by omega]; rfl

theorem split_last {l1 l2 r1 r2 : List UInt8} {c1 c2 : UInt8} (h1 : ∀ c ∈ r1, isDig c = true) (h2 : ∀ c ∈ r2, isDig c = true) (g1 : isDig c1 = false) (g2 : isDig c2 = false) (h : l1 ++ c1 :: r1 = l2 ++ c2 :: r2) : l1 = l2 ∧ c1 = c2 ∧ r1 = r2 := by
  have key : ∀ {a1 a2 b1 b2 : List UInt8} {c1 c2 : UInt8}, (∀ c ∈ a1, isDig c = true) → (∀ c ∈ a2, isDig c = true) → isDig c1 = false → isDig c2 = false → a1 ++ c1 :: b1 = a2 ++ c2 :: b2 → a1 = a2 ∧ c1 = c2 ∧ b1 = b2 := by
    intro a1
    induction a1 with
    | nil =>
      intro a2 b1 b2 c1 c2 _ h2 g1 _ h
      cases a2 with
      | nil => simp at h; exact ⟨rfl, h.1, h.2⟩
      | cons x a2 =>
        simp at h
        have := h2 x (by simp)
        rw [← h.1, g1] at this
        cases this
    | cons y a1 ih =>
      intro a2 b1 b2 c1 c2 h1 h2 g1 g2 h
      cases a2 with
      | nil =>
        simp at h
        have := h1 y (by simp)
        rw [h.1, g2] at this
        cases this
      | cons x a2 =>
        simp at h
        obtain ⟨rfl, h⟩ := h
        obtain ⟨e1, e2, e3⟩ := ih (fun c hc => h1 c (by simp [hc])) (fun c hc => h2 c (by simp [hc])) g1 g2 h
        exact ⟨by rw [e1], e2, e3⟩
  have hr := congrArg List.reverse h
  simp only [List.reverse_append, List.reverse_cons, List.append_assoc, List.singleton_append] at hr
  obtain ⟨e1, e2, e3⟩ := key (fun c hc => h1 c (by simpa using hc)) (fun c hc => h2 c (by simpa using hc)) g1 g2 hr
  exact ⟨List.reverse_inj.1 e3, e2, List.reverse_inj.1 e1⟩

theorem signC_no (m : Int) : isDig (signC m) = false := by unfold signC; split <;> decide

theorem itoa_inj {n m : Int} (h : itoa n = itoa m) : n = m := by
  unfold itoa at h
  have no45 : ∀ u (l : List UInt8), decDigits u = 45 :: l → False := fun u l h => by
    have := (dec_all u).1 45 (by rw [h]; simp)
    exact absurd this (by decide)
  by_cases h1 : n < 0
  · by_cases h2 : m < 0
    · rw [if_pos h1, if_pos h2] at h
      have := decDigits_inj (List.cons.inj h).2
      omega
    · rw [if_pos h1, if_neg h2] at h
      exact (no45 _ _ h.symm).elim
  · by_cases h2 : m < 0
    · rw [if_neg h1, if_pos h2] at h
      exact (no45 _ _ h).elim
    · rw [if_neg h1, if_neg h2] at h
      have := decDigits_inj h
      omega

theorem showL_inj {n m k l : Int} (h : showL n m = showL k l) : n = k ∧ m = l := by
  unfold showL at h
  have h' := List.append_cancel_right h
  obtain ⟨e1, e2, e3⟩ := split_last (dec_all _).1 (dec_all _).1 (signC_no m) (signC_no l) h'
  refine ⟨itoa_inj e1, ?_⟩
  have e4 := decDigits_inj e3
  unfold signC at e2
  by_cases a : m < 0 <;> by_cases b : l < 0
  · omega
  · rw [if_pos a, if_neg b] at e2; exact absurd e2 (by decide)
  · rw [if_neg a, if_pos b] at e2; exact absurd e2 (by decide)
  · omega

theorem nDigits_pow : ∀ (k u : Nat), nDigits u = k + 1 → 10 ^ k ≤ u ∨ u = 0 := by
  intro k
  induction k with
  | zero => intro u _; rcases Nat.eq_zero_or_pos u with h | h; exact Or.inr h; exact Or.inl (by simp; omega)
  | succ k ih =>
    intro u hk
    have hb : ¬ u < 10 := fun c => by rw [nDigits_small c] at hk; omega
    rw [nDigits_big hb] at hk
    rcases ih (u / 10) (by omega) with h2 | h2
    · left
      have := Nat.mul_le_mul_left 10 h2
      rw [Nat.pow_succ]; omega
    · omega
theorem decDigits_len (u : Nat) (h : u < 10000000000000000000000) : (decDigits u).length ≤ 22 := by
  rw [decDigits_length]
  rcases Nat.lt_or_ge (nDigits u) 23 with c | c
  · omega
  · exfalso
    rcases nDigits_pow (nDigits u - 1) u (by omega) with h2 | h2
    · have : 10 ^ 22 ≤ 10 ^ (nDigits u - 1) := Nat.pow_le_pow_right (by decide) (by omega)
      have h3 : (10 : Nat) ^ 22 = 10000000000000000000000 := by decide
      omega
    · subst h2; rw [nDigits_small (by decide)] at c; omega
theorem itoa_len (n : Int) (h : n.natAbs < 10000000000000000000000) : (itoa n).length ≤ 23 := by
  unfold itoa
  split
  · have := decDigits_len _ h; simp; omega
  · have := decDigits_len n.toNat (by omega); omega

end Go.Proofs.YtfinbppmkffbhaaDoor
