/-
  PLAIN LAWS, NO PROGRAM: any float of 64 bits against the bounds: it is a whole number within them, or it is told.
-/
import Derived.Test.YtglaahejijfclaaDoorFloatInt
namespace Go.Proofs.YtglaahejijfclaaDoor
open Ieee

theorem read_cases (x : Nat) : (∃ s t, double.read x = .nan s t) ∨ (∃ s, double.read x = .infinity s) ∨ (∃ (s : Bool) (m i : Nat), double.read x = .number s m (i : Int) ∧ 0 < i ∧ 4503599627370496 ≤ m) ∨ (∃ (s : Bool) (m e : Nat), double.read x = .number s m (-(e : Int))) := by
  have hlp : double.leastPlace = -1074 := by decide
  have hbin : double.binade = 4503599627370496 := rfl
  have hinf : double.infRung = 9218868437227405312 := by decide
  have hsw : double.signWeight = 9223372036854775808 := by decide
  unfold Format.read
  simp only [hlp, hbin, hinf, hsw]
  generalize x % 9223372036854775808 = r
  by_cases h1 : r < 4503599627370496
  · rw [if_pos h1]
    exact Or.inr (Or.inr (Or.inr ⟨_, _, 1074, rfl⟩))
  · rw [if_neg h1]
    by_cases h2 : r < 9218868437227405312
    · rw [if_pos h2]
      by_cases h3 : r / 4503599627370496 - 1 ≤ 1074
      · have he : (-1074 : Int) + ((r / 4503599627370496 - 1 : Nat) : Int) = -((1074 - (r / 4503599627370496 - 1) : Nat) : Int) := by omega
        rw [he]
        exact Or.inr (Or.inr (Or.inr ⟨_, _, _, rfl⟩))
      · have he : (-1074 : Int) + ((r / 4503599627370496 - 1 : Nat) : Int) = ((r / 4503599627370496 - 1 - 1074 : Nat) : Int) := by omega
        rw [he]
        exact Or.inr (Or.inr (Or.inl ⟨_, _, _, rfl, by omega, by omega⟩))
    · rw [if_neg h2]
      by_cases h3 : r = 9218868437227405312
      · rw [if_pos h3]; exact Or.inr (Or.inl ⟨_, rfl⟩)
      · rw [if_neg h3]; exact Or.inl ⟨_, _, rfl⟩

/-- A number of at most 53 digits behind the point, held against a whole one. -/
theorem order_frac {c : Datum} {N : Int} (s : Bool) (m e : Nat) (hc : IsDat c N) :
    (Datum.number s m (-(e : Int))).order c = some (compare (if s then -(m : Int) else (m : Int)) (N * 2 ^ e)) := by
  obtain ⟨t, f, q, rfl, rfl, g0, g1⟩ := hc
  have hbase : min (-(e : Int)) (-(f : Int)) = -((max e f : Nat) : Int) := by omega
  have e1 : (-(e : Int) - -((max e f : Nat) : Int)).toNat = max e f - e := by omega
  have e2 : (-(f : Int) - -((max e f : Nat) : Int)).toNat = max e f - f := by omega
  simp only [Datum.order, hbase, e1, e2, signed_eq _ _ _ _ g0 g1]
  rw [show f + (max e f - f) = max e f by omega]
  have hs : signed s m (max e f - e) = (if s then -(m : Int) else (m : Int)) * 2 ^ (max e f - e) := by
    unfold signed
    rw [Nat.shiftLeft_eq]
    push_cast
    cases s <;> simp [Int.neg_mul]
  have hN : N * 2 ^ max e f = (N * 2 ^ e) * 2 ^ (max e f - e) := by
    rw [Int.mul_assoc, ← Int.pow_add]; congr 2; omega
  rw [hs, hN]
  generalize (if s then -(m : Int) else (m : Int)) = a
  generalize N * 2 ^ e = b
  have hp : (0 : Int) < 2 ^ (max e f - e) := Int.pow_pos (by decide)
  generalize (2 : Int) ^ (max e f - e) = p at *
  congr 1
  simp only [compare, compareOfLessAndEq]
  rcases Int.lt_trichotomy a b with h | h | h
  · have := Int.mul_lt_mul_of_pos_right h hp
    rw [if_pos h, if_pos this]
  · subst h; simp
  · have := Int.mul_lt_mul_of_pos_right h hp
    rw [if_neg (by omega), if_neg (by omega), if_neg (by omega), if_neg (by omega)]

theorem order_big {c : Datum} {N : Int} (s : Bool) (m i : Nat) (hc : IsDat c N) (_hi : 0 < i) :
    (Datum.number s m (i : Int)).order c = some (compare ((if s then -(m : Int) else (m : Int)) * 2 ^ i) N) := by
  obtain ⟨t, f, q, rfl, rfl, g0, g1⟩ := hc
  have hbase : min (i : Int) (-(f : Int)) = -(f : Int) := by omega
  have e1 : ((i : Int) - -(f : Int)).toNat = i + f := by omega
  have e2 : (-(f : Int) - -(f : Int)).toNat = 0 := by omega
  simp only [Datum.order, hbase, e1, e2, signed_eq _ _ _ _ g0 g1]
  have hs : signed s m (i + f) = ((if s then -(m : Int) else (m : Int)) * 2 ^ i) * 2 ^ f := by
    unfold signed
    rw [Nat.shiftLeft_eq, Int.mul_assoc, ← Int.pow_add]
    push_cast
    cases s <;> simp [Int.neg_mul]
  rw [hs, Nat.add_zero]
  generalize (if s then -(m : Int) else (m : Int)) * 2 ^ i = a
  have hp : (0 : Int) < 2 ^ f := Int.pow_pos (by decide)
  generalize (2 : Int) ^ f = p at *
  congr 1
  simp only [compare, compareOfLessAndEq]
  rcases Int.lt_trichotomy a N with h | h | h
  · have := Int.mul_lt_mul_of_pos_right h hp
    rw [if_pos h, if_pos this]
  · subst h; simp
  · have := Int.mul_lt_mul_of_pos_right h hp
    rw [if_neg (by omega), if_neg (by omega), if_neg (by omega), if_neg (by omega)]

theorem big_mul (m i : Nat) (hm : 4503599627370496 ≤ m) : (1048576 : Int) < (m : Int) * 2 ^ i := by
  have h1 : (1 : Int) ≤ 2 ^ i := by have : (0 : Int) < 2 ^ i := Int.pow_pos (by decide); omega
  have := Int.mul_le_mul_of_nonneg_left h1 (show (0 : Int) ≤ m by omega)
  omega

/-- The datum without its sign. -/
def mag : Datum → Datum
  | .number _ m i => .number false m i
  | .infinity _ => .infinity false
  | .nan _ t => .nan false t
theorem read_mag (x : Nat) : double.read (x % 9223372036854775808) = mag (double.read x) := by
  rw [read_low]; cases double.read x <;> rfl

/-- Above the bounds. -/
theorem mag_gt (N : Int) (d c : Datum) (hc : IsDat c N) (h : (∃ s, d = .infinity s) ∨ (∃ (s : Bool) (m i : Nat), d = .number s m (i : Int) ∧ 0 < i ∧ N < (m : Int) * 2 ^ i) ∨ (∃ (s : Bool) (m e : Nat), d = .number s m (-(e : Int)) ∧ N * 2 ^ e < (m : Int))) :
    (mag d).order c = some .gt := by
  rcases h with ⟨s, rfl⟩ | ⟨s, m, i, rfl, hi, hm2⟩ | ⟨s, m, e, rfl, hm2⟩
  · obtain ⟨t, f, q, rfl, -⟩ := hc
    rfl
  · show (Datum.number false m (i : Int)).order c = _
    rw [order_big false m i hc hi]
    congr 1
    exact Int.compare_eq_gt.2 hm2
  · show (Datum.number false m (-(e : Int))).order c = _
    rw [order_frac false m e hc]
    congr 1
    exact Int.compare_eq_gt.2 hm2
theorem pow_cast (a e m : Nat) (h : a * 2 ^ e < m) : (a : Int) * 2 ^ e < (m : Int) := by exact_mod_cast h
theorem gt_of_not_small (x : Nat) (h : (∃ s, double.read x = .infinity s) ∨ (∃ (s : Bool) (m i : Nat), double.read x = .number s m (i : Int) ∧ 0 < i ∧ 4503599627370496 ≤ m) ∨ (∃ (s : Bool) (m e : Nat), double.read x = .number s m (-(e : Int)) ∧ 1048576 * 2 ^ e < m)) :
    FloatKind.f64.format.order (x % 9223372036854775808) 4697254411347427328 = some .gt := by
  show (double.read (x % 9223372036854775808)).order _ = _
  rw [read_mag]
  refine mag_gt 1048576 _ _ fi_max.dat ?_
  rcases h with h | ⟨s, m, i, h, hi, hm⟩ | ⟨s, m, e, h, hm⟩
  · exact Or.inl h
  · exact Or.inr (Or.inl ⟨s, m, i, h, hi, big_mul m i hm⟩)
  · exact Or.inr (Or.inr ⟨s, m, e, h, pow_cast 1048576 e m hm⟩)

theorem sgn_natAbs (s : Bool) (k : Nat) : (if s then -(k : Int) else (k : Int)).natAbs = k := by cases s <;> simp

/-- A number cut, and whether it was whole. -/
theorem cut_small {x s m e} (h : double.read x = .number s m (-((e : Nat) : Int))) (hm : m ≤ 1048576 * 2 ^ e) :
    ∃ n : Int, (-1048576 ≤ n ∧ n ≤ 1048576) ∧ (double.read x).integral .zero = .number s n.natAbs 0 ∧ (n < 0 → s = true) ∧ (0 < n → s = false) ∧ (double.read x).toInt .zero = some n ∧
      ∀ c, IsDat c n → c.order (double.read x) = some .eq → IsDat (double.read x) n := by
  have hp : 0 < 2 ^ e := Nat.two_pow_pos e
  have hk : m / 2 ^ e ≤ 1048576 := by
    have := Nat.div_le_div_right (c := 2 ^ e) hm
    rwa [Nat.mul_div_cancel _ hp] at this
  have hi : (Datum.number s m (-(e : Int))).integral .zero = .number s (m / 2 ^ e) 0 := by
    have e1 : (-(e : Int)).toNat = 0 := by omega
    have e2 : (- -(e : Int)).toNat = e := by omega
    simp only [Datum.integral, e1, e2, Nat.shiftLeft_zero]
    congr 1
    unfold Toward.cut
    simp only [Nat.one_shiftLeft, Bool.toNat_false, Nat.add_zero]
    by_cases hc : e ≤ m.log2 + 2
    · rw [Nat.min_eq_left hc]
    · rw [Nat.min_eq_right (by omega)]
      have h1 := Nat.lt_log2_self (n := m)
      have h2 : 2 ^ (m.log2 + 1) ≤ 2 ^ (m.log2 + 2) := Nat.pow_le_pow_right (by decide) (by omega)
      have h3 : 2 ^ (m.log2 + 2) ≤ 2 ^ e := Nat.pow_le_pow_right (by decide) (by omega)
      rw [Nat.div_eq_of_lt (by omega), Nat.div_eq_of_lt (by omega)]
  have hkm : (m = m / 2 ^ e * 2 ^ e) = ((m : Int) = ((m / 2 ^ e : Nat) : Int) * 2 ^ e) := by
    apply propext
    constructor
    · intro h; exact_mod_cast congrArg (Nat.cast (R := Int)) h
    · intro h; exact_mod_cast h
  generalize m / 2 ^ e = k at *
  refine ⟨if s then -(k : Int) else (k : Int), ?_, ?_, ?_, ?_, ?_, ?_⟩
  · cases s <;> simp <;> omega
  · rw [h, hi, sgn_natAbs]
  · cases s <;> simp
  · cases s <;> simp
  · rw [h]
    simp only [Datum.toInt, hi, signed, Nat.shiftLeft_zero]
  · intro c hc ho
    rw [h] at ho ⊢
    obtain ⟨t, f, q, rfl, rfl, g0, g1⟩ := hc
    have hbase : min (-(f : Int)) (-(e : Int)) = -((max e f : Nat) : Int) := by omega
    have e1 : (-(e : Int) - -((max e f : Nat) : Int)).toNat = max e f - e := by omega
    have e2 : (-(f : Int) - -((max e f : Nat) : Int)).toNat = max e f - f := by omega
    simp only [Datum.order, hbase, e1, e2, signed_eq _ _ _ _ g0 g1] at ho
    rw [show f + (max e f - f) = max e f by omega] at ho
    have hs : signed s m (max e f - e) = (if s then -(m : Int) else (m : Int)) * 2 ^ (max e f - e) := by
      unfold signed
      rw [Nat.shiftLeft_eq]
      push_cast
      cases s <;> simp [Int.neg_mul]
    rw [hs] at ho
    have hN : ∀ N : Int, N * 2 ^ max e f = (N * 2 ^ e) * 2 ^ (max e f - e) := by
      intro N
      rw [Int.mul_assoc, ← Int.pow_add]; congr 2; omega
    rw [hN] at ho
    have heq := Option.some.inj ho
    have heq := (Int.compare_eq_eq).1 heq
    have hpp : (0 : Int) < 2 ^ (max e f - e) := Int.pow_pos (by decide)
    have heq := Int.eq_of_mul_eq_mul_right (by omega) heq
    have hmm : m = k * 2 ^ e := by
      rw [hkm]
      cases s
      · simpa using heq.symm
      · simp [Int.neg_mul] at heq; exact heq.symm
    refine ⟨s, e, m, rfl, ?_, ?_, ?_⟩
    · rw [sgn_natAbs]; exact hmm
    · cases s <;> simp
    · cases s <;> simp

end Go.Proofs.YtglaahejijfclaaDoor
