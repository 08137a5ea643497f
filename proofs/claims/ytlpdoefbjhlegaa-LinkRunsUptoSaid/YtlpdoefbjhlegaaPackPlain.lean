/-
  PLAIN LAWS of packed numbers: how a number is written, how it is read, that it has one form. No program.
-/
import Derived.Test.YtlpdoefbjhlegaaBase
namespace Go.Proofs.Ytlpdoefbjhlegaa

/-- How many bytes a number has. -/
def sizeN (u : Nat) : Nat :=
  if u = 0 then 0 else if u < 256 then 1 else if u < 65536 then 2 else if u < 16777216 then 3 else if u < 4294967296 then 4
  else if u < 1099511627776 then 5 else if u < 281474976710656 then 6 else if u < 72057594037927936 then 7 else 8
/-- The last k bytes, the most significant one first. -/
def beN : Nat → Nat → List UInt8
  | 0, _ => []
  | k + 1, u => UInt8.ofNat (u / 256 ^ k) :: beN k u
def numL (u : Nat) : List UInt8 := UInt8.ofNat (sizeN u) :: beN (sizeN u) u
def ofBE (l : List UInt8) : Nat := l.foldl (fun u c => 256 * u + c.toNat) 0

theorem length_beN (k u : Nat) : (beN k u).length = k := by
  induction k with
  | zero => rfl
  | succ k ih => simp [beN, ih]
theorem sizeN_le (u : Nat) : sizeN u ≤ 8 := by
  unfold sizeN; repeat' split
  all_goals omega
theorem length_numL (u : Nat) : (numL u).length = sizeN u + 1 := by simp [numL, length_beN]

theorem foldl_be (l : List UInt8) : ∀ a : Nat, l.foldl (fun u c => 256 * u + c.toNat) a = a * 256 ^ l.length + ofBE l := by
  unfold ofBE
  induction l with
  | nil => intro a; simp
  | cons c l ih =>
    intro a
    simp only [List.foldl_cons, List.length_cons]
    rw [ih, ih (256 * 0 + c.toNat), Nat.pow_succ]
    simp only [Nat.mul_zero, Nat.zero_add, Nat.add_mul]
    rw [Nat.mul_comm 256 a, Nat.mul_assoc, Nat.mul_comm 256 (256 ^ l.length), Nat.add_assoc]
theorem ofBE_cons (c : UInt8) (l : List UInt8) : ofBE (c :: l) = c.toNat * 256 ^ l.length + ofBE l := by
  have h := foldl_be l (256 * 0 + c.toNat)
  simp only [Nat.mul_zero, Nat.zero_add] at h
  rw [← h]
  unfold ofBE
  simp
theorem ofBE_snoc (l : List UInt8) (c : UInt8) : ofBE (l ++ [c]) = 256 * ofBE l + c.toNat := by
  unfold ofBE; rw [List.foldl_append, List.foldl_cons, List.foldl_nil]
theorem ofBE_lt (l : List UInt8) : ofBE l < 256 ^ l.length := by
  induction l with
  | nil => simp [ofBE]
  | cons c l ih =>
    rw [ofBE_cons, List.length_cons, Nat.pow_succ]
    have hc := c.toNat_lt
    have h1 : (c.toNat + 1) * 256 ^ l.length ≤ 256 * 256 ^ l.length := Nat.mul_le_mul_right _ (by omega)
    rw [Nat.add_mul] at h1
    omega

theorem ofBE_beN (k : Nat) : ∀ u, ofBE (beN k u) = u % 256 ^ k := by
  induction k with
  | zero => intro u; simp [beN, ofBE, Nat.mod_one]
  | succ k ih =>
    intro u
    rw [beN, ofBE_cons, ih, length_beN, UInt8.toNat_ofNat']
    show u / 256 ^ k % 256 * 256 ^ k + u % 256 ^ k = _
    rw [Nat.pow_succ, Nat.mod_mul, Nat.mul_comm, Nat.add_comm]
theorem beN_ofBE (l : List UInt8) : beN l.length (ofBE l) = l := by
  induction l with
  | nil => rfl
  | cons c l ih =>
    have hlt := ofBE_lt l
    have hp : 0 < 256 ^ l.length := Nat.pow_pos (by omega)
    rw [List.length_cons, beN]
    have e1 : ofBE (c :: l) / 256 ^ l.length = c.toNat := by
      rw [ofBE_cons, Nat.mul_comm, Nat.mul_add_div hp, Nat.div_eq_of_lt hlt, Nat.add_zero]
    have e2 : beN l.length (ofBE (c :: l)) = beN l.length (ofBE l) := by
      have key : ∀ k u v, k ≤ l.length → beN k (v * 256 ^ l.length + u) = beN k u := by
        intro k
        induction k with
        | zero => intros; rfl
        | succ k ih2 =>
          intro u v hk
          rw [beN, beN, ih2 u v (by omega)]
          congr 1
          apply UInt8.toNat_inj.1
          rw [UInt8.toNat_ofNat', UInt8.toNat_ofNat']
          have hd : 256 ^ l.length = 256 ^ k * (256 * 256 ^ (l.length - k - 1)) := by
            rw [← Nat.pow_succ', ← Nat.pow_add]; congr 1; omega
          rw [hd, Nat.mul_comm v, Nat.mul_assoc, Nat.mul_add_div (Nat.pow_pos (by omega))]
          show (256 * 256 ^ (l.length - k - 1) * v + u / 256 ^ k) % 256 = _
          rw [Nat.mul_assoc, Nat.mul_add_mod]
      rw [ofBE_cons]
      exact key _ _ _ (Nat.le_refl _)
    rw [e1, e2, ih]
    congr 1
    apply UInt8.toNat_inj.1
    rw [UInt8.toNat_ofNat']
    have := c.toNat_lt
    exact Nat.mod_eq_of_lt this

theorem sizeN_lt (u : Nat) (h : u < 18446744073709551616) : u < 256 ^ sizeN u := by
  unfold sizeN; repeat' split
  all_goals simp; omega
theorem sizeN_min (u : Nat) {k : Nat} (h : u < 256 ^ k) (hk : k ≤ 8) : sizeN u ≤ k := by
  have h8 : k = 0 ∨ k = 1 ∨ k = 2 ∨ k = 3 ∨ k = 4 ∨ k = 5 ∨ k = 6 ∨ k = 7 ∨ k = 8 := by omega
  unfold sizeN
  rcases h8 with rfl | rfl | rfl | rfl | rfl | rfl | rfl | rfl | rfl <;> simp at h <;> (repeat' split) <;> omega
theorem sizeN_big (u : Nat) {k : Nat} (h : 256 ^ k ≤ u) (hk : k < 8) : k < sizeN u := by
  have h8 : k = 0 ∨ k = 1 ∨ k = 2 ∨ k = 3 ∨ k = 4 ∨ k = 5 ∨ k = 6 ∨ k = 7 := by omega
  unfold sizeN
  rcases h8 with rfl | rfl | rfl | rfl | rfl | rfl | rfl | rfl <;> simp at h <;> (repeat' split) <;> omega

/-- A row of at most eight bytes is a number's one form just where it is empty or does not begin with a nought. -/
theorem sizeN_ofBE (l : List UInt8) (hl : l.length ≤ 8) : sizeN (ofBE l) = l.length ↔ (l = [] ∨ ∃ c r, l = c :: r ∧ c ≠ 0) := by
  cases l with
  | nil => simp [ofBE, sizeN]
  | cons c r =>
    have hlt := ofBE_lt r
    have hp : 0 < 256 ^ r.length := Nat.pow_pos (by omega)
    simp only [List.length_cons] at hl ⊢
    constructor
    · intro h
      refine Or.inr ⟨c, r, rfl, fun hc => ?_⟩
      subst hc
      rw [ofBE_cons] at h
      simp only [UInt8.toNat_zero, Nat.zero_mul, Nat.zero_add] at h
      have := sizeN_min _ hlt (by omega)
      omega
    · rintro (h | ⟨c', r', h, hc⟩)
      · cases h
      · obtain ⟨rfl, rfl⟩ := List.cons.inj h
        have h1 := sizeN_min (ofBE (c :: r)) (k := r.length + 1) (ofBE_lt _) hl
        have hc1 : 1 ≤ c.toNat := by
          rcases Nat.eq_zero_or_pos c.toNat with h0 | h0
          · exact (hc (UInt8.toNat_inj.1 h0)).elim
          · exact h0
        have h2 : 256 ^ r.length ≤ ofBE (c :: r) := by
          rw [ofBE_cons]
          have := Nat.mul_le_mul_right (256 ^ r.length) hc1
          omega
        have h3 := sizeN_big _ h2 (by omega)
        omega

theorem beN_take (s u : Nat) {k d : Nat} (h : k + d + 1 = s) : (beN s u).take (k + 1) = (beN s u).take k ++ [UInt8.ofNat (u / 256 ^ d)] := by
  have hk : k < (beN s u).length := by rw [length_beN]; omega
  rw [List.take_succ_eq_append_getElem hk]
  congr 2
  have key : ∀ (s k d : Nat) (hk : k < (beN s u).length), k + d + 1 = s → (beN s u)[k] = UInt8.ofNat (u / 256 ^ d) := by
    intro s
    induction s with
    | zero => intro k d hk h; omega
    | succ s ih =>
      intro k d hk h
      cases k with
      | zero => simp only [beN, List.getElem_cons_zero]; congr 3; omega
      | succ k => simp only [beN, List.getElem_cons_succ]; exact ih k d (by rw [length_beN]; omega) (by omega)
  exact key s k d hk h

end Go.Proofs.Ytlpdoefbjhlegaa
