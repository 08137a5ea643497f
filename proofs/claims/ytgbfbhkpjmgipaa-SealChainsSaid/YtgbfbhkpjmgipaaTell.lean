/-
  PLAIN LAWS of the sum: each step is one to one, so one byte turned is told; a sealed text with one byte turned is not sealed.
-/
import Derived.Test.YtgbfbhkpjmgipaaOpen
namespace Go.Proofs.Ytgbfbhkpjmgipaa

theorem xor_back (h c : Nat) : (h ^^^ c) ^^^ c = h := by
  rw [Nat.xor_assoc, Nat.xor_self, Nat.xor_zero]

theorem mul_back {x : Nat} (hx : x < 18446744073709551616) : (x * 1099511628211 % 18446744073709551616) * 14886173955864302971 % 18446744073709551616 = x := by
  rw [Nat.mod_mul_mod, Nat.mul_assoc, Nat.mul_mod, show 1099511628211 * 14886173955864302971 % 18446744073709551616 = 1 from by decide, Nat.mul_one, Nat.mod_mod, Nat.mod_eq_of_lt hx]

theorem step_inj_h {h h' : Nat} {c : UInt8} (hh : W64 h) (hh' : W64 h') (e : stepN h c = stepN h' c) : h = h' := by
  unfold stepN at e
  have e1 := congrArg (fun y => y * 14886173955864302971 % 18446744073709551616) e
  rw [mul_back (xor_lt64 c hh), mul_back (xor_lt64 c hh')] at e1
  have e2 := congrArg (fun y => y ^^^ c.toNat) e1
  simpa [xor_back] using e2

theorem step_inj_c {h : Nat} {c c' : UInt8} (hh : W64 h) (e : stepN h c = stepN h c') : c = c' := by
  unfold stepN at e
  have e1 := congrArg (fun y => y * 14886173955864302971 % 18446744073709551616) e
  rw [mul_back (xor_lt64 c hh), mul_back (xor_lt64 c' hh)] at e1
  rw [Nat.xor_comm h, Nat.xor_comm h] at e1
  have e2 := congrArg (fun y => y ^^^ h) e1
  simp only [xor_back] at e2
  exact UInt8.toNat_inj.1 e2

theorem sumFrom_cons (h : Nat) (c : UInt8) (l : List UInt8) : sumFrom h (c :: l) = sumFrom (stepN h c) l := by unfold sumFrom; exact List.foldl_cons ..
theorem sumFrom_nil (h : Nat) : sumFrom h [] = h := by unfold sumFrom; exact List.foldl_nil ..

theorem sumFrom_inj (l : List UInt8) : ∀ {h h' : Nat}, W64 h → W64 h' → sumFrom h l = sumFrom h' l → h = h' := by
  induction l with
  | nil => intro h h' _ _ e; simpa [sumFrom_nil] using e
  | cons c l ih =>
    intro h h' hh hh' e
    rw [sumFrom_cons, sumFrom_cons] at e
    exact step_inj_h hh hh' (ih (W64_step _ _) (W64_step _ _) e)

theorem sumFrom_set (l : List UInt8) : ∀ {h : Nat} {k : Nat} (hk : k < l.length) (c : UInt8), W64 h → (sumFrom h (l.set k c) = sumFrom h l ↔ l[k] = c) := by
  induction l with
  | nil => intro h k hk; simp at hk
  | cons x l ih =>
    intro h k hk c hh
    cases k with
    | zero =>
      rw [List.set_cons_zero, sumFrom_cons, sumFrom_cons, List.getElem_cons_zero]
      constructor
      · intro e
        exact (step_inj_c hh (sumFrom_inj l (W64_step _ _) (W64_step _ _) e)).symm
      · rintro rfl; rfl
    | succ k =>
      rw [List.set_cons_succ, sumFrom_cons, sumFrom_cons, List.getElem_cons_succ]
      exact ih (by simpa using hk) c (W64_step _ _)

/-- Two texts of one length that differ in one byte alone have different sums. -/
theorem sum_set {l : List UInt8} {k : Nat} (hk : k < l.length) (c : UInt8) : sumN (l.set k c) = sumN l ↔ l[k] = c := sumFrom_set l hk c W64_start

theorem ofNat_inj {x y : Nat} (h : UInt8.ofNat x = UInt8.ofNat y) : x % 256 = y % 256 := by
  have := congrArg UInt8.toNat h
  simpa using this

theorem eight_inj {h h' : Nat} (hh : W64 h) (hh' : W64 h') (e : eightL h = eightL h') : h = h' := by
  simp only [eightL, List.cons.injEq] at e
  obtain ⟨e0, e1, e2, e3, e4, e5, e6, e7, _⟩ := e
  have a0 := ofNat_inj e0
  have a1 := ofNat_inj e1
  have a2 := ofNat_inj e2
  have a3 := ofNat_inj e3
  have a4 := ofNat_inj e4
  have a5 := ofNat_inj e5
  have a6 := ofNat_inj e6
  have a7 := ofNat_inj e7
  unfold W64 at hh hh'
  clear e0 e1 e2 e3 e4 e5 e6 e7
  have q7 : h / 72057594037927936 = h' / 72057594037927936 := by omega
  have q6 : h / 281474976710656 = h' / 281474976710656 := by omega
  have q5 : h / 1099511627776 = h' / 1099511627776 := by omega
  have q4 : h / 4294967296 = h' / 4294967296 := by omega
  have q3 : h / 16777216 = h' / 16777216 := by omega
  have q2 : h / 65536 = h' / 65536 := by omega
  have q1 : h / 256 = h' / 256 := by omega
  omega

theorem length_eightL (h : Nat) : (eightL h).length = 8 := rfl

/-- One byte of what was sealed, turned into another one, is told. -/
theorem ok_set (l : List UInt8) {k : Nat} (hk : k < (l ++ eightL (sumN l)).length) (c : UInt8) : okSeal ((l ++ eightL (sumN l)).set k c) = ((l ++ eightL (sumN l))[k] == c) := by
  have hlen : ((l ++ eightL (sumN l)).set k c).length = l.length + 8 := by rw [List.length_set, List.length_append, length_eightL]
  rw [okSeal_iff hlen, Bool.eq_iff_iff, beq_iff_eq, beq_iff_eq]
  by_cases hkl : k < l.length
  · rw [List.set_append_left _ _ hkl, List.take_left' (by simp), List.drop_left' (by simp), List.getElem_append_left hkl]
    constructor
    · intro e
      exact (sum_set hkl c).1 (eight_inj (W64_sumN _) (W64_sumN _) e)
    · intro e
      rw [(sum_set hkl c).2 e]
  · have hk8 : k - l.length < (eightL (sumN l)).length := by rw [length_eightL]; rw [List.length_append, length_eightL] at hk; omega
    rw [List.set_append_right _ _ (by omega), List.take_left' rfl, List.drop_left' rfl, List.getElem_append_right (by omega)]
    constructor
    · intro e
      have h1 : (eightL (sumN l))[k - l.length]? = ((eightL (sumN l)).set (k - l.length) c)[k - l.length]? := by rw [← e]
      rw [List.getElem?_eq_getElem hk8, List.getElem?_set_self hk8] at h1
      exact Option.some.inj h1
    · intro e
      rw [← e, List.set_getElem_self]

end Go.Proofs.Ytgbfbhkpjmgipaa
