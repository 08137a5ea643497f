/-
  PLAIN: the number that a text is read as (gaussF), as a function of the text alone.
-/
import Derived.Test.YtfinbppmkffbhaaDoorReadPlain
import Derived.Test.YtfinbppmkffbhaaDoorGauss
import Derived.Test.YtfinbppmkffbhaaDoorWordsPlain
namespace Go.Proofs.YtfinbppmkffbhaaDoor
open Go.Lib

def bodyL (s : List UInt8) : List UInt8 := trimSuffix s [105]
/-- Where the second part begins. -/
def atL (s : List UInt8) : Int := lastPM (bodyL s) (bodyL s).length
def bothL (s a b : List UInt8) : Int × Int × Int :=
  match atoiAll a, atoiAll b with
  | .ok n, .ok m => if rB n m = true then (if showL n m = s then (n, m, 0) else (0, 0, 21)) else (0, 0, 20)
  | _, _ => (0, 0, 21)
/-- The number of a text, and the error: 0, 20 or 21. -/
def gaussF (s : List UInt8) : Int × Int × Int :=
  if hasSuffix s [105] = true ∧ 1 ≤ atL s ∧ s.length ≤ 48 then bothL s ((bodyL s).take (atL s).toNat) ((bodyL s).drop (atL s).toNat) else (0, 0, 21)

theorem bothL_ok {s a b : List UInt8} {n m : Int} (ha : atoiAll a = .ok n) (hb : atoiAll b = .ok m) : bothL s a b = if rB n m = true then (if showL n m = s then (n, m, 0) else (0, 0, 21)) else (0, 0, 20) := by
  unfold bothL
  rw [ha, hb]
theorem bothL_left {s a b : List UInt8} (ha : ∀ n, atoiAll a ≠ .ok n) : bothL s a b = (0, 0, 21) := by
  unfold bothL
  split
  · rename_i n m h1 h2
    exact (ha n h1).elim
  · rfl
theorem bothL_right {s a b : List UInt8} (hb : ∀ n, atoiAll b ≠ .ok n) : bothL s a b = (0, 0, 21) := by
  unfold bothL
  split
  · rename_i n m h1 h2
    exact (hb m h2).elim
  · rfl

theorem parse_low (l : List UInt8) : ∀ (acc u : Nat), parseUint10 acc l = .ok u → ∀ c ∈ l, c.toNat < 128 := by
  induction l with
  | nil => intro acc u _ c hc; cases hc
  | cons x r ih =>
    intro acc u h c hc
    unfold parseUint10 at h
    split at h
    · rename_i d
      split at h
      · cases h
      · split at h
        · cases h
        · rcases List.mem_cons.1 hc with rfl | hc
          · omega
          · exact ih _ u h c hc
    · cases h
theorem mag_low {l : List UInt8} {u : Nat} (h : parseMag l = .ok u) : ∀ c ∈ l, c.toNat < 128 := by
  unfold parseMag at h
  split at h
  · cases h
  · exact parse_low l 0 u h
theorem atoi_low {l : List UInt8} {v : Int} (h : atoiAll l = .ok v) : ∀ c ∈ l, c.toNat < 128 := by
  unfold atoiAll at h
  split at h
  · cases h
  · rename_i c r
    simp only [] at h
    split at h
    · cases h
    · cases h
    · rename_i u hu
      have hl := mag_low hu
      intro x hx
      by_cases hs : c.toNat = 43 ∨ c.toNat = 45
      · rw [if_pos hs] at hl
        rcases List.mem_cons.1 hx with rfl | hx
        · omega
        · exact hl x hx
      · rw [if_neg hs] at hl
        exact hl x hx
theorem low_of {b : List UInt8} {j : Nat} {n m : Int} (h1 : atoiAll (b.take j) = .ok n) (h2 : atoiAll (b.drop j) = .ok m) : ∀ c ∈ b, c.toNat < 128 := by
  intro c hc
  rw [← List.take_append_drop j b] at hc
  rcases List.mem_append.1 hc with hc | hc
  · exact atoi_low h1 c hc
  · exact atoi_low h2 c hc

/-- A text that is not of low bytes is no number. -/
theorem gaussF_high {s : List UInt8} (h : ¬ ∀ c ∈ bodyL s, c.toNat < 128) : gaussF s = (0, 0, 21) := by
  unfold gaussF
  split
  · cases h1 : atoiAll ((bodyL s).take (atL s).toNat) with
    | ok n =>
      cases h2 : atoiAll ((bodyL s).drop (atL s).toNat) with
      | ok m => exact (h (low_of h1 h2)).elim
      | _ => exact bothL_right (fun n => by rw [h2]; intro c; cases c)
    | _ => exact bothL_left (fun n => by rw [h1]; intro c; cases c)
  · rfl
theorem gaussF_suf {s : List UInt8} (h : hasSuffix s [105] = false) : gaussF s = (0, 0, 21) := by
  unfold gaussF
  rw [if_neg (by rw [h]; simp)]
theorem gaussF_len {s : List UInt8} (h : 48 < s.length) : gaussF s = (0, 0, 21) := by
  unfold gaussF
  rw [if_neg (by omega)]
theorem gaussF_at0 {s : List UInt8} {i : Int} (hi : (∀ c ∈ bodyL s, c.toNat < 128) → i = atL s) (h : i < 1) : gaussF s = (0, 0, 21) := by
  by_cases hl : ∀ c ∈ bodyL s, c.toNat < 128
  · have := hi hl
    unfold gaussF
    rw [if_neg (by omega)]
  · exact gaussF_high hl
theorem gaussF_left {s : List UInt8} {j : Nat} (hi : (∀ c ∈ bodyL s, c.toNat < 128) → (j : Int) = atL s) (h : ∀ n, atoiAll ((bodyL s).take j) ≠ .ok n) : gaussF s = (0, 0, 21) := by
  by_cases hl : ∀ c ∈ bodyL s, c.toNat < 128
  · have e : (atL s).toNat = j := by have := hi hl; omega
    unfold gaussF
    rw [e]
    split
    · exact bothL_left h
    · rfl
  · exact gaussF_high hl
theorem gaussF_right {s : List UInt8} {j : Nat} (hi : (∀ c ∈ bodyL s, c.toNat < 128) → (j : Int) = atL s) (h : ∀ n, atoiAll ((bodyL s).drop j) ≠ .ok n) : gaussF s = (0, 0, 21) := by
  by_cases hl : ∀ c ∈ bodyL s, c.toNat < 128
  · have e : (atL s).toNat = j := by have := hi hl; omega
    unfold gaussF
    rw [e]
    split
    · exact bothL_right h
    · rfl
  · exact gaussF_high hl
theorem gaussF_both {s : List UInt8} {j : Nat} {n m : Int} (hi : (∀ c ∈ bodyL s, c.toNat < 128) → (j : Int) = atL s) (hs : hasSuffix s [105] = true) (h1 : 1 ≤ j) (h2 : s.length ≤ 48)
    (ha : atoiAll ((bodyL s).take j) = .ok n) (hb : atoiAll ((bodyL s).drop j) = .ok m) : gaussF s = if rB n m = true then (if showL n m = s then (n, m, 0) else (0, 0, 21)) else (0, 0, 20) := by
  have e := hi (low_of ha hb)
  unfold gaussF
  rw [if_pos ⟨hs, by omega, h2⟩, show (atL s).toNat = j by omega]
  exact bothL_ok ha hb
/-- What is shown is read. -/
theorem gaussF_show (n m : Int) (h : rB n m = true) : gaussF (showL n m) = (n, m, 0) := by
  have b := rB_bound h
  have P := pieces (showL n m) n m (by omega) (by omega) (by omega) (by omega) rfl
  have p := P.pos
  rw [gaussF_both (j := (itoa n).length) (fun _ => P.last.symm) P.suf p P.len P.left P.right, if_pos h, if_pos rfl]
/-- What is read is what is shown of it; an error is one of two. -/
theorem gaussF_cases (s : List UInt8) : (∃ n m, gaussF s = (n, m, 0) ∧ rB n m = true ∧ showL n m = s) ∨ gaussF s = (0, 0, 21) ∨ gaussF s = (0, 0, 20) := by
  unfold gaussF
  split
  · unfold bothL
    split
    · rename_i n m h1 h2
      split
      · rename_i hr
        split
        · rename_i hs
          exact Or.inl ⟨n, m, rfl, hr, hs⟩
        · exact Or.inr (Or.inl rfl)
      · exact Or.inr (Or.inr rfl)
    · exact Or.inr (Or.inl rfl)
  · exact Or.inr (Or.inl rfl)

end Go.Proofs.YtfinbppmkffbhaaDoor
