/-
  PLAIN LAWS: what is shown of a number is read as that number. No program.
-/
import Derived.Test.YtfinbppmkffbhaaDoorShowPlain
import Derived.Test.YtfinbppmkffbhaaDoorLastPM
import Derived.Lib.AtoiAllCases
import Derived.Lib.Strings
namespace Go.Proofs.YtfinbppmkffbhaaDoor
open Go.Lib

theorem isDig_nat {c : UInt8} (h : isDig c = true) : 48 ≤ c.toNat ∧ c.toNat ≤ 57 := by
  simp only [isDig, Bool.and_eq_true, decide_eq_true_eq, UInt8.le_iff_toNat_le] at h
  exact h
theorem fold_ge (l : List UInt8) : ∀ acc : Nat, acc ≤ l.foldl (fun v c => 10 * v + (c.toNat - 48)) acc := by
  induction l with
  | nil => intro acc; exact Nat.le_refl _
  | cons c r ih =>
    intro acc
    have := ih (10 * acc + (c.toNat - 48))
    rw [List.foldl_cons]
    omega
theorem parse_dig (l : List UInt8) (hd : ∀ c ∈ l, isDig c = true) : ∀ acc : Nat, l.foldl (fun v c => 10 * v + (c.toNat - 48)) acc ≤ 9223372036854775808 → parseUint10 acc l = .ok (l.foldl (fun v c => 10 * v + (c.toNat - 48)) acc) := by
  induction l with
  | nil => intro acc _; rfl
  | cons c r ih =>
    intro acc h
    rw [List.foldl_cons] at h
    have g := fold_ge r (10 * acc + (c.toNat - 48))
    have d := isDig_nat (hd c (List.mem_cons_self ..))
    unfold parseUint10
    rw [if_pos d, if_neg (by omega), if_neg (by omega), show acc * 10 + (c.toNat - 48) = 10 * acc + (c.toNat - 48) by omega, ih (fun x hx => hd x (List.mem_cons_of_mem _ hx)) _ h, List.foldl_cons]
theorem dec_ne (u : Nat) : decDigits u ≠ [] := fun h => by
  have := nDigits_pos u
  have h2 := decDigits_length u
  rw [h] at h2
  simp at h2
  omega
theorem parseMag_dec (u : Nat) (h : u ≤ 9223372036854775808) : parseMag (decDigits u) = .ok u := by
  unfold parseMag
  rw [if_neg (dec_ne u)]
  have d := dec_all u
  have e : (decDigits u).foldl (fun v c => 10 * v + (c.toNat - 48)) 0 = u := d.2
  rw [parse_dig _ d.1 0 (by rw [e]; exact h), e]
theorem atoi_dec (u : Nat) (h : u < 9223372036854775808) : atoiAll (decDigits u) = .ok (u : Int) := by
  have d := (dec_all u).1
  have pm := parseMag_dec u (by omega)
  cases hl : decDigits u with
  | nil => exact (dec_ne u hl).elim
  | cons c r =>
    have dc := isDig_nat (d c (by rw [hl]; exact List.mem_cons_self ..))
    rw [atoiAll_plain c r (by omega) (by omega), ← hl, pm]
    show (if 9223372036854775808 ≤ u then NumEnd.range else .ok (u : Int)) = _
    rw [if_neg (by omega)]
theorem atoi_neg (u : Nat) (h : u ≤ 9223372036854775808) : atoiAll (45 :: decDigits u) = .ok (-(u : Int)) := by
  rw [atoiAll_minus, parseMag_dec u h]
  show (if 9223372036854775808 < u then NumEnd.range else .ok (-(u : Int))) = _
  rw [if_neg (by omega)]
theorem atoi_pos (u : Nat) (h : u < 9223372036854775808) : atoiAll (43 :: decDigits u) = .ok (u : Int) := by
  rw [atoiAll_plus, parseMag_dec u (by omega)]
  show (if 9223372036854775808 ≤ u then NumEnd.range else .ok (u : Int)) = _
  rw [if_neg (by omega)]
theorem atoi_itoa (n : Int) (h0 : -9223372036854775808 ≤ n) (h1 : n ≤ 9223372036854775807) : atoiAll (itoa n) = .ok n := by
  unfold itoa
  split
  · rw [atoi_neg _ (by omega)]
    congr 1; omega
  · rw [atoi_dec _ (by omega)]
    congr 1; omega
theorem atoi_sign (n : Int) (h0 : -9223372036854775808 ≤ n) (h1 : n ≤ 9223372036854775807) : atoiAll (signC n :: decDigits n.natAbs) = .ok n := by
  unfold signC
  split
  · rw [atoi_neg _ (by omega)]
    congr 1; omega
  · rw [atoi_pos _ (by omega)]
    congr 1; omega

theorem dig_noPM {c : UInt8} (h : isDig c = true) : isPM c = false := by
  have d := isDig_nat h
  cases hc : isPM c with
  | false => rfl
  | true =>
    unfold isPM at hc
    simp only [Bool.or_eq_true, beq_iff_eq] at hc
    rcases hc with rfl | rfl <;> simp at d
theorem lastPM_at (a r : List UInt8) (c : UInt8) (hc : isPM c = true) (hr : ∀ x ∈ r, isDig x = true) : ∀ j, j ≤ r.length → lastPM (a ++ c :: r) (a.length + 1 + j) = a.length := by
  intro j
  induction j with
  | zero =>
    intro _
    rw [Nat.add_zero, lastPM_succ, show (a ++ c :: r).getD a.length 0 = c by simp [List.getD], if_pos hc]
  | succ j ih =>
    intro hj
    have hg : (a ++ c :: r).getD (a.length + 1 + j) 0 = r[j]'(by omega) := by
      rw [List.getD_eq_getElem?_getD, List.getElem?_append_right (by omega), show a.length + 1 + j - a.length = j + 1 by omega, List.getElem?_cons_succ, List.getElem?_eq_getElem (by omega)]
      rfl
    rw [show a.length + 1 + (j + 1) = (a.length + 1 + j) + 1 by omega, lastPM_succ, hg, dig_noPM (hr _ (List.getElem_mem _)), if_neg (by simp)]
    exact ih (by omega)
theorem signC_pm (m : Int) : isPM (signC m) = true := by unfold signC; split <;> decide
theorem itoa_ne (n : Int) : 1 ≤ (itoa n).length := by
  unfold itoa
  split
  · simp
  · cases h : decDigits n.toNat with
    | nil => exact (dec_ne _ h).elim
    | cons c r => simp
theorem signC_lt (m : Int) : (signC m).toNat < 128 := by unfold signC; split <;> decide
theorem dig_lt {l : List UInt8} (h : ∀ c ∈ l, isDig c = true) : ∀ c ∈ l, c.toNat < 128 := fun c hc => by
  have := isDig_nat (h c hc)
  omega
theorem itoa_lt (n : Int) : ∀ c ∈ itoa n, c.toNat < 128 := by
  unfold itoa
  split
  · intro c hc
    rcases List.mem_cons.1 hc with rfl | hc
    · decide
    · exact dig_lt (dec_all _).1 c hc
  · exact dig_lt (dec_all _).1
/-- What is shown, taken to pieces. -/
structure Pieces (l : List UInt8) (n m : Int) : Prop where
  suf : hasSuffix l [105] = true
  len : l.length ≤ 48
  low : ∀ b ∈ trimSuffix l [105], b.toNat < 128
  last : lastPM (trimSuffix l [105]) (trimSuffix l [105]).length = (itoa n).length
  pos : 1 ≤ (itoa n).length
  left : atoiAll ((trimSuffix l [105]).take (itoa n).length) = .ok n
  right : atoiAll ((trimSuffix l [105]).drop (itoa n).length) = .ok m
theorem pieces (l : List UInt8) (n m : Int) (n0 : -9223372036854775808 ≤ n) (n1 : n ≤ 9223372036854775807) (m0 : -9223372036854775808 ≤ m) (m1 : m ≤ 9223372036854775807) (h : l = showL n m) : Pieces l n m := by
  have hs : hasSuffix l [105] = true := by
    unfold hasSuffix
    rw [List.isSuffixOf_iff_suffix, h]
    exact ⟨_, rfl⟩
  have ht : trimSuffix l [105] = itoa n ++ signC m :: decDigits m.natAbs := by
    unfold trimSuffix
    rw [if_pos hs, h]
    unfold showL
    have e : ∀ x : List UInt8, (x ++ [105]).take ((x ++ [105]).length - [(105 : UInt8)].length) = x := fun x => by simp
    exact e _
  have d := (dec_all m.natAbs).1
  refine ⟨hs, ?_, ?_, ?_, itoa_ne n, ?_, ?_⟩
  · have h1 := itoa_len n (by omega)
    have h2 := decDigits_len m.natAbs (by omega)
    rw [h]
    unfold showL
    simp only [List.length_append, List.length_cons, List.length_nil]
    omega
  · rw [ht]
    intro b hb
    rcases List.mem_append.1 hb with hb | hb
    · exact itoa_lt n b hb
    · rcases List.mem_cons.1 hb with rfl | hb
      · exact signC_lt m
      · exact dig_lt d b hb
  · rw [ht]
    have := lastPM_at (itoa n) (decDigits m.natAbs) (signC m) (signC_pm m) d (decDigits m.natAbs).length (Nat.le_refl _)
    rw [← this]
    congr 1
    simp only [List.length_append, List.length_cons]
    omega
  · rw [ht, List.take_left' rfl, atoi_itoa n n0 n1]
  · rw [ht, List.drop_left' rfl, atoi_sign m m0 m1]

end Go.Proofs.YtfinbppmkffbhaaDoor
