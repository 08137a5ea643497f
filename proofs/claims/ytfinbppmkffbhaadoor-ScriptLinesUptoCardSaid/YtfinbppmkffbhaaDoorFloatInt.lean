/-
  PLAIN LAWS, NO PROGRAM: whole numbers below 2^53 as floats of 64 bits: sums, differences, products, comparisons, cuts are exact.
-/
import Derived.Laws.FloatArith
import Derived.Laws.ComplexArith
import Derived.Laws.Cover3
import Derived.WalkKit
namespace Go.Proofs.YtfinbppmkffbhaaDoor
open Ieee

/-- The word x stands for the whole number n: its datum. -/
def IsDat (d : Datum) (n : Int) : Prop :=
  ∃ (s : Bool) (e m : Nat), d = .number s m (-(e : Int)) ∧ m = n.natAbs * 2 ^ e ∧ (n < 0 → s = true) ∧ (0 < n → s = false)
def IsInt (x : Nat) (n : Int) : Prop := IsDat (double.read x) n

theorem log2_mul_pow (a e : Nat) (ha : a ≠ 0) : (a * 2 ^ e).log2 = a.log2 + e := by
  have h1 := Nat.log2_self_le ha
  have h2 := Nat.lt_log2_self (n := a)
  have hp : 0 < 2 ^ e := Nat.two_pow_pos e
  have hne : a * 2 ^ e ≠ 0 := Nat.mul_ne_zero ha (by omega)
  apply (Nat.log2_eq_iff hne).2
  constructor
  · rw [Nat.pow_add]; exact Nat.mul_le_mul_right _ h1
  · rw [show a.log2 + e + 1 = (a.log2 + 1) + e by omega, Nat.pow_add]
    exact Nat.mul_lt_mul_of_pos_right h2 hp

theorem cut_exact (way : Toward) (s : Bool) (a d : Nat) (hd : d ≤ (a * 2 ^ d).log2 + 2) : way.cut s (a * 2 ^ d) d = a := by
  unfold Toward.cut
  have hm : min d ((a * 2 ^ d).log2 + 2) = d := by omega
  have hp : 0 < 2 ^ d := Nat.two_pow_pos d
  simp only [hm, Nat.one_shiftLeft]
  rw [Nat.mul_div_cancel _ hp, Nat.mul_mod_left]
  cases way <;> simp <;> omega

theorem write_exact (s : Bool) (a e : Nat) (ha : a ≠ 0) (hb : a < 2 ^ 53) :
    double.write (.number s (a * 2 ^ e) (-(e : Int))) = double.word s ((a.log2 + 1022) * 2 ^ 52 + a * 2 ^ (52 - a.log2)) := by
  have hl : a.log2 ≤ 52 := by
    have := (Nat.log2_lt ha).2 hb
    omega
  have hp : 0 < 2 ^ e := Nat.two_pow_pos e
  have hne : a * 2 ^ e ≠ 0 := Nat.mul_ne_zero ha (by omega)
  have hlog := log2_mul_pow a e ha
  show double.nearest s (a * 2 ^ e) (-(e : Int)) = _
  unfold Format.nearest
  rw [if_neg hne, hlog]
  have hlp : double.leastPlace = -1074 := by decide
  have hfb : double.fractionBits = 52 := rfl
  have hbin : double.binade = 2 ^ 52 := rfl
  have hinf : double.infRung = 2047 * 2 ^ 52 := by decide
  rw [hlp, hfb, hbin, hinf]
  have hlast : max (-(e : Int) + ((a.log2 + e : Nat) : Int) - (52 : Nat)) (-1074) = (a.log2 : Int) - 52 := by omega
  simp only [hlast]
  have hk : Toward.even.cut s ((a * 2 ^ e) <<< (-(e : Int) - ((a.log2 : Int) - 52)).toNat) ((a.log2 : Int) - 52 - -(e : Int)).toNat = a * 2 ^ (52 - a.log2) := by
    by_cases hc : e + a.log2 ≤ 52
    · have e1 : (-(e : Int) - ((a.log2 : Int) - 52)).toNat = 52 - a.log2 - e := by omega
      have e2 : ((a.log2 : Int) - 52 - -(e : Int)).toNat = 0 := by omega
      rw [e1, e2, Nat.shiftLeft_eq, Nat.mul_assoc, ← Nat.pow_add, show e + (52 - a.log2 - e) = 52 - a.log2 by omega]
      have := cut_exact .even s (a * 2 ^ (52 - a.log2)) 0 (by omega)
      simpa using this
    · have e1 : (-(e : Int) - ((a.log2 : Int) - 52)).toNat = 0 := by omega
      have e2 : ((a.log2 : Int) - 52 - -(e : Int)).toNat = e + a.log2 - 52 := by omega
      rw [e1, e2, Nat.shiftLeft_zero]
      have e3 : a * 2 ^ e = a * 2 ^ (52 - a.log2) * 2 ^ (e + a.log2 - 52) := by
        rw [Nat.mul_assoc, ← Nat.pow_add]; congr 2; omega
      have hl2 : (a * 2 ^ (52 - a.log2) * 2 ^ (e + a.log2 - 52)).log2 = a.log2 + e := by rw [← e3]; exact hlog
      rw [e3]
      exact cut_exact .even s _ _ (by rw [hl2]; omega)
  rw [hk]
  have h1 := Nat.log2_self_le ha
  have h2 := Nat.lt_log2_self (n := a)
  have hup : a * 2 ^ (52 - a.log2) < 2 ^ 53 := by
    have : a * 2 ^ (52 - a.log2) < 2 ^ (a.log2 + 1) * 2 ^ (52 - a.log2) := Nat.mul_lt_mul_of_pos_right h2 (Nat.two_pow_pos _)
    rw [← Nat.pow_add, show a.log2 + 1 + (52 - a.log2) = 53 by omega] at this
    exact this
  have e4 : ((a.log2 : Int) - 52 - -1074).toNat = a.log2 + 1022 := by omega
  rw [e4]
  rw [Nat.min_eq_left]
  exact Nat.le_trans (Nat.add_le_add (Nat.mul_le_mul_right (2 ^ 52) (show a.log2 + 1022 ≤ 1074 by omega)) (Nat.le_of_lt hup)) (by decide)

theorem read_word (s : Bool) (r : Nat) (hr : r < 2 ^ 63) : double.read (double.word s r) = (if r < 2 ^ 52 then .number s r (-1074) else if r < 2047 * 2 ^ 52 then .number s (2 ^ 52 + r % 2 ^ 52) (-1074 + (r / 2 ^ 52 - 1 : Nat)) else if r = 2047 * 2 ^ 52 then .infinity s else .nan s (r - 2047 * 2 ^ 52)) := by
  have hlp : double.leastPlace = -1074 := by decide
  have hbin : double.binade = 2 ^ 52 := rfl
  have hinf : double.infRung = 2047 * 2 ^ 52 := by decide
  have hsw : double.signWeight = 2 ^ 63 := by decide
  unfold Format.read Format.word
  simp only [hlp, hbin, hinf, hsw]
  cases s
  · have e1 : r / 2 ^ 63 = 0 := Nat.div_eq_of_lt hr
    have e2 : r % 2 ^ 63 = r := Nat.mod_eq_of_lt hr
    simp [e1, e2]
  · have e1 : (2 ^ 63 + r) / 2 ^ 63 = 1 := by omega
    have e2 : (2 ^ 63 + r) % 2 ^ 63 = r := by omega
    simp only [if_true, e1, e2]
    rfl

theorem isInt_write (s : Bool) (n : Int) (e : Nat) (hn : n.natAbs < 2 ^ 53) (h0 : n < 0 → s = true) (h1 : 0 < n → s = false) : IsInt (double.write (.number s (n.natAbs * 2 ^ e) (-(e : Int)))) n := by
  unfold IsInt
  by_cases hz : n.natAbs = 0
  · have hw : double.write (.number s (n.natAbs * 2 ^ e) (-(e : Int))) = double.word s 0 := by
      show double.nearest s _ _ = _
      unfold Format.nearest
      rw [if_pos (by rw [hz]; simp)]
    rw [hw, read_word _ _ (by omega), if_pos (by omega)]
    obtain ⟨E, hE⟩ : ∃ E : Nat, E = 1074 := ⟨_, rfl⟩
    exact ⟨s, E, 0, by rw [hE]; rfl, by rw [hz, Nat.zero_mul], h0, h1⟩
  · rw [write_exact s _ e hz hn]
    have hl : n.natAbs.log2 ≤ 52 := by
      have := (Nat.log2_lt hz).2 hn
      omega
    have g1 := Nat.log2_self_le hz
    have g2 := Nat.lt_log2_self (n := n.natAbs)
    generalize n.natAbs.log2 = L at *
    have hup : n.natAbs * 2 ^ (52 - L) < 2 ^ 53 := by
      have : n.natAbs * 2 ^ (52 - L) < 2 ^ (L + 1) * 2 ^ (52 - L) := Nat.mul_lt_mul_of_pos_right g2 (Nat.two_pow_pos _)
      rw [← Nat.pow_add, show L + 1 + (52 - L) = 53 by omega] at this
      exact this
    have hlo : 2 ^ 52 ≤ n.natAbs * 2 ^ (52 - L) := by
      have : 2 ^ L * 2 ^ (52 - L) ≤ n.natAbs * 2 ^ (52 - L) := Nat.mul_le_mul_right _ g1
      rw [← Nat.pow_add, show L + (52 - L) = 52 by omega] at this
      exact this
    have hlt : (L + 1022) * 2 ^ 52 + n.natAbs * 2 ^ (52 - L) < 2047 * 2 ^ 52 := by
      have : (L + 1022) * 2 ^ 52 ≤ 1074 * 2 ^ 52 := Nat.mul_le_mul_right (2 ^ 52) (show L + 1022 ≤ 1074 by omega)
      omega
    rw [read_word _ _ (by omega), if_neg (by omega), if_pos hlt]
    refine ⟨s, 52 - L, _, ?_, rfl, h0, h1⟩
    have e1 : ((L + 1022) * 2 ^ 52 + n.natAbs * 2 ^ (52 - L)) % 2 ^ 52 = n.natAbs * 2 ^ (52 - L) - 2 ^ 52 := by omega
    have e2 : ((L + 1022) * 2 ^ 52 + n.natAbs * 2 ^ (52 - L)) / 2 ^ 52 = L + 1023 := by omega
    rw [e1, e2]
    have e3 : 2 ^ 52 + (n.natAbs * 2 ^ (52 - L) - 2 ^ 52) = n.natAbs * 2 ^ (52 - L) := Nat.add_sub_cancel' hlo
    have e4 : (-1074 : Int) + ((L + 1023 - 1 : Nat) : Int) = -((52 - L : Nat) : Int) := by clear e1 e2 e3 hlo hup hlt g1 g2; omega
    rw [e3, e4]


/-! ### The operations -/

theorem signed_eq (s : Bool) (n : Int) (e u : Nat) (h0 : n < 0 → s = true) (h1 : 0 < n → s = false) : signed s (n.natAbs * 2 ^ e) u = n * 2 ^ (e + u) := by
  unfold signed
  rw [Nat.shiftLeft_eq, Nat.mul_assoc, ← Nat.pow_add]
  have hp : ((n.natAbs * 2 ^ (e + u) : Nat) : Int) = (n.natAbs : Int) * 2 ^ (e + u) := by push_cast; rfl
  rw [hp]
  rcases Int.lt_trichotomy n 0 with h | h | h
  · rw [h0 h, if_pos rfl, ← Int.neg_mul]; congr 1; omega
  · subst h; simp
  · rw [h1 h, if_neg (by simp)]; congr 1; omega

theorem natAbs_scale (t : Int) (k : Nat) : (t * 2 ^ k).natAbs = t.natAbs * 2 ^ k := by
  rw [Int.natAbs_mul]; congr 1
theorem scale_neg (t : Int) (k : Nat) : (t * 2 ^ k < 0) = (t < 0) := by
  have hp : (0 : Int) < 2 ^ k := Int.pow_pos (by decide)
  apply propext
  constructor
  · intro h
    rcases Int.lt_or_le t 0 with c | c
    · exact c
    · have := Int.mul_nonneg c (Int.le_of_lt hp); omega
  · intro h; exact Int.mul_neg_of_neg_of_pos h hp
theorem scale_zero (t : Int) (k : Nat) : (t * 2 ^ k = 0) = (t = 0) := by
  have hp : (0 : Int) < 2 ^ k := Int.pow_pos (by decide)
  apply propext
  rw [Int.mul_eq_zero]
  constructor
  · rintro (h | h)
    · exact h
    · omega
  · exact Or.inl

theorem sum_dat {d c : Datum} {n m : Int} (hd : IsDat d n) (hc : IsDat c m) (hb : (n + m).natAbs < 2 ^ 53) : ∃ r, d.sum c = some r ∧ IsInt (double.write r) (n + m) := by
  obtain ⟨s, e, p, rfl, rfl, h0, h1⟩ := hd
  obtain ⟨t, f, q, rfl, rfl, g0, g1⟩ := hc
  have hbase : min (-(e : Int)) (-(f : Int)) = -((max e f : Nat) : Int) := by omega
  have e1 : (-(e : Int) - -((max e f : Nat) : Int)).toNat = max e f - e := by omega
  have e2 : (-(f : Int) - -((max e f : Nat) : Int)).toNat = max e f - f := by omega
  simp only [Datum.sum, hbase, e1, e2, signed_eq _ _ _ _ h0 h1, signed_eq _ _ _ _ g0 g1]
  rw [show e + (max e f - e) = max e f by omega, show f + (max e f - f) = max e f by omega, ← Int.add_mul, natAbs_scale]
  refine ⟨_, rfl, isInt_write _ _ _ hb ?_ ?_⟩
  · intro h
    rw [if_neg (by rw [scale_zero]; omega)]
    simp only [decide_eq_true_eq, scale_neg]; exact h
  · intro h
    rw [if_neg (by rw [scale_zero]; omega)]
    simp only [decide_eq_false_iff_not, scale_neg]; omega

theorem opposite_dat {d : Datum} {n : Int} (hd : IsDat d n) : IsDat d.opposite (-n) := by
  obtain ⟨s, e, p, rfl, rfl, h0, h1⟩ := hd
  refine ⟨!s, e, _, rfl, by rw [Int.natAbs_neg], fun h => ?_, fun h => ?_⟩
  · rw [h1 (by omega)]; rfl
  · rw [h0 (by omega)]; rfl

theorem product_dat {d c : Datum} {n m : Int} (hd : IsDat d n) (hc : IsDat c m) (hb : (n * m).natAbs < 2 ^ 53) : ∃ r, d.product c = some r ∧ IsInt (double.write r) (n * m) := by
  obtain ⟨s, e, p, rfl, rfl, h0, h1⟩ := hd
  obtain ⟨t, f, q, rfl, rfl, g0, g1⟩ := hc
  refine ⟨_, rfl, ?_⟩
  have e1 : n.natAbs * 2 ^ e * (m.natAbs * 2 ^ f) = (n * m).natAbs * 2 ^ (e + f) := by
    rw [Int.natAbs_mul, Nat.pow_add, Nat.mul_mul_mul_comm]
  have e2 : -(e : Int) + -(f : Int) = -((e + f : Nat) : Int) := by omega
  rw [e1, e2]
  refine isInt_write _ _ _ hb ?_ ?_
  · intro h
    rcases Int.lt_trichotomy n 0 with hn | hn | hn
    · rcases Int.lt_trichotomy m 0 with hm | hm | hm
      · have := Int.mul_pos_of_neg_of_neg hn hm; omega
      · subst hm; simp at h
      · rw [h0 hn, g1 hm]; rfl
    · subst hn; simp at h
    · rcases Int.lt_trichotomy m 0 with hm | hm | hm
      · rw [h1 hn, g0 hm]; rfl
      · subst hm; simp at h
      · have := Int.mul_pos hn hm; omega
  · intro h
    rcases Int.lt_trichotomy n 0 with hn | hn | hn
    · rcases Int.lt_trichotomy m 0 with hm | hm | hm
      · rw [h0 hn, g0 hm]; rfl
      · subst hm; simp at h
      · have := Int.mul_neg_of_neg_of_pos hn hm; omega
    · subst hn; simp at h
    · rcases Int.lt_trichotomy m 0 with hm | hm | hm
      · have := Int.mul_neg_of_pos_of_neg hn hm; omega
      · subst hm; simp at h
      · rw [h1 hn, g1 hm]; rfl

theorem order_dat {d c : Datum} {n m : Int} (hd : IsDat d n) (hc : IsDat c m) : d.order c = some (compare n m) := by
  obtain ⟨s, e, p, rfl, rfl, h0, h1⟩ := hd
  obtain ⟨t, f, q, rfl, rfl, g0, g1⟩ := hc
  have hbase : min (-(e : Int)) (-(f : Int)) = -((max e f : Nat) : Int) := by omega
  have e1 : (-(e : Int) - -((max e f : Nat) : Int)).toNat = max e f - e := by omega
  have e2 : (-(f : Int) - -((max e f : Nat) : Int)).toNat = max e f - f := by omega
  simp only [Datum.order, hbase, e1, e2, signed_eq _ _ _ _ h0 h1, signed_eq _ _ _ _ g0 g1]
  rw [show e + (max e f - e) = max e f by omega, show f + (max e f - f) = max e f by omega]
  have hp : (0 : Int) < 2 ^ (max e f) := Int.pow_pos (by decide)
  congr 1
  simp only [compare, compareOfLessAndEq]
  rcases Int.lt_trichotomy n m with h | h | h
  · have := Int.mul_lt_mul_of_pos_right h hp
    rw [if_pos h, if_pos this]
  · subst h; simp
  · have := Int.mul_lt_mul_of_pos_right h hp
    rw [if_neg (by omega), if_neg (by omega), if_neg (by omega), if_neg (by omega)]

theorem integral_dat {d : Datum} {n : Int} (way : Toward) (hd : IsDat d n) : ∃ s, d.integral way = .number s n.natAbs 0 ∧ (n < 0 → s = true) ∧ (0 < n → s = false) := by
  obtain ⟨s, e, p, rfl, rfl, h0, h1⟩ := hd
  refine ⟨s, ?_, h0, h1⟩
  have e1 : (-(e : Int)).toNat = 0 := by omega
  have e2 : (- -(e : Int)).toNat = e := by omega
  simp only [Datum.integral, e1, e2, Nat.shiftLeft_zero]
  congr 1
  by_cases hz : n.natAbs = 0
  · rw [hz, Nat.zero_mul]
    unfold Toward.cut
    cases way <;> simp <;> omega
  · exact cut_exact way s _ _ (by rw [log2_mul_pow _ _ hz]; omega)

theorem toInt_dat {d : Datum} {n : Int} (way : Toward) (hd : IsDat d n) : d.toInt way = some n := by
  obtain ⟨s, h, h0, h1⟩ := integral_dat way hd
  simp only [Datum.toInt, h]
  have := signed_eq s n 0 0 h0 h1
  simp at this
  rw [this]

theorem isInt_of (n : Int) (hb : n.natAbs < 2 ^ 53) : IsInt (floatOfInt .f64 n) n := by
  have := isInt_write (decide (n < 0)) n 0 hb (by simp) (by simp; omega)
  simpa [floatOfInt, FloatKind.nearest, FloatKind.encode, FloatKind.format] using this


/-! ### Words of 64 bits -/

/-- The word x is a float that stands for the whole number n. -/
structure FI (x : Nat) (n : Int) : Prop where
  lt : x < 18446744073709551616
  dat : IsInt x n

theorem write_lt64 (d : Datum) : double.write d < 18446744073709551616 := double.write_lt d

theorem fi_of (n : Int) (hb : n.natAbs < 2 ^ 53) : FI (floatOfInt .f64 n) n := ⟨by unfold floatOfInt FloatKind.nearest FloatKind.encode; exact write_lt64 _, isInt_of n hb⟩
theorem fi_add {x y : Nat} {n m : Int} (hx : FI x n) (hy : FI y m) (hb : (n + m).natAbs < 2 ^ 53) : ∃ r, floatBits .add .f64 x y = some r ∧ FI r (n + m) := by
  obtain ⟨r, hr, hi⟩ := sum_dat hx.dat hy.dat hb
  exact ⟨double.write r, by show ((double.read x).sum (double.read y)).map double.write = _; rw [hr]; rfl, write_lt64 _, hi⟩
theorem fi_sub {x y : Nat} {n m : Int} (hx : FI x n) (hy : FI y m) (hb : (n - m).natAbs < 2 ^ 53) : ∃ r, floatBits .sub .f64 x y = some r ∧ FI r (n - m) := by
  obtain ⟨r, hr, hi⟩ := sum_dat hx.dat (opposite_dat hy.dat) (by rw [← Int.sub_eq_add_neg]; exact hb)
  rw [← Int.sub_eq_add_neg] at hi
  exact ⟨double.write r, by show ((double.read x).sum (double.read y).opposite).map double.write = _; rw [hr]; rfl, write_lt64 _, hi⟩
theorem fi_mul {x y : Nat} {n m : Int} (hx : FI x n) (hy : FI y m) (hb : (n * m).natAbs < 2 ^ 53) : ∃ r, floatBits .mul .f64 x y = some r ∧ FI r (n * m) := by
  obtain ⟨r, hr, hi⟩ := product_dat hx.dat hy.dat hb
  exact ⟨double.write r, by show ((double.read x).product (double.read y)).map double.write = _; rw [hr]; rfl, write_lt64 _, hi⟩
theorem fi_order {x y : Nat} {n m : Int} (hx : FI x n) (hy : FI y m) : FloatKind.f64.format.order x y = some (compare n m) := order_dat hx.dat hy.dat
theorem fi_eq {x y : Nat} {n m : Int} (hx : FI x n) (hy : FI y m) : (FloatKind.f64.format.order x y == some .eq) = decide (n = m) := by
  rw [fi_order hx hy, Bool.eq_iff_iff]; simp
theorem fi_gt {x y : Nat} {n m : Int} (hx : FI x n) (hy : FI y m) : (FloatKind.f64.format.order x y == some .gt) = decide (m < n) := by
  rw [fi_order hx hy, Bool.eq_iff_iff]; simp [Int.compare_eq_gt]
theorem fi_toInt {x : Nat} {n : Int} (hx : FI x n) (h0 : -9223372036854775808 ≤ n) (h1 : n ≤ 9223372036854775807) : floatToIntVal .f64 x .i64 = some n := by
  unfold floatToIntVal
  rw [show FloatKind.f64.decode x = double.read x from rfl, toInt_dat .zero hx.dat]
  have : IntKind.i64.min ≤ n ∧ n ≤ IntKind.i64.max := ⟨h0, h1⟩
  simp only []
  rw [if_pos this]
theorem fi_zero : FI 0 0 := fi_of 0 (by decide)
theorem fi_one : FI 4607182418800017408 1 := fi_of 1 (by decide)
theorem fi_max : FI 4697254411347427328 1048576 := fi_of 1048576 (by decide)
theorem fl_zero : floatOfInt .f64 0 = 0 := by decide +kernel

theorem read_flip (x : Nat) (hx : x < 18446744073709551616) : double.read (x ^^^ 9223372036854775808) = (double.read x).opposite := by
  have hlp : double.leastPlace = -1074 := by decide
  have hbin : double.binade = 2 ^ 52 := rfl
  have hinf : double.infRung = 2047 * 2 ^ 52 := by decide
  have hsw : double.signWeight = 2 ^ 63 := by decide
  have h1 : (x ^^^ 9223372036854775808) % 9223372036854775808 = x % 9223372036854775808 := by
    have := Nat.xor_mod_two_pow (a := x) (b := 9223372036854775808) (n := 63)
    simpa using this
  have h2 : (x ^^^ 9223372036854775808) / 9223372036854775808 = (x / 9223372036854775808) ^^^ 1 := by
    have := Nat.xor_div_two_pow (a := x) (b := 9223372036854775808) (n := 63)
    simpa using this
  have h3 : x / 9223372036854775808 = 0 ∨ x / 9223372036854775808 = 1 := by omega
  unfold Format.read
  simp only [hlp, hbin, hinf, hsw]
  rw [show (2 : Nat) ^ 63 = 9223372036854775808 from rfl, h1, h2]
  generalize x % 9223372036854775808 = r
  rcases h3 with h3 | h3 <;> rw [h3] <;> (split; rfl) <;> (try (split; rfl)) <;> (try (split; rfl)) <;> rfl

theorem fi_neg {x : Nat} {n : Int} (hx : FI x n) : FI (Op.negFloat .f64 x) (-n) := by
  have hlt : x ^^^ 9223372036854775808 < 18446744073709551616 := Nat.xor_lt_two_pow (n := 64) hx.lt (by decide)
  refine ⟨hlt, ?_⟩
  show IsDat (double.read (x ^^^ 9223372036854775808)) (-n)
  rw [read_flip x hx.lt]
  exact opposite_dat hx.dat

theorem read_low (x : Nat) : double.read (x % 9223372036854775808) = (match double.read x with | .number _ m i => .number false m i | .infinity _ => .infinity false | .nan _ t => .nan false t) := by
  have hlp : double.leastPlace = -1074 := by decide
  have hbin : double.binade = 2 ^ 52 := rfl
  have hinf : double.infRung = 2047 * 2 ^ 52 := by decide
  have hsw : double.signWeight = 2 ^ 63 := by decide
  unfold Format.read
  simp only [hlp, hbin, hinf, hsw]
  rw [show (2 : Nat) ^ 63 = 9223372036854775808 from rfl, Nat.mod_mod, Nat.div_eq_of_lt (Nat.mod_lt x (by decide))]
  generalize x % 9223372036854775808 = r
  split
  · rfl
  · split
    · rfl
    · split <;> rfl

theorem fi_abs {x : Nat} {n : Int} (hx : FI x n) : FI (x % 9223372036854775808) n.natAbs := by
  refine ⟨by omega, ?_⟩
  show IsDat (double.read (x % 9223372036854775808)) n.natAbs
  rw [read_low]
  obtain ⟨s, e, m, h, hm, -, -⟩ := hx.dat
  rw [h]
  exact ⟨false, e, m, rfl, by rw [hm]; rfl, fun h => by omega, fun _ => rfl⟩

theorem fi_trunc {x : Nat} {n : Int} (hx : FI x n) (hb : n.natAbs < 2 ^ 53) : ∃ r, FI r n ∧ ∀ (P : Program) (w : World), (Extern.MathFloor.toIntegral "math.archTrunc" .zero #[.float .f64 x]).run P w = .ok (.float .f64 r) w := by
  obtain ⟨s, h, h0, h1⟩ := integral_dat .zero hx.dat
  obtain ⟨s', e, m, hd, -⟩ := hx.dat
  have hi := isInt_write s n 0 hb h0 h1
  refine ⟨double.write (.number s n.natAbs 0), ⟨write_lt64 _, by simpa using hi⟩, fun P w => ?_⟩
  have hd' : FloatKind.f64.decode x = .number s' m (-(e : Int)) := hd
  conv in (Extern.MathFloor.toIntegral _ _ _) => whnf
  rw [hd'] at *
  rw [hd] at h
  simp only [h]
  rfl

theorem u64_andNot_high (x : Nat) (hx : x < 18446744073709551616) : bits .andNot .u64 (x : Int) 9223372036854775808 = ((x % 9223372036854775808 : Nat) : Int) := by
  show IntKind.u64.wrap ((BitVec.ofInt 64 (x : Int) &&& ~~~ BitVec.ofInt 64 9223372036854775808).toNat : Int) = _
  have h1 : ~~~ BitVec.ofInt 64 9223372036854775808 = 9223372036854775807#64 := by decide
  rw [h1, BitVec.toNat_and, IntKind.wrap_u64]
  have h2 : (BitVec.ofInt 64 (x : Int)).toNat = x := by simp; omega
  have h3 : (9223372036854775807#64).toNat = 2 ^ 63 - 1 := rfl
  rw [h2, h3, Nat.and_two_pow_sub_one_eq_mod]
  omega

/-! ### Complex numbers of whole parts -/
theorem fi_cadd {a b c d : Nat} {n m k l : Int} (ha : FI a n) (hb : FI b m) (hc : FI c k) (hd : FI d l) (h1 : (n + k).natAbs < 2 ^ 53) (h2 : (m + l).natAbs < 2 ^ 53) :
    ∃ r i, FI r (n + k) ∧ FI i (m + l) ∧ ∀ (P : Program) (t : TypeId) (w : World), (binOp .add t (.complex .f64 a b) (.complex .f64 c d)).run P w = .ok (.complex .f64 r i) w := by
  obtain ⟨r, e1, f1⟩ := fi_add ha hc h1
  obtain ⟨i, e2, f2⟩ := fi_add hb hd h2
  exact ⟨r, i, f1, f2, fun P t w => run_complex_sum w .add (Or.inl rfl) t .f64 a b c d r i (by simp [cSumBits, e1, e2])⟩
theorem fi_csub {a b c d : Nat} {n m k l : Int} (ha : FI a n) (hb : FI b m) (hc : FI c k) (hd : FI d l) (h1 : (n - k).natAbs < 2 ^ 53) (h2 : (m - l).natAbs < 2 ^ 53) :
    ∃ r i, FI r (n - k) ∧ FI i (m - l) ∧ ∀ (P : Program) (t : TypeId) (w : World), (binOp .sub t (.complex .f64 a b) (.complex .f64 c d)).run P w = .ok (.complex .f64 r i) w := by
  obtain ⟨r, e1, f1⟩ := fi_sub ha hc h1
  obtain ⟨i, e2, f2⟩ := fi_sub hb hd h2
  exact ⟨r, i, f1, f2, fun P t w => run_complex_sum w .sub (Or.inr rfl) t .f64 a b c d r i (by simp [cSumBits, e1, e2])⟩
theorem fi_cmul {a b c d : Nat} {n m k l : Int} (ha : FI a n) (hb : FI b m) (hc : FI c k) (hd : FI d l) (h1 : (n * k).natAbs < 2 ^ 53) (h2 : (m * l).natAbs < 2 ^ 53) (h3 : (n * l).natAbs < 2 ^ 53) (h4 : (m * k).natAbs < 2 ^ 53)
    (h5 : (n * k - m * l).natAbs < 2 ^ 53) (h6 : (n * l + m * k).natAbs < 2 ^ 53) :
    ∃ r i, FI r (n * k - m * l) ∧ FI i (n * l + m * k) ∧ ∀ (P : Program) (t : TypeId) (w : World), (binOp .mul t (.complex .f64 a b) (.complex .f64 c d)).run P w = .ok (.complex .f64 r i) w := by
  obtain ⟨ac, e1, f1⟩ := fi_mul ha hc h1
  obtain ⟨bd, e2, f2⟩ := fi_mul hb hd h2
  obtain ⟨ad, e3, f3⟩ := fi_mul ha hd h3
  obtain ⟨bc, e4, f4⟩ := fi_mul hb hc h4
  obtain ⟨r, e5, f5⟩ := fi_sub f1 f2 h5
  obtain ⟨i, e6, f6⟩ := fi_add f3 f4 h6
  exact ⟨r, i, f5, f6, fun P t w => run_complex_mul w t a b c d r i (by simp [cMulBits, e1, e2, e3, e4, e5, e6])⟩

end Go.Proofs.YtfinbppmkffbhaaDoor
