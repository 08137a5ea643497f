/-
  RUNS ON ANY FLOATS, NO PROGRAM: the cut, the sums and the products of whatever floats; what is drawn.
-/
import Derived.Test.YtglaahejijfclaaDoorFloatGen
import Derived.Test.YtglaahejijfclaaDoorBase
namespace Go.Proofs.YtglaahejijfclaaDoor
open Ieee Go.RowKit

/-- No whole number within the bounds. -/
def NoW (x : Nat) : Prop := ∀ n, FI x n → ¬(-1048576 ≤ n ∧ n ≤ 1048576)

theorem order_nan (d : Datum) (s : Bool) (t : Nat) : d.order (.nan s t) = none := by cases d <;> rfl
theorem nan_order (d : Datum) (s : Bool) (t : Nat) : (Datum.nan s t).order d = none := by cases d <;> rfl

theorem run_choose_pure {P : Program} {w : World} (q : Question) (f : Nat → Value) (h : q.forced = false) : (choose q >>= fun k => pure (f k)).run P w = .ok (f (q.cut (w.tape w.drawn q))) w.drew := by
  simp [h]

theorem trunc_gen (x : Nat) (hlt : x < 18446744073709551616) (hno : NoW x) (P : Program) (w : World) :
    ∃ r q, (Extern.MathFloor.toIntegral "math.archTrunc" .zero #[.float .f64 x]).run P w = .ok (.float .f64 r) (w.drewN q) ∧
      ((FloatKind.f64.format.order r x == some .eq) = false ∨ (FloatKind.f64.format.order (x % 9223372036854775808) 4697254411347427328 == some .gt) = true) := by
  rcases read_cases x with ⟨s, t, h⟩ | ⟨s, h⟩ | ⟨s, m, i, h, hi, hm⟩ | ⟨s, m, e, h⟩
  · have hd : FloatKind.f64.decode x = .nan s t := h
    have ho : ∀ r, (FloatKind.f64.format.order r x == some .eq) = false := fun r => by
      show ((double.read r).order (double.read x) == some .eq) = false
      rw [h, order_nan]; rfl
    conv in (Extern.MathFloor.toIntegral _ _ _) => whnf
    rw [hd]
    simp only []
    by_cases hq : FloatKind.f64.format.quiet t = t
    · rw [if_pos hq]
      exact ⟨x, 0, rfl, Or.inl (ho _)⟩
    · rw [if_neg hq]
      rw [run_choose_pure _ _ rfl]
      exact ⟨_, 1, rfl, Or.inl (ho _)⟩
  · have hd : FloatKind.f64.decode x = .infinity s := h
    have hg := gt_of_not_small x (Or.inl ⟨s, h⟩)
    conv in (Extern.MathFloor.toIntegral _ _ _) => whnf
    rw [hd]
    exact ⟨_, 0, rfl, Or.inr (by rw [hg]; rfl)⟩
  · have hd : FloatKind.f64.decode x = .number s m (i : Int) := h
    have hg := gt_of_not_small x (Or.inr (Or.inl ⟨s, m, i, h, hi, hm⟩))
    conv in (Extern.MathFloor.toIntegral _ _ _) => whnf
    rw [hd]
    exact ⟨_, 0, rfl, Or.inr (by rw [hg]; rfl)⟩
  · have hd : FloatKind.f64.decode x = .number s m (-(e : Int)) := h
    conv in (Extern.MathFloor.toIntegral _ _ _) => whnf
    rw [hd]
    by_cases hs : m ≤ 1048576 * 2 ^ e
    · obtain ⟨n, hn, hi, h0, h1, -, hc⟩ := cut_small h hs
      rw [h] at hi
      refine ⟨double.write (.number s n.natAbs 0), 0, ?_, Or.inl ?_⟩
      · simp only [hi]; rfl
      · have hf := isInt_write s n 0 (by omega) h0 h1
        have hf' : IsDat (double.read (double.write (.number s n.natAbs 0))) n := by simpa [IsInt] using hf
        cases ho : (FloatKind.f64.format.order (double.write (.number s n.natAbs 0)) x == some .eq) with
        | false => rfl
        | true =>
          have := hc _ hf' (beq_iff_eq.1 ho)
          exact (hno n ⟨hlt, this⟩ hn).elim
    · have hg := gt_of_not_small x (Or.inr (Or.inr ⟨s, m, e, h, by omega⟩))
      exact ⟨_, 0, rfl, Or.inr (by rw [hg]; rfl)⟩

theorem fi_min : FI 13920626448202203136 (-1048576) := by
  have e : floatOfInt .f64 (-1048576) = 13920626448202203136 := by decide +kernel
  rw [← e]; exact fi_of _ (by decide)

theorem neg_big (m i : Nat) (N : Int) (h : N < (m : Int) * 2 ^ i) : -(m : Int) * 2 ^ i < -N := by rw [Int.neg_mul]; omega

/-- Finite and within the bounds: the int that it is cut to, and back. -/
theorem toInt_gen (x : Nat) (hlt : x < 18446744073709551616) (h1 : (FloatKind.f64.format.order x x != some .eq) = false) (h2 : (FloatKind.f64.format.order x 13920626448202203136 == some .lt) = false) (h3 : (FloatKind.f64.format.order x 4697254411347427328 == some .gt) = false) :
    ∃ n : Int, (-1048576 ≤ n ∧ n ≤ 1048576) ∧ floatToIntVal .f64 x .i64 = some n ∧ ((FloatKind.f64.format.order (floatOfInt .f64 n) x == some .eq) = true → FI x n) := by
  have g2 : ((double.read x).order (double.read 13920626448202203136) == some .lt) = false := h2
  have g3 : ((double.read x).order (double.read 4697254411347427328) == some .gt) = false := h3
  have hmin := fi_min.dat
  have hmax := fi_max.dat
  unfold IsInt at hmin hmax
  generalize double.read 13920626448202203136 = c2 at *
  generalize double.read 4697254411347427328 = c3 at *
  generalize hN : (1048576 : Int) = N at hmin hmax
  rcases read_cases x with ⟨s, t, h⟩ | ⟨s, h⟩ | ⟨s, m, i, h, hi, hm⟩ | ⟨s, m, e, h⟩
  · have : FloatKind.f64.format.order x x = none := by
      show (double.read x).order (double.read x) = none
      rw [h]; rfl
    rw [this] at h1
    cases h1
  · rw [h] at g2 g3
    obtain ⟨t, f, q, rfl, -⟩ := hmin
    obtain ⟨t', f', q', rfl, -⟩ := hmax
    cases s
    · cases g3
    · cases g2
  · rw [h] at g2 g3
    rw [order_big s m i hmin hi] at g2
    rw [order_big s m i hmax hi] at g3
    have hb := big_mul m i hm
    rw [hN] at hb
    cases s
    · rw [show compare ((if false = true then -(m : Int) else (m : Int)) * 2 ^ i) N = .gt from Int.compare_eq_gt.2 hb] at g3
      cases g3
    · rw [show compare ((if true = true then -(m : Int) else (m : Int)) * 2 ^ i) (-N) = .lt from Int.compare_eq_lt.2 (neg_big m i N hb)] at g2
      cases g2
  · by_cases hs : m ≤ 1048576 * 2 ^ e
    · obtain ⟨n, hn, -, -, -, ht, hc⟩ := cut_small h hs
      refine ⟨n, by rw [← hN]; exact hn, ?_, fun ho => ⟨hlt, ?_⟩⟩
      · unfold floatToIntVal
        rw [show FloatKind.f64.decode x = double.read x from rfl, ht]
        have : IntKind.i64.min ≤ n ∧ n ≤ IntKind.i64.max := ⟨Int.le_trans (by decide) hn.1, Int.le_trans hn.2 (by decide)⟩
        simp only []
        rw [if_pos this]
      · exact hc _ (fi_of n (by omega)).dat (beq_iff_eq.1 ho)
    · have hb := pow_cast 1048576 e m (by omega)
      rw [show ((1048576 : Nat) : Int) = N from hN] at hb
      rw [h] at g2 g3
      rw [order_frac s m e hmin] at g2
      rw [order_frac s m e hmax] at g3
      cases s
      · rw [show compare (if false = true then -(m : Int) else (m : Int)) (N * 2 ^ e) = .gt from Int.compare_eq_gt.2 hb] at g3
        cases g3
      · rw [show compare (if true = true then -(m : Int) else (m : Int)) (-N * 2 ^ e) = .lt from Int.compare_eq_lt.2 (by rw [Int.neg_mul]; exact Int.neg_lt_neg hb)] at g2
        cases g2

/-- Any sum, difference, product: some word. -/
theorem run_arith_any (op : BinOp) (hop : op = .add ∨ op = .sub ∨ op = .mul) (x y : Nat) (P : Program) (w : World) : ∃ r q, (Op.Complex.arith op .f64 x y).run P w = .ok r (w.drewN q) ∧ r < 18446744073709551616 := by
  cases hf : floatBits op .f64 x y with
  | some r =>
    refine ⟨r, 0, by rw [run_carith w hf]; rfl, ?_⟩
    have := floatBits_wf hf
    simpa [Lit.wf] using this
  | none =>
    have hr : ∃ r, (Op.floatArith op .f64 x y).run P w = .ok (.float .f64 r) w.drew ∧ r < 18446744073709551616 := by
      refine ⟨(Question.nanBits .f64 x y).cut (w.tape w.drawn (Question.nanBits .f64 x y)), ?_, ?_⟩
      · rcases hop with rfl | rfl | rfl
        all_goals
          unfold floatBits at hf
          simp only [] at hf
          simp [Op.floatArith, hf, Question.forced]
      · simp only [Question.cut]; omega
    obtain ⟨r, hr, hlt⟩ := hr
    refine ⟨r, 1, ?_, hlt⟩
    simp only [Op.Complex.arith, Sem.run_bind, hr]
    rfl

theorem drewN_drewN' (w : World) (a b : Nat) : (w.drewN a).drewN b = w.drewN (a + b) := World.drewN_drewN _ _ _

theorem run_csum_any (op : BinOp) (hop : op = .add ∨ op = .sub) (t : TypeId) (a b c d : Nat) (P : Program) (w : World) :
    ∃ r i q, (binOp op t (.complex .f64 a b) (.complex .f64 c d)).run P w = .ok (.complex .f64 r i) (w.drewN q) ∧ r < 18446744073709551616 ∧ i < 18446744073709551616 := by
  have hop' : op = .add ∨ op = .sub ∨ op = .mul := by rcases hop with h | h; exact Or.inl h; exact Or.inr (Or.inl h)
  obtain ⟨r, q1, h1, l1⟩ := run_arith_any op hop' a c P w
  obtain ⟨i, q2, h2, l2⟩ := run_arith_any op hop' b d P (w.drewN q1)
  refine ⟨r, i, q1 + q2, ?_, l1, l2⟩
  rw [← World.drewN_drewN]
  rcases hop with rfl | rfl <;> simp [binOp, Op.complexOp, h1, h2]

theorem run_arith_w (op : BinOp) (hop : op = .add ∨ op = .sub ∨ op = .mul) (x y : Nat) (P : Program) (w : World) : ∃ r w', (Op.Complex.arith op .f64 x y).run P w = .ok r w' ∧ r < 18446744073709551616 ∧ ∃ q, w' = w.drewN q := by
  obtain ⟨r, q, h, hl⟩ := run_arith_any op hop x y P w
  exact ⟨r, _, h, hl, q, rfl⟩

theorem run_cmul_any (t : TypeId) (a b c d : Nat) (P : Program) (w : World) :
    ∃ r i q, (binOp .mul t (.complex .f64 a b) (.complex .f64 c d)).run P w = .ok (.complex .f64 r i) (w.drewN q) ∧ r < 18446744073709551616 ∧ i < 18446744073709551616 := by
  obtain ⟨r1, w1, h1, -, q1, e1⟩ := run_arith_w .mul (by simp) a c P w
  obtain ⟨r2, w2, h2, -, q2, e2⟩ := run_arith_w .mul (by simp) b d P w1
  obtain ⟨r3, w3, h3, l3, q3, e3⟩ := run_arith_w .sub (by simp) r1 r2 P w2
  obtain ⟨r4, w4, h4, -, q4, e4⟩ := run_arith_w .mul (by simp) a d P w3
  obtain ⟨r5, w5, h5, -, q5, e5⟩ := run_arith_w .mul (by simp) b c P w4
  obtain ⟨r6, w6, h6, l6, q6, e6⟩ := run_arith_w .add (by simp) r4 r5 P w5
  have e : w6 = w.drewN (q1 + q2 + q3 + q4 + q5 + q6) := by rw [e6, e5, e4, e3, e2, e1]; simp [World.drewN_drewN]
  refine ⟨r3, r6, q1 + q2 + q3 + q4 + q5 + q6, ?_, l3, l6⟩
  rw [← e]
  clear e e1 e2 e3 e4 e5 e6
  simp [binOp, Op.complexOp, Op.Complex.conv, Op.Complex.product, Op.Complex.mul, Op.Complex.sub, Op.Complex.add, h1, h2, h3, h4, h5, h6]

end Go.Proofs.YtglaahejijfclaaDoor
