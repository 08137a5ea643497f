/-
  wal: TRIM, in plain Lean.
-/
import Derived.Test.YtigdhdclfdojgaaWalStartP
namespace Go.Proofs.Ytigdhdclfdojgaa
open Go.RowKit

/-- No piece is below the index any more. -/
def Trimmed (idx : Int) : List (Nat × Nat) → Prop
  | [] => True
  | [_] => True
  | _ :: b :: _ => ¬ (b.2 : Int) ≤ idx
theorem trim_rest {idx : Int} : ∀ {q : List (Nat × Nat)}, Trimmed idx q → ∀ (s : DS) (l : LogP), trimLoop idx q s l = (s, l, 0)
  | [], _, _, _ => rfl
  | [_], _, _, _ => rfl
  | a :: b :: r, h, s, l => by
    rw [trimLoop_cons, if_neg h]
theorem up_first {s : DS} {x : PcS} {M : Img} (h : Up s ((walName x.num, full (pieceD x)) :: M)) : (dropF s (walName x.num)).2 = 0 ∧ (dropF s (walName x.num)).1.room = s.room ∧ Up (dropF s (walName x.num)).1 M := by
  obtain ⟨a, b⟩ := h.drop (nameOk_wal x.num) (by rw [alGet_cons, if_pos rfl]; simp)
  have hnd := List.nodup_cons.1 (show (walName x.num :: M.map (·.1)).Nodup from h.sim.srt.nodup)
  rw [List.filter_cons_of_neg (by simp), filter_ne hnd.1] at b
  exact ⟨by rw [a], by rw [a], b⟩
theorem trim_out (idx : Int) (p : PcS) (sf : Int) : ∀ (ps : List PcS) (s : DS) (l : LogP), Up s (fullImg ps ++ [lastA p sf]) → DOk s → s.steps + ps.length < 4611686018427387904 → l.pieces = heads (ps ++ [p]) →
    ∃ pre qs s', ps = pre ++ qs ∧ trimLoop idx l.pieces s l = (s', { l with pieces := heads (qs ++ [p]) }, 0) ∧ Up s' (fullImg qs ++ [lastA p sf]) ∧ DOk s' ∧ s'.room = s.room ∧ s'.steps ≤ s.steps + ps.length ∧ (pre = [] ∨ ∀ x ∈ (qs ++ [p]).head?, (x.first : Int) ≤ idx) ∧ Trimmed idx (heads (qs ++ [p]))
  | [], s, l, h, hok, _, hl => by
    refine ⟨[], [], s, rfl, ?_, h, hok, rfl, by simp, Or.inl rfl, trivial⟩
    have e : l.pieces = [(p.num, p.first)] := hl
    rw [e, trimLoop_one]
    have e2 : ({ l with pieces := heads ([] ++ [p]) } : LogP) = l := by
      obtain ⟨a, b, c, d, f⟩ := l
      simp only [] at e
      subst e
      rfl
    rw [e2]
  | x :: r, s, l, h, hok, hst, hl => by
    obtain ⟨y, t, hyt⟩ : ∃ y t, r ++ [p] = y :: t := by
      cases r with
      | nil => exact ⟨p, [], rfl⟩
      | cons y t => exact ⟨y, t ++ [p], rfl⟩
    have e : l.pieces = (x.num, x.first) :: (y.num, y.first) :: heads t := by
      rw [hl]
      show heads (x :: (r ++ [p])) = _
      rw [hyt]
      rfl
    by_cases hi : (y.first : Int) ≤ idx
    · obtain ⟨d0, dr, du⟩ := up_first (x := x) (M := fullImg r ++ [lastA p sf]) h
      have dok := dropF_ok hok (walName x.num) (by omega)
      have dst := dropF_steps s (walName x.num)
      have hlen : (x :: r).length = r.length + 1 := rfl
      obtain ⟨pre, qs, s', h1, h2, h3, h4, h5, h6, h7, h8⟩ := trim_out idx p sf r (dropF s (walName x.num)).1 { l with pieces := heads (r ++ [p]) } du dok (by omega) rfl
      refine ⟨x :: pre, qs, s', by rw [h1]; rfl, ?_, h3, h4, h5.trans dr, by omega, Or.inr ?_, h8⟩
      · rw [e, trimLoop_cons, if_pos hi]
        simp only []
        rw [d0, if_neg (by simp)]
        have e3 : (y.num, y.first) :: heads t = heads (r ++ [p]) := by rw [hyt]; rfl
        rw [e3]
        exact h2
      · rcases h7 with h7 | h7
        · rw [h7, List.nil_append] at h1
          rw [← h1, hyt]
          intro z hz
          have : y = z := by simpa using hz
          rw [← this]
          exact hi
        · exact h7
    · refine ⟨[], x :: r, s, rfl, ?_, h, hok, rfl, by omega, Or.inl rfl, ?_⟩
      · rw [e, trimLoop_cons, if_neg hi]
        have e2 : ({ l with pieces := heads ((x :: r) ++ [p]) } : LogP) = l := by
          rw [← hl]
        rw [e2]
      · have e4 : heads ((x :: r) ++ [p]) = (x.num, x.first) :: (y.num, y.first) :: heads t := by rw [← hl]; exact e
        rw [e4]
        exact hi

end Go.Proofs.Ytigdhdclfdojgaa
