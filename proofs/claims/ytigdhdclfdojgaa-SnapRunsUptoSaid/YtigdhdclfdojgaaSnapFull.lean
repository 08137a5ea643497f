/-
  SnapFull: a Save that finds no room leaves the checkpoint that was there, and nothing beside it.
-/
import Derived.Test.YtigdhdclfdojgaaSnapSteps2
import Derived.Test.YtigdhdclfdojgaaSnapHead
import Derived.Test.YtigdhdclfdojgaaRead8
namespace Go.Proofs.Ytigdhdclfdojgaa
open Go.RowKit

theorem stays_b0 : staysN 0 ckB = false := by decide +kernel
theorem stays_1 : staysN 1 ckB = true ∧ staysN 1 ckNow = true ∧ staysN 1 ckA = false ∧ staysN 1 ckTmp = false := by decide +kernel
theorem stays_2 : staysN 2 ckB = false ∧ staysN 2 ckNow = true ∧ staysN 2 ckA = true ∧ staysN 2 ckTmp = false := by decide +kernel
/-- What the law asks, in plain words. -/
inductive FullP (first second : List UInt8) (R1 : DS × Nat) : Prop
  | big (h : R1.2 = 12)
  | none (h : R1.2 = 42) (hc : (cleanF R1.1).2 = 0) (hl : (listF (cleanF R1.1).1).length = 0)
  | done (h : R1.2 = 0) (h2 : (saveF R1.1 2 second).2 = 0) (hl : loadF (saveF R1.1 2 second).1 = (2, second, true, 0)) (hn : (listF (saveF R1.1 2 second).1).length = 2)
  | kept (h : R1.2 = 0) (h2 : (saveF R1.1 2 second).2 = 42 ∨ (saveF R1.1 2 second).2 = 12) (hl : loadF (saveF R1.1 2 second).1 = (1, first, true, 0)) (hc : (cleanF (saveF R1.1 2 second).1).2 = 0) (hn : (listF (cleanF (saveF R1.1 2 second).1).1).length = 2)
theorem load_A1 (r st f : Int) (s : Nat) (b : List UInt8) (hs : s ≤ 1099511627776) (hb : b.length ≤ 16384) (X : Areas) : loadF ⟨(ckB, full b) :: (ckNow, full (pL 1 s b)) :: X, r, st, f, false⟩ = (s, b, true, 0) :=
  load_some _ rfl (t := 1) (sl := s) (b := b) (x := (pL 1 s b).length) (y := b.length) (by show alGet ckNow (_ :: _) = _; rw [alGet_cons, if_neg n_now_b, alGet_cons, if_pos rfl]; rfl) (by omega) (by omega) hs hb (by show alGet ckB (_ :: _) = _; rw [alGet_cons, if_pos rfl]; rfl)
theorem load_A2 (r st f : Int) (s : Nat) (b : List UInt8) (hs : s ≤ 1099511627776) (hb : b.length ≤ 16384) : loadF ⟨A2 s b, r, st, f, false⟩ = (s, b, true, 0) :=
  load_some _ rfl (t := 2) (sl := s) (b := b) (x := (pL 2 s b).length) (y := b.length) (by show alGet ckNow (A2 s b) = _; unfold A2; rw [alGet_cons, if_pos rfl]; rfl) (by omega) (by omega) hs hb (by show alGet ckA (A2 s b) = _; unfold A2; rw [alGet_cons, if_neg n_now_a.symm, alGet_cons, if_pos rfl]; rfl)
theorem cur_A1 (r st f : Int) (s : Nat) (b : List UInt8) (hs : s ≤ 1099511627776) (X : Areas) : currentF ⟨(ckB, full b) :: (ckNow, full (pL 1 s b)) :: X, r, st, f, false⟩ = (⟨1, s, sumN b⟩, 0) :=
  current_some _ rfl (t := 1) (sl := s) (b := b) (x := (pL 1 s b).length) (by show alGet ckNow (_ :: _) = _; rw [alGet_cons, if_neg n_now_b, alGet_cons, if_pos rfl]; rfl) (by omega) (by omega) hs
theorem full_plain (room : Int) (first second : List UInt8) : FullP first second (saveF (newF room) 1 first) := by
  by_cases hb : 16384 < first.length
  · refine FullP.big ?_
    unfold saveF
    rw [if_neg (by omega), if_pos hb]
  have h0 := save_0 (max 0 (min room 4194304)) 0 0 1 first (by omega) (by omega)
  have e0 : newF room = ⟨[], max 0 (min room 4194304), 0, 0, false⟩ := rfl
  rw [← e0] at h0
  generalize saveF (newF room) ((1 : Nat) : Int) first = R1 at h0
  show FullP first second R1
  cases h0 with
  | dark A st h => omega
  | full1 st f h hr =>
    have hf := h rfl
    subst hf
    obtain ⟨st', e⟩ := clean_up 0 [] (max 0 (min room 4194304)) st (by simp) (fun p hp => by cases hp) (by rw [current_none _ rfl rfl]; exact ⟨rfl, rfl⟩)
    exact FullP.none rfl (by rw [e]) (by rw [e, listF_length]; rfl)
  | full2 st f h hr =>
    have hf := h rfl
    subst hf
    obtain ⟨st', e⟩ := clean_up 0 [(ckB, full first)] (max 0 (min room 4194304)) st (by simp) (fun p hp => by simp at hp; subst hp; exact ok_b) (by rw [current_none _ rfl (by show alGet ckNow [(ckB, full first)] = none; rw [alGet_cons, if_neg n_now_b]; rfl)]; exact ⟨rfl, rfl⟩)
    have hfl : [(ckB, full first)].filter (fun p => staysN 0 p.1) = [] := by simp [stays_b0]
    exact FullP.none rfl (by rw [e]) (by rw [e, hfl, listF_length]; rfl)
  | done st f h hr =>
    have hf := h rfl
    subst hf
    by_cases hb2 : 16384 < second.length
    · have e2 : saveF ⟨A1 1 first, max 0 (min room 4194304), st, 0, false⟩ 2 second = (⟨A1 1 first, max 0 (min room 4194304), st, 0, false⟩, 12) := by
        unfold saveF
        rw [if_neg (by omega), if_pos hb2]
      obtain ⟨st', e⟩ := clean_up 1 (A1 1 first) (max 0 (min room 4194304)) st (by simp [A1, n_now_b.symm]) (fun p hp => by simp [A1] at hp; rcases hp with rfl | rfl; exact ok_b; exact ok_now) (by unfold A1; rw [cur_A1 _ _ _ _ _ (by omega)]; exact ⟨rfl, rfl⟩)
      have hfl : (A1 1 first).filter (fun p => staysN 1 p.1) = A1 1 first := by simp [A1, stays_1.1, stays_1.2.1]
      refine FullP.kept rfl (by simp only []; rw [e2]; exact Or.inr rfl) (by simp only []; rw [e2]; exact load_A1 _ _ _ _ _ (by omega) (by omega) []) (by simp only []; rw [e2, e]) (by simp only []; rw [e2, e, hfl, listF_length]; rfl)
    · have h1 := save_1 (max 0 (min room 4194304)) st 0 1 first 2 second (by omega) (by omega) (by omega)
      obtain ⟨R2, hR2⟩ : ∃ R2, saveF ⟨A1 1 first, max 0 (min room 4194304), st, 0, false⟩ 2 second = R2 := ⟨_, rfl⟩
      have h1' : Save1 (max 0 (min room 4194304)) 0 1 first 2 second R2 := by rw [← hR2]; exact h1
      clear h1
      cases h1' with
      | dark1 st h => omega
      | dark2 st h => omega
      | dark3 st h => omega
      | full1 st f h =>
        have hf := h rfl
        subst hf
        obtain ⟨st', e⟩ := clean_up 1 (A1 1 first) (max 0 (min room 4194304)) st (by simp [A1, n_now_b.symm]) (fun p hp => by simp [A1] at hp; rcases hp with rfl | rfl; exact ok_b; exact ok_now) (by unfold A1; rw [cur_A1 _ _ _ _ _ (by omega)]; exact ⟨rfl, rfl⟩)
        have hfl : (A1 1 first).filter (fun p => staysN 1 p.1) = A1 1 first := by simp [A1, stays_1.1, stays_1.2.1]
        refine FullP.kept rfl (by simp only []; rw [hR2]; exact Or.inl rfl) (by simp only []; rw [hR2]; exact load_A1 _ _ _ _ _ (by omega) (by omega) []) (by simp only []; rw [hR2, e]) (by simp only []; rw [hR2, e, hfl, listF_length]; rfl)
      | full2 st f h =>
        have hf := h rfl
        subst hf
        obtain ⟨st', e⟩ := clean_up 1 [(ckB, full first), (ckNow, full (pL 1 1 first)), (ckA, full second)] (max 0 (min room 4194304)) st (by simp [n_now_b.symm, n_now_a, n_a_b.symm]) (fun p hp => by simp at hp; rcases hp with rfl | rfl | rfl; exact ok_b; exact ok_now; exact ok_a) (by rw [cur_A1 _ _ _ _ _ (by omega)]; exact ⟨rfl, rfl⟩)
        have hfl : [(ckB, full first), (ckNow, full (pL 1 1 first)), (ckA, full second)].filter (fun p => staysN 1 p.1) = A1 1 first := by simp [A1, stays_1.1, stays_1.2.1, stays_1.2.2.1]
        refine FullP.kept rfl (by simp only []; rw [hR2]; exact Or.inl rfl) (by simp only []; rw [hR2]; exact load_A1 _ _ _ _ _ (by omega) (by omega) _) (by simp only []; rw [hR2, e]) (by simp only []; rw [hR2, e, hfl, listF_length]; rfl)
      | done st f h =>
        refine FullP.done rfl (by simp only []; rw [hR2]) (by simp only []; rw [hR2]; exact load_A2 _ _ _ _ _ (by omega) (by omega)) (by simp only []; rw [hR2, listF_length]; rfl)

end Go.Proofs.Ytigdhdclfdojgaa
