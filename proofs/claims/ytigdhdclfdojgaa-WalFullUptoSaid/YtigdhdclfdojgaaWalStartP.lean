/-
  wal: A LOG ON A NEW DISK, in plain Lean.
-/
import Derived.Test.YtigdhdclfdojgaaWalAppP
namespace Go.Proofs.Ytigdhdclfdojgaa
open Go.RowKit

theorem up_new (room : Int) : Up (newF room) [] := ⟨SimA.nil, rfl, rfl⟩
def firstPc : PcS := ⟨1, 1, []⟩
theorem pieceD_first : pieceD firstPc = headerL 1 1 := by
  unfold pieceD firstPc
  rw [frames_nil, List.append_nil]
theorem start_new (room : Int) (n : Int) : ((openF (newF room) n).2 = (none, 42) ∧ Up (openF (newF room) n).1 [] ∧ (newF room).room < ((headerL 1 1).length : Int)) ∨ (∃ l, (openF (newF room) n).2 = (some (l, []), 0) ∧ (openF (newF room) n).1.room = (newF room).room ∧ FSt (limF n) (openF (newF room) n).1 l [] firstPc (pieceD firstPc).length) := by
  have hup := up_new room
  have hok := newF_ok room
  rw [openF_new]
  have hk := nameOk_wal 1
  have hhl := headerL_len 1 1
  have hst : (newF room).steps = 0 := rfl
  have hz : get0 (walName 1) ([] : Img) = ⟨[], 0⟩ := rfl
  have hpn := pieceD_first
  obtain ⟨a1, u1⟩ := hup.append hk (Or.inr (by simp)) (d := headerL 1 1) (by rw [hz]; simp only [List.length_nil]; omega)
  rw [hz] at a1 u1
  simp only [List.nil_append] at a1 u1
  have s1 := appendF_steps (newF room) (walName 1) (headerL 1 1)
  have ok1 := appendF_ok hok (walName 1) (headerL 1 1) (by omega)
  have ha0 : (appendF (newF room) (walName 1) (headerL 1 1)).2 = 0 := by rw [a1]
  have har : (appendF (newF room) (walName 1) (headerL 1 1)).1.room = (newF room).room := by rw [a1]; rfl
  have hbe : beginF (newF room) (freshL n) 1 1 = beginB (syncF (appendF (newF room) (walName 1) (headerL 1 1)).1 (walName 1)) (freshL n) 1 1 := by
    unfold beginF
    rw [ha0, if_neg (by simp)]
  rw [hbe]
  clear hbe ha0 a1
  generalize hH : headerL 1 1 = H at *
  have hin : ins (walName 1, (⟨H, 0⟩ : AreaP)) [] = [(walName 1, ⟨H, 0⟩)] := rfl
  rw [hin] at u1
  have hg1 : alGet (walName 1) [(walName 1, (⟨H, 0⟩ : AreaP))] = some ⟨H, 0⟩ := by rw [alGet_cons, if_pos rfl]
  generalize (appendF (newF room) (walName 1) H).1 = t at *
  have hsm : sumL [(walName 1, (⟨H, 0⟩ : AreaP))] = 0 := by simp [sumL]
  rcases u1.sync hk hg1 with ⟨c1, c2⟩ | ⟨c1, c2, u2⟩
  · left
    obtain ⟨d1, u3⟩ := u1.drop hk (by rw [hg1]; simp)
    have hfil : ([(walName 1, (⟨H, 0⟩ : AreaP))] : Img).filter (fun y => decide (y.1 ≠ walName 1)) = [] := by simp
    rw [hfil] at u3
    have hd0 : (dropF t (walName 1)).2 = 0 := by rw [d1]
    have hbb : beginB (syncF t (walName 1)) (freshL n) 1 1 = ((dropF t (walName 1)).1, freshL n, 42) := by
      unfold beginB
      rw [c2, if_pos rfl, hd0, if_neg (by simp)]
    rw [hbb]
    unfold openNew
    rw [if_pos (by simp)]
    rw [hsm, har] at c1
    simp only [] at c1
    exact ⟨rfl, u3, by omega⟩
  · right
    have ok2 := syncF_ok ok1 (walName 1) (by omega)
    have hs0 : (syncF t (walName 1)).2 = 0 := by rw [c2]
    have hsr : (syncF t (walName 1)).1.room = (newF room).room := by rw [c2]; exact har
    have hbb : beginB (syncF t (walName 1)) (freshL n) 1 1 = ((syncF t (walName 1)).1, beginOk (freshL n) 1 1, 0) := by
      unfold beginB
      rw [if_neg (by rw [hs0]; simp), if_neg (by rw [hs0]; simp)]
    rw [hbb]
    unfold openNew
    rw [if_neg (by simp)]
    rw [hsm, har] at c1
    simp only [] at c1
    refine ⟨_, rfl, hsr, ⟨?_, ok2, ?_, ?_, ⟨rfl, trivial⟩, by simp, List.Pairwise.nil, ⟨by omega, Int.le_refl _⟩, ?_⟩⟩
    · have e : upd (walName 1) (full H) [(walName 1, (⟨H, 0⟩ : AreaP))] = fullImg [] ++ [lastA firstPc (pieceD firstPc).length] := by
        unfold upd fullImg lastA full
        rw [hpn]
        simp [firstPc]
      rw [← e]
      exact u2
    · unfold beginOk freshL
      rw [hpn, hH]
      simp [heads, firstPc]
    · intro x hx
      have e : x = firstPc := by simpa using hx
      rw [e]
      exact ⟨by unfold firstPc; simp, by unfold firstPc; simp, fun d hd => by cases hd⟩
    · rw [sum_last, hpn]
      show sumL (fullImg []) + _ ≤ (syncF t (walName 1)).1.room
      rw [hsr]
      have : sumL (fullImg []) = 0 := rfl
      omega

end Go.Proofs.Ytigdhdclfdojgaa
