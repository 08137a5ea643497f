/-
  PLAIN: what a script of given lines is read as. No program.
-/
import Derived.Test.YtfinbppmkffbhaaDoorParsePlain
namespace Go.Proofs.YtfinbppmkffbhaaDoor
open Go.Lib

/-- The first line that is refused among the first j, and why. -/
def bwS (ls : List (List UInt8)) : Nat → Nat × Int
  | 0 => (0, 0)
  | j + 1 => if (bwS ls j).1 = 0 ∧ ((readF (getW ls j)).2 ≠ 0 ∨ 600 ≤ j) then (j + 1, if 600 ≤ j then 91 else (readF (getW ls j)).2) else bwS ls j
theorem bwS_le (ls : List (List UInt8)) (j : Nat) : (bwS ls j).1 ≤ j := by
  induction j with
  | zero => exact Nat.le_refl _
  | succ j ih =>
    unfold bwS
    split
    · exact Nat.le_refl _
    · omega
theorem bwS_want (ls : List (List UInt8)) (j : Nat) : (bwS ls j).1 = 0 → (bwS ls j).2 = 0 := by
  induction j with
  | zero => intro _; rfl
  | succ j ih =>
    unfold bwS
    split
    · intro h; simp at h
    · exact ih
theorem bwS_e (ls : List (List UInt8)) (j : Nat) : (bwS ls j).1 ≠ 0 → (bwS ls j).2 ≠ 0 := by
  induction j with
  | zero => intro h; exact (h rfl).elim
  | succ j ih =>
    unfold bwS
    split
    · rename_i h
      intro _
      split
      · simp
      · rename_i h6
        rcases h.2 with h2 | h2
        · exact h2
        · exact (h6 h2).elim
    · exact ih
/-- The commands of the first lines. -/
def cmdsL (ls : List (List UInt8)) (j : Nat) : List CmdV := (ls.take j).map (fun l => (readF l).1)
theorem take_getW (ls : List (List UInt8)) (j : Nat) (h : j < ls.length) : ls.take (j + 1) = ls.take j ++ [getW ls j] := by
  rw [List.take_succ_eq_append_getElem h]
  unfold getW
  rw [List.getD_eq_getElem?_getD, List.getElem?_eq_getElem h]
  rfl
theorem linesL_app (a b : List (List UInt8)) : linesL (a ++ b) = linesL a ++ linesL b := by simp [linesL]
theorem linesL_one (a : List UInt8) : linesL [a] = a ++ [10] := by simp [linesL]
/-- What Parse makes of the first j lines and whatever follows. -/
theorem parse_first (ls : List (List UInt8)) (hno : ∀ l ∈ ls, (10 : UInt8) ∉ l) (j : Nat) : j ≤ ls.length → ∀ (f : Nat) (rest : List UInt8), j < f →
    ((bwS ls j).1 = 0 → j ≤ 600 ∧ parseL f 1 [] (linesL (ls.take j) ++ rest) = parseL (f - j) (j + 1) (cmdsL ls j) rest) ∧
    ((bwS ls j).1 ≠ 0 → parseL f 1 [] (linesL (ls.take j) ++ rest) = ([], (bwS ls j).1, (bwS ls j).2)) := by
  induction j with
  | zero =>
    intro _ f rest _
    exact ⟨fun _ => ⟨by omega, by simp [linesL, cmdsL]⟩, fun h => (h rfl).elim⟩
  | succ j ih =>
    intro hj f rest hf
    have hg : getW ls j ∈ ls := by
      unfold getW
      rw [List.getD_eq_getElem?_getD, List.getElem?_eq_getElem (show j < ls.length by omega)]
      exact List.getElem_mem _
    have hn := hno _ hg
    have hi := ih (by omega) f (getW ls j ++ 10 :: rest) (by omega)
    have et : linesL (ls.take (j + 1)) ++ rest = linesL (ls.take j) ++ (getW ls j ++ 10 :: rest) := by
      rw [take_getW ls j (by omega), linesL_app, linesL_one]
      simp
    rw [et]
    have ec : cmdsL ls (j + 1) = cmdsL ls j ++ [(readF (getW ls j)).1] := by
      unfold cmdsL
      rw [take_getW ls j (by omega), List.map_append]
      rfl
    by_cases h0 : (bwS ls j).1 = 0
    · obtain ⟨h6, hp⟩ := hi.1 h0
      rw [hp]
      obtain ⟨g, hgf⟩ : ∃ g, f - j = g + 1 := ⟨f - j - 1, by omega⟩
      by_cases hb : (readF (getW ls j)).2 ≠ 0 ∨ 600 ≤ j
      · have e1 : bwS ls (j + 1) = (j + 1, if 600 ≤ j then 91 else (readF (getW ls j)).2) := by
          rw [bwS, if_pos ⟨h0, hb⟩]
        rw [e1]
        refine ⟨fun h => by simp at h, fun _ => ?_⟩
        rw [hgf]
        by_cases h7 : 600 ≤ j
        · rw [parseL_many (by simp) (by omega), if_pos h7]
        · rw [parseL_step (by omega) hn, if_neg h7]
          rcases hb with hb | hb
          · rw [if_pos hb]
          · exact (h7 hb).elim
      · have e1 : bwS ls (j + 1) = bwS ls j := by
          rw [bwS, if_neg (fun c => hb c.2)]
        have hb1 : (readF (getW ls j)).2 = 0 := Classical.byContradiction fun c => hb (Or.inl c)
        have hb2 : ¬ 600 ≤ j := fun c => hb (Or.inr c)
        rw [e1]
        refine ⟨fun _ => ⟨by omega, ?_⟩, fun h => (h h0).elim⟩
        rw [hgf, parseL_step (by omega) hn, hb1, if_neg (by simp), ec]
        congr 1
        omega
    · have e1 : bwS ls (j + 1) = bwS ls j := by
        rw [bwS, if_neg (fun c => h0 c.1)]
      rw [e1]
      exact ⟨fun h => (h0 h).elim, fun _ => hi.2 h0⟩
/-- What the law expects of the whole. -/
def wantF (ls : List (List UInt8)) (ended : Bool) : Nat × Int :=
  if ended = false ∧ 0 < ls.length ∧ ((bwS ls ls.length).1 = 0 ∨ (bwS ls ls.length).1 = ls.length) ∧ ls.length ≤ 600 then (ls.length, 10) else bwS ls ls.length
def textF (ls : List (List UInt8)) (ended : Bool) : List UInt8 := if ended = true ∨ ls.length = 0 then linesL ls else (linesL ls).take ((linesL ls).length - 1)
theorem linesL_len (ls : List (List UInt8)) : ls.length ≤ (linesL ls).length := by
  induction ls with
  | nil => exact Nat.le_refl _
  | cons a r ih => rw [linesL_cons, List.length_append, List.length_cons, List.length_cons]; omega
theorem parse_text (ls : List (List UInt8)) (ended : Bool) (hno : ∀ l ∈ ls, (10 : UInt8) ∉ l) (hs : (linesL ls).length ≤ 65536) (hlast : ended = false → 0 < ls.length → getW ls (ls.length - 1) ≠ []) :
    parseF (textF ls ended) = if (wantF ls ended).1 = 0 then (cmdsL ls ls.length, 0, 0) else ([], (wantF ls ended).1, (wantF ls ended).2) := by
  have hl := linesL_len ls
  by_cases hc : ended = true ∨ ls.length = 0
  · have e1 : textF ls ended = linesL ls := by unfold textF; rw [if_pos hc]
    have e2 : wantF ls ended = bwS ls ls.length := by
      unfold wantF
      rw [if_neg]
      intro c
      rcases hc with h | h
      · rw [h] at c; simp at c
      · omega
    rw [e1, e2]
    unfold parseF
    rw [if_neg (by omega)]
    have hp := parse_first ls hno ls.length (Nat.le_refl _) ((linesL ls).length + 1) [] (by omega)
    rw [List.take_length, List.append_nil] at hp
    by_cases h0 : (bwS ls ls.length).1 = 0
    · rw [if_pos h0, (hp.1 h0).2]
      obtain ⟨g, hg⟩ : ∃ g, (linesL ls).length + 1 - ls.length = g + 1 := ⟨(linesL ls).length - ls.length, by omega⟩
      rw [hg]
      rfl
    · rw [if_neg h0, hp.2 h0]
  · have he : ended = false := by
      cases ended
      · rfl
      · exact (hc (Or.inl rfl)).elim
    have hp0 : 0 < ls.length := by
      rcases Nat.eq_zero_or_pos ls.length with h | h
      · exact (hc (Or.inr h)).elim
      · exact h
    have hla := hlast he hp0
    obtain ⟨m, hm⟩ : ∃ m, ls.length = m + 1 := ⟨ls.length - 1, by omega⟩
    have hm1 : ls.length - 1 = m := by omega
    rw [hm1] at hla
    have ht : ls = ls.take m ++ [getW ls m] := by
      have := take_getW ls m (by omega)
      rw [← hm, List.take_length] at this
      exact this
    have e1 : textF ls ended = linesL (ls.take m) ++ getW ls m := by
      unfold textF
      rw [if_neg hc]
      have : linesL ls = linesL (ls.take m) ++ getW ls m ++ [10] := by
        conv => lhs; rw [ht]
        rw [linesL_app, linesL_one]
        simp
      rw [this, List.length_append, List.length_singleton, Nat.add_sub_cancel, List.take_left]
    have hg : getW ls m ∈ ls := by
      unfold getW
      rw [List.getD_eq_getElem?_getD, List.getElem?_eq_getElem (show m < ls.length by omega)]
      exact List.getElem_mem _
    have hn := hno _ hg
    rw [e1]
    have hlen : (linesL (ls.take m) ++ getW ls m).length ≤ 65536 := by
      rw [← e1]
      unfold textF
      rw [if_neg hc, List.length_take]
      omega
    unfold parseF
    rw [if_neg (by omega)]
    have hl2 := linesL_len (ls.take m)
    rw [List.length_take] at hl2
    have hp := parse_first ls hno m (by omega) ((linesL (ls.take m) ++ getW ls m).length + 1) (getW ls m) (by rw [List.length_append]; omega)
    have hb := bwS_le ls m
    by_cases h0 : (bwS ls m).1 = 0
    · obtain ⟨h6, hq⟩ := hp.1 h0
      rw [hq]
      obtain ⟨g, hg2⟩ : ∃ g, (linesL (ls.take m) ++ getW ls m).length + 1 - m = g + 1 := ⟨(linesL (ls.take m) ++ getW ls m).length - m, by rw [List.length_append]; omega⟩
      rw [hg2]
      by_cases h7 : m + 1 ≤ 600
      · have e2 : wantF ls ended = (m + 1, 10) := by
          unfold wantF
          rw [hm, if_pos]
          refine ⟨he, by omega, ?_, h7⟩
          rw [bwS]
          split
          · exact Or.inr rfl
          · exact Or.inl h0
        rw [e2, if_neg (by simp), parseL_open hla h7 hn]
      · have e2 : wantF ls ended = (m + 1, 91) := by
          unfold wantF
          rw [hm, if_neg (by omega), bwS, if_pos ⟨h0, Or.inr (by omega)⟩, if_pos (by omega)]
        rw [e2, if_neg (by simp), parseL_many hla (by omega)]
    · have e3 : bwS ls (m + 1) = bwS ls m := by rw [bwS, if_neg (fun c => h0 c.1)]
      have e2 : wantF ls ended = bwS ls m := by
        unfold wantF
        rw [hm, e3, if_neg (by omega)]
      rw [e2, if_neg h0, hp.2 h0]
/-- Where all lines are taken, each command's line is the line. -/
theorem cmds_back (ls : List (List UInt8)) (j i : Nat) (hi : i < j) (h : (bwS ls j).1 = 0) : lineF (readF (getW ls i)).1 = (getW ls i, 0) := by
  have key : (readF (getW ls i)).2 = 0 := by
    induction j with
    | zero => omega
    | succ j ih =>
      have h2 := h
      unfold bwS at h2
      split at h2
      · simp at h2
      · rename_i hb
        by_cases e : i = j
        · subst e
          exact Classical.byContradiction fun c => hb ⟨h2, Or.inl c⟩
        · exact ih (by omega) h2
  have : readF (getW ls i) = ((readF (getW ls i)).1, 0) := by rw [← key]
  exact (line_read this).1
theorem cmdsL_full (ls : List (List UInt8)) : cmdsL ls ls.length = ls.map (fun l => (readF l).1) := by unfold cmdsL; rw [List.take_length]
theorem getW_at (ls : List (List UInt8)) (i : Nat) (h : i < ls.length) : getW ls i = ls[i] := by
  unfold getW
  rw [List.getD_eq_getElem?_getD, List.getElem?_eq_getElem h]
  rfl
theorem cmdsL_get (ls : List (List UInt8)) (cs : List CmdV) (e : cs = cmdsL ls ls.length) (i : Nat) (h : i < ls.length) (h2 : i < cs.length) : cs[i] = (readF (getW ls i)).1 := by
  subst e
  have e2 := cmdsL_full ls
  generalize cmdsL ls ls.length = cs at *
  subst e2
  rw [List.getElem_map, getW_at ls i h]
theorem cmdsL_len (ls : List (List UInt8)) : (cmdsL ls ls.length).length = ls.length := by unfold cmdsL; simp

end Go.Proofs.YtfinbppmkffbhaaDoor
