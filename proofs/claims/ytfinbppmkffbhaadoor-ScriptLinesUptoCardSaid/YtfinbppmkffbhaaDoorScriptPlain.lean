/-
  PLAIN: operations and commands, their words and lines, and back. No program.
-/
import Derived.Test.YtfinbppmkffbhaaDoorGaussPlain
namespace Go.Proofs.YtfinbppmkffbhaaDoor
open Go.Lib

structure OpV where
  kind : Int
  reg : Int
  to : Int
  re : Int
  im : Int
  deriving DecidableEq
structure CmdV where
  verb : List UInt8
  nums : List Int
  op : OpV
  data : List UInt8
  deriving DecidableEq
def op0 : OpV := ⟨0, 0, 0, 0, 0⟩
def cmd0 : CmdV := ⟨[], [], op0, []⟩

def wGet : List UInt8 := [103, 101, 116]
def wPut : List UInt8 := [112, 117, 116]
def wAdd : List UInt8 := [97, 100, 100]
def wMul : List UInt8 := [109, 117, 108]
def wTurn : List UInt8 := [116, 117, 114, 110]
def wSwap : List UInt8 := [115, 119, 97, 112]
def wTake : List UInt8 := [116, 97, 107, 101]
def wordOf (k : Int) : List UInt8 :=
  if k = 1 then wGet else if k = 2 then wPut else if k = 3 then wAdd else if k = 4 then wMul else if k = 5 then wTurn else if k = 6 then wSwap else if k = 7 then wTake else []
def kindOf (w : List UInt8) : Int :=
  if w = wGet then 1 else if w = wPut then 2 else if w = wAdd then 3 else if w = wMul then 4 else if w = wTurn then 5 else if w = wSwap then 6 else if w = wTake then 7 else 0
/-- Whether a second register or quarters stand there; whether a number. -/
def twoF (k : Int) : Bool := decide (k = 5 ∨ k = 6 ∨ k = 7)
def zedF (k : Int) : Bool := decide (¬ (k = 1 ∨ k = 5 ∨ k = 6))

theorem kind_word {k : Int} (h0 : 1 ≤ k) (h7 : k ≤ 7) : kindOf (wordOf k) = k := by
  rcases (by omega : k = 1 ∨ k = 2 ∨ k = 3 ∨ k = 4 ∨ k = 5 ∨ k = 6 ∨ k = 7) with rfl | rfl | rfl | rfl | rfl | rfl | rfl <;> decide
theorem word_kind {w : List UInt8} (h : kindOf w ≠ 0) : wordOf (kindOf w) = w ∧ 1 ≤ kindOf w ∧ kindOf w ≤ 7 := by
  unfold kindOf at h ⊢
  split
  · rename_i e; subst e; decide
  split
  · rename_i e; subst e; decide
  split
  · rename_i e; subst e; decide
  split
  · rename_i e; subst e; decide
  split
  · rename_i e; subst e; decide
  split
  · rename_i e; subst e; decide
  split
  · rename_i e; subst e; decide
  · rename_i h1 h2 h3 h4 h5 h6 h7
    rw [if_neg h1, if_neg h2, if_neg h3, if_neg h4, if_neg h5, if_neg h6, if_neg h7] at h
    exact (h rfl).elim
theorem kind_range (w : List UInt8) : 0 ≤ kindOf w ∧ kindOf w ≤ 7 := by
  by_cases h : kindOf w = 0
  · omega
  · have := word_kind h
    omega

/-- A right operation. -/
def okOp (o : OpV) : Bool :=
  decide (1 ≤ o.kind ∧ o.kind ≤ 7 ∧ 0 ≤ o.reg ∧ o.reg ≤ 7 ∧ 0 ≤ o.to ∧ o.to ≤ (if o.kind = 5 then 3 else if o.kind = 6 ∨ o.kind = 7 then 7 else 0)) &&
    (if zedF o.kind = true then rB o.re o.im else decide (o.re = 0 ∧ o.im = 0))

def wordsW (o : OpV) : List (List UInt8) :=
  wordOf o.kind :: itoa o.reg :: ((if twoF o.kind = true then [itoa o.to] else []) ++ (if zedF o.kind = true then [showL o.re o.im] else []))
def wordsL (o : OpV) : List UInt8 := joinF 32 (wordsW o)
def wordsF (o : OpV) : List UInt8 × Int := if okOp o = true then (wordsL o, 0) else ([], 22)

def numsOf (k : Int) : Nat := if twoF k = true then 2 else 1
def wantOf (k : Int) : Nat := numsOf k + 1 + (if zedF k = true then 1 else 0)
def getW (ws : List (List UInt8)) (i : Nat) : List UInt8 := ws.getD i []

/-- The end of Op: the number, and whether it is right. -/
def opEnd (ws : List (List UInt8)) (k r t : Int) : OpV × Int :=
  if zedF k = true then
    (if (gaussF (getW ws (wantOf k - 1))).2.2 = 0 then
      (if okOp ⟨k, r, t, (gaussF (getW ws (wantOf k - 1))).1, (gaussF (getW ws (wantOf k - 1))).2.1⟩ = true then
        (⟨k, r, t, (gaussF (getW ws (wantOf k - 1))).1, (gaussF (getW ws (wantOf k - 1))).2.1⟩, 0) else (op0, 22))
      else (op0, (gaussF (getW ws (wantOf k - 1))).2.2))
  else (if okOp ⟨k, r, t, 0, 0⟩ = true then (⟨k, r, t, 0, 0⟩, 0) else (op0, 22))
/-- The operation of words. -/
def opF (ws : List (List UInt8)) : OpV × Int :=
  if ws = [] then (op0, 90) else
  if kindOf (getW ws 0) = 0 then (op0, 90) else
  if ws.length ≠ wantOf (kindOf (getW ws 0)) then (op0, 90) else
  match numF (getW ws 1) with
  | none => (op0, 21)
  | some r =>
    if twoF (kindOf (getW ws 0)) = true then
      match numF (getW ws 2) with
      | none => (op0, 21)
      | some t => opEnd ws (kindOf (getW ws 0)) r t
    else opEnd ws (kindOf (getW ws 0)) r 0

theorem okOp_kind {o : OpV} (h : okOp o = true) : 1 ≤ o.kind ∧ o.kind ≤ 7 := by
  unfold okOp at h
  simp only [Bool.and_eq_true, decide_eq_true_eq] at h
  omega
theorem okOp_reg {o : OpV} (h : okOp o = true) : 0 ≤ o.reg ∧ o.reg ≤ 7 := by
  unfold okOp at h
  simp only [Bool.and_eq_true, decide_eq_true_eq] at h
  omega
theorem okOp_to {o : OpV} (h : okOp o = true) : 0 ≤ o.to ∧ o.to ≤ 7 := by
  unfold okOp at h
  simp only [Bool.and_eq_true, decide_eq_true_eq] at h
  obtain ⟨⟨-, -, -, -, a, b⟩, -⟩ := h
  refine ⟨a, Int.le_trans b ?_⟩
  split
  · omega
  · split <;> omega
theorem okOp_to0 {o : OpV} (h : okOp o = true) (h2 : twoF o.kind = false) : o.to = 0 := by
  unfold okOp at h
  simp only [Bool.and_eq_true, decide_eq_true_eq] at h
  unfold twoF at h2
  have h3 := of_decide_eq_false h2
  obtain ⟨⟨-, -, -, -, a, b⟩, -⟩ := h
  rw [if_neg (by omega), if_neg (by omega)] at b
  omega
theorem okOp_zed {o : OpV} (h : okOp o = true) (h2 : zedF o.kind = true) : rB o.re o.im = true := by
  unfold okOp at h
  simp only [Bool.and_eq_true] at h
  rw [if_pos h2] at h
  exact h.2
theorem okOp_bare {o : OpV} (h : okOp o = true) (h2 : zedF o.kind = false) : o.re = 0 ∧ o.im = 0 := by
  unfold okOp at h
  simp only [Bool.and_eq_true] at h
  rw [if_neg (c := zedF o.kind = true) (by rw [h2]; simp)] at h
  exact of_decide_eq_true h.2
theorem numF_itoa (n : Int) (h0 : -9223372036854775808 ≤ n) (h1 : n ≤ 9223372036854775807) : numF (itoa n) = some n := by
  unfold numF
  rw [atoi_itoa n h0 h1]
  exact if_pos rfl

/-- An operation comes back from its words. -/
theorem opF_words (o : OpV) (h : okOp o = true) : opF (wordsW o) = (o, 0) := by
  have hk := okOp_kind h
  have hr := okOp_reg h
  have ht := okOp_to h
  obtain ⟨k, r, t, n, m⟩ := o
  simp only at hk hr ht
  have g0 : getW (wordsW ⟨k, r, t, n, m⟩) 0 = wordOf k := rfl
  have g1 : getW (wordsW ⟨k, r, t, n, m⟩) 1 = itoa r := rfl
  have kk := kind_word hk.1 hk.2
  unfold opF
  rw [g0, g1, kk, if_neg (by simp [wordsW]), if_neg (by omega), numF_itoa r (by omega) (by omega)]
  cases h2 : twoF k <;> cases h3 : zedF k
  · have e1 := okOp_to0 h h2
    have e2 := okOp_bare h h3
    simp only at e1 e2
    obtain ⟨rfl, rfl⟩ := e2
    subst e1
    rw [if_neg (by simp [wordsW, wantOf, numsOf, h2, h3])]
    simp only [Bool.false_eq_true, if_false]
    unfold opEnd
    rw [if_neg (by rw [h3]; simp), if_pos h]
  · have e1 := okOp_to0 h h2
    have e2 := okOp_zed h h3
    simp only at e1 e2
    subst e1
    have g2 : getW (wordsW ⟨k, r, 0, n, m⟩) (wantOf k - 1) = showL n m := by simp [wordsW, wantOf, numsOf, getW, h2, h3]
    rw [if_neg (by simp [wordsW, wantOf, numsOf, h2, h3])]
    simp only [Bool.false_eq_true, if_false]
    unfold opEnd
    rw [if_pos h3, g2, gaussF_show n m e2]
    simp only [if_true]
    rw [if_pos h]
  · have e2 := okOp_bare h h3
    simp only at e2
    obtain ⟨rfl, rfl⟩ := e2
    have g2 : getW (wordsW ⟨k, r, t, 0, 0⟩) 2 = itoa t := by simp [wordsW, getW, h2, h3]
    rw [if_neg (by simp [wordsW, wantOf, numsOf, h2, h3]), g2, numF_itoa t (by omega) (by omega)]
    simp only [if_true]
    unfold opEnd
    rw [if_neg (by rw [h3]; simp), if_pos h]
  · have e2 := okOp_zed h h3
    simp only at e2
    have g2 : getW (wordsW ⟨k, r, t, n, m⟩) 2 = itoa t := by simp [wordsW, getW, h2, h3]
    have g3 : getW (wordsW ⟨k, r, t, n, m⟩) (wantOf k - 1) = showL n m := by simp [wordsW, wantOf, numsOf, getW, h2, h3]
    rw [if_neg (by simp [wordsW, wantOf, numsOf, h2, h3]), g2, numF_itoa t (by omega) (by omega)]
    simp only [if_true]
    unfold opEnd
    rw [if_pos h3, g3, gaussF_show n m e2]
    simp only [if_true]
    rw [if_pos h]

theorem opEnd_ok {ws : List (List UInt8)} {k r t : Int} {o : OpV} (h : opEnd ws k r t = (o, 0)) :
    okOp o = true ∧ o.kind = k ∧ o.reg = r ∧ o.to = t ∧ (zedF k = true → showL o.re o.im = getW ws (wantOf k - 1)) := by
  unfold opEnd at h
  split at h
  · rename_i hz
    rcases gaussF_cases (getW ws (wantOf k - 1)) with ⟨n, m, e, hr, hs⟩ | e | e
    · rw [e] at h
      simp only [if_true] at h
      split at h
      · rename_i hk
        injection h with h1 h2
        subst h1
        exact ⟨hk, rfl, rfl, rfl, fun _ => hs⟩
      · injection h with h1 h2
        omega
    · rw [e] at h
      simp only [] at h
      rw [if_neg (by omega)] at h
      injection h with h1 h2
      omega
    · rw [e] at h
      simp only [] at h
      rw [if_neg (by omega)] at h
      injection h with h1 h2
      omega
  · rename_i hz
    split at h
    · rename_i hk
      injection h with h1 h2
      subst h1
      exact ⟨hk, rfl, rfl, rfl, fun c => (hz c).elim⟩
    · injection h with h1 h2
      omega
theorem opEnd_bad {ws : List (List UInt8)} {k r t : Int} (h : (opEnd ws k r t).2 ≠ 0) : (opEnd ws k r t).1 = op0 ∧ ((opEnd ws k r t).2 = 20 ∨ (opEnd ws k r t).2 = 21 ∨ (opEnd ws k r t).2 = 22) := by
  by_cases hz : zedF k = true
  · rcases gaussF_cases (getW ws (wantOf k - 1)) with ⟨n, m, e, hr, hs⟩ | e | e
    · by_cases hk : okOp ⟨k, r, t, n, m⟩ = true
      · have e2 : opEnd ws k r t = (⟨k, r, t, n, m⟩, 0) := by unfold opEnd; rw [if_pos hz, e]; simp only [if_true]; rw [if_pos hk]
        rw [e2] at h
        exact (h rfl).elim
      · have e2 : opEnd ws k r t = (op0, 22) := by unfold opEnd; rw [if_pos hz, e]; simp only [if_true]; rw [if_neg hk]
        rw [e2]
        exact ⟨rfl, by simp⟩
    · have e2 : opEnd ws k r t = (op0, 21) := by unfold opEnd; rw [if_pos hz, e]; rfl
      rw [e2]
      exact ⟨rfl, by simp⟩
    · have e2 : opEnd ws k r t = (op0, 20) := by unfold opEnd; rw [if_pos hz, e]; rfl
      rw [e2]
      exact ⟨rfl, by simp⟩
  · by_cases hk : okOp ⟨k, r, t, 0, 0⟩ = true
    · have e2 : opEnd ws k r t = (⟨k, r, t, 0, 0⟩, 0) := by unfold opEnd; rw [if_neg hz, if_pos hk]
      rw [e2] at h
      exact (h rfl).elim
    · have e2 : opEnd ws k r t = (op0, 22) := by unfold opEnd; rw [if_neg hz, if_neg hk]
      rw [e2]
      exact ⟨rfl, by simp⟩
theorem list4 (ws : List (List UInt8)) (n : Nat) (h : ws.length = n + 1) (f : Nat → List UInt8) (hf : ∀ i, i < n + 1 → getW ws i = f i) : ws = (List.range (n + 1)).map f := by
  apply List.ext_getElem
  · simp [h]
  · intro i h1 h2
    have := hf i (by omega)
    unfold getW at this
    rw [List.getD_eq_getElem?_getD, List.getElem?_eq_getElem h1] at this
    simpa using this
/-- Words that are read are what would be written. -/
theorem words_opF {ws : List (List UInt8)} {o : OpV} (h : opF ws = (o, 0)) : okOp o = true ∧ wordsW o = ws := by
  unfold opF at h
  split at h
  · injection h with h1 h2; omega
  split at h
  · injection h with h1 h2; omega
  split at h
  · injection h with h1 h2; omega
  rename_i h0 hk hl
  have wk := word_kind hk
  have hl2 : ws.length = wantOf (kindOf (getW ws 0)) := Classical.byContradiction fun c => hl c
  split at h
  · injection h with h1 h2; omega
  rename_i r hr
  have r1 := numF_some hr
  have wd : wordOf (kindOf (getW ws 0)) = getW ws 0 := wk.1
  split at h
  · rename_i htwo
    split at h
    · injection h with h1 h2; omega
    rename_i t ht
    have t1 := numF_some ht
    obtain ⟨e0, e1, e2, e3, e4⟩ := opEnd_ok h
    refine ⟨e0, ?_⟩
    unfold wordsW
    rw [e1, e2, e3, wd, r1, t1, if_pos htwo]
    cases hz : zedF (kindOf (getW ws 0))
    · have hw : wantOf (kindOf (getW ws 0)) = 3 := by simp [wantOf, numsOf, htwo, hz]
      rw [hw] at hl2
      simp only [Bool.false_eq_true, if_false]
      rw [list4 ws 2 hl2 (getW ws) (fun _ _ => rfl)]
      rfl
    · have hw : wantOf (kindOf (getW ws 0)) = 4 := by simp [wantOf, numsOf, htwo, hz]
      have e5 := e4 hz
      rw [hw] at hl2 e5
      rw [e5]
      simp only [if_true]
      rw [list4 ws 3 hl2 (getW ws) (fun _ _ => rfl)]
      rfl
  · rename_i htwo
    obtain ⟨e0, e1, e2, e3, e4⟩ := opEnd_ok h
    refine ⟨e0, ?_⟩
    unfold wordsW
    rw [e1, e2, wd, r1, if_neg htwo]
    cases hz : zedF (kindOf (getW ws 0))
    · have hw : wantOf (kindOf (getW ws 0)) = 2 := by simp [wantOf, numsOf, htwo, hz]
      rw [hw] at hl2
      simp only [Bool.false_eq_true, if_false]
      rw [list4 ws 1 hl2 (getW ws) (fun _ _ => rfl)]
      rfl
    · have hw : wantOf (kindOf (getW ws 0)) = 3 := by simp [wantOf, numsOf, htwo, hz]
      have e5 := e4 hz
      rw [hw] at hl2 e5
      rw [e5]
      simp only [if_true]
      rw [list4 ws 2 hl2 (getW ws) (fun _ _ => rfl)]
      rfl
theorem opF_bad {ws : List (List UInt8)} (h : (opF ws).2 ≠ 0) : (opF ws).1 = op0 ∧ ((opF ws).2 = 90 ∨ (opF ws).2 = 21 ∨ (opF ws).2 = 20 ∨ (opF ws).2 = 22) := by
  unfold opF at h ⊢
  split
  · exact ⟨rfl, by simp⟩
  split
  · exact ⟨rfl, by simp⟩
  split
  · exact ⟨rfl, by simp⟩
  rename_i h0 hk hl
  rw [if_neg h0, if_neg hk, if_neg hl] at h
  split
  · exact ⟨rfl, by simp⟩
  rename_i r hr
  rw [hr] at h
  simp only [] at h
  split
  · rename_i htwo
    rw [if_pos htwo] at h
    split
    · exact ⟨rfl, by simp⟩
    rename_i t ht
    rw [ht] at h
    simp only [] at h ⊢
    have := opEnd_bad h
    exact ⟨this.1, by omega⟩
  · rename_i htwo
    rw [if_neg htwo] at h
    have := opEnd_bad h
    exact ⟨this.1, by omega⟩

end Go.Proofs.YtfinbppmkffbhaaDoor
