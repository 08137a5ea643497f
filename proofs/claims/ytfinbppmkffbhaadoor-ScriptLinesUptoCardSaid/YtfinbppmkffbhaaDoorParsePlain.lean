/-
  PLAIN: a script, read line by line. No program.
-/
import Derived.Test.YtfinbppmkffbhaaDoorLinePlain
namespace Go.Proofs.YtfinbppmkffbhaaDoor
open Go.Lib

/-- What stands ahead of the first c, and behind it. -/
def cutF (c : UInt8) : List UInt8 → Option (List UInt8 × List UInt8)
  | [] => none
  | x :: r => if x = c then some ([], r) else match cutF c r with
    | none => none
    | some (a, b) => some (x :: a, b)
theorem cutF_none {c : UInt8} {s : List UInt8} (h : c ∉ s) : cutF c s = none := by
  induction s with
  | nil => rfl
  | cons x r ih =>
    unfold cutF
    rw [if_neg (fun e => h (by rw [e]; exact List.mem_cons_self ..)), ih (fun m => h (List.mem_cons_of_mem _ m))]
theorem cutF_some {c : UInt8} {a b : List UInt8} (h : c ∉ a) : cutF c (a ++ c :: b) = some (a, b) := by
  induction a with
  | nil => simp [cutF]
  | cons x r ih =>
    rw [List.cons_append]
    unfold cutF
    rw [if_neg (fun e => h (by rw [e]; exact List.mem_cons_self ..)), ih (fun m => h (List.mem_cons_of_mem _ m))]
/-- Line by line. -/
def parseL : Nat → Nat → List CmdV → List UInt8 → List CmdV × Nat × Int
  | 0, _, _, _ => ([], 0, 0)
  | f + 1, n, cs, t =>
    if t = [] then (cs, 0, 0)
    else if 600 < n then ([], n, 91)
    else match cutF 10 t with
      | none => ([], n, 10)
      | some (a, b) => if (readF a).2 ≠ 0 then ([], n, (readF a).2) else parseL f (n + 1) (cs ++ [(readF a).1]) b
def parseF (t : List UInt8) : List CmdV × Nat × Int := if 65536 < t.length then ([], 0, 91) else parseL (t.length + 1) 1 [] t

/-- Lines, each with its end. -/
def linesL (ls : List (List UInt8)) : List UInt8 := (ls.map (· ++ [10])).flatten
theorem linesL_cons (a : List UInt8) (r : List (List UInt8)) : linesL (a :: r) = a ++ 10 :: linesL r := by simp [linesL]
theorem parseL_done (f n : Nat) (cs : List CmdV) : parseL (f + 1) n cs [] = (cs, 0, 0) := rfl
theorem parseL_many {f n : Nat} {cs : List CmdV} {t : List UInt8} (ht : t ≠ []) (hn : 600 < n) : parseL (f + 1) n cs t = ([], n, 91) := by
  unfold parseL
  rw [if_neg ht, if_pos hn]
theorem parseL_open {f n : Nat} {cs : List CmdV} {t : List UInt8} (ht : t ≠ []) (hn : n ≤ 600) (h : (10 : UInt8) ∉ t) : parseL (f + 1) n cs t = ([], n, 10) := by
  unfold parseL
  rw [if_neg ht, if_neg (by omega), cutF_none h]
theorem parseL_step {f n : Nat} {cs : List CmdV} {a b : List UInt8} (hn : n ≤ 600) (h : (10 : UInt8) ∉ a) :
    parseL (f + 1) n cs (a ++ 10 :: b) = if (readF a).2 ≠ 0 then ([], n, (readF a).2) else parseL f (n + 1) (cs ++ [(readF a).1]) b := by
  rw [parseL, if_neg (by simp), if_neg (by omega), cutF_some h]
theorem cut_cases (c : UInt8) (s : List UInt8) : (c ∉ s ∧ cutF c s = none) ∨ ∃ a b, s = a ++ c :: b ∧ c ∉ a ∧ cutF c s = some (a, b) := by
  by_cases h : c ∈ s
  · right
    induction s with
    | nil => cases h
    | cons x r ih =>
      by_cases e : x = c
      · subst e
        exact ⟨[], r, rfl, by simp, by simp [cutF]⟩
      · have hm : c ∈ r := by
          rcases List.mem_cons.1 h with h | h
          · exact (e h.symm).elim
          · exact h
        obtain ⟨a, b, h1, h2, h3⟩ := ih hm
        refine ⟨x :: a, b, by rw [h1]; rfl, ?_, ?_⟩
        · intro m
          rcases List.mem_cons.1 m with m | m
          · exact e m.symm
          · exact h2 m
        · rw [cutF, if_neg e, h3]
  · exact Or.inl ⟨h, cutF_none h⟩

end Go.Proofs.YtfinbppmkffbhaaDoor
