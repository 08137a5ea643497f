/-
  PLAIN LAWS: lines cut at a byte and joined again; what bytes numerals are made of. No program.
-/
import Derived.Test.YtfinbppmkffbhaaDoorShowPlain
import Derived.Lib.AtoiAll
import Derived.Lib.Split
namespace Go.Proofs.YtfinbppmkffbhaaDoor
open Go.Lib

/-- The pieces between the bytes c. -/
def splitF (c : UInt8) : List UInt8 → List (List UInt8)
  | [] => [[]]
  | x :: r => if x = c then [] :: splitF c r else match splitF c r with
    | [] => [[x]]
    | h :: t => (x :: h) :: t
/-- Pieces, with one c between two. -/
def joinF (c : UInt8) : List (List UInt8) → List UInt8
  | [] => []
  | a :: r => match r with
    | [] => a
    | _ :: _ => a ++ c :: joinF c r

theorem splitF_ne (c : UInt8) (s : List UInt8) : splitF c s ≠ [] := by
  cases s with
  | nil => simp [splitF]
  | cons x r =>
    unfold splitF
    split
    · simp
    · split <;> simp
theorem joinF_cons (c : UInt8) (a : List UInt8) (r : List (List UInt8)) (h : r ≠ []) : joinF c (a :: r) = a ++ c :: joinF c r := by
  cases r with
  | nil => exact (h rfl).elim
  | cons b t => rfl
theorem joinF_one (c : UInt8) (a : List UInt8) : joinF c [a] = a := rfl
theorem join_split (c : UInt8) (s : List UInt8) : joinF c (splitF c s) = s := by
  induction s with
  | nil => rfl
  | cons x r ih =>
    unfold splitF
    split
    · rename_i h
      rw [joinF_cons _ _ _ (splitF_ne c r), ih, h]
      rfl
    · split
      · rename_i h
        exact (splitF_ne c r h).elim
      · rename_i a t h
        rw [h] at ih
        cases t with
        | nil =>
          rw [joinF_one] at ih ⊢
          rw [ih]
        | cons b t =>
          rw [joinF_cons _ _ _ (by simp)] at ih ⊢
          rw [List.cons_append, ih]
theorem splitF_miss (c : UInt8) (s : List UInt8) (h : c ∉ s) : splitF c s = [s] := by
  induction s with
  | nil => rfl
  | cons x r ih =>
    have h1 : x ≠ c := fun e => h (by rw [e]; exact List.mem_cons_self ..)
    unfold splitF
    rw [if_neg h1, ih (fun m => h (List.mem_cons_of_mem _ m))]
theorem splitF_hit (c : UInt8) (a r : List UInt8) (h : c ∉ a) : splitF c (a ++ c :: r) = a :: splitF c r := by
  induction a with
  | nil =>
    rw [List.nil_append, splitF, if_pos rfl]
  | cons x t ih =>
    have h1 : x ≠ c := fun e => h (by rw [e]; exact List.mem_cons_self ..)
    rw [List.cons_append, splitF, if_neg h1, ih (fun m => h (List.mem_cons_of_mem _ m))]
theorem split_join (c : UInt8) (ws : List (List UInt8)) (h0 : ws ≠ []) (h : ∀ w ∈ ws, c ∉ w) : splitF c (joinF c ws) = ws := by
  induction ws with
  | nil => exact (h0 rfl).elim
  | cons a r ih =>
    cases r with
    | nil => rw [joinF_one, splitF_miss c a (h a (List.mem_cons_self ..))]
    | cons b t =>
      rw [joinF_cons c a _ (by simp), splitF_hit c a _ (h a (List.mem_cons_self ..)), ih (by simp) (fun w hw => h w (List.mem_cons_of_mem _ hw))]
theorem split_no (c : UInt8) (s : List UInt8) : ∀ w ∈ splitF c s, c ∉ w := by
  induction s with
  | nil => intro w hw; simp [splitF] at hw; subst hw; simp
  | cons x r ih =>
    unfold splitF
    split
    · intro w hw
      rcases List.mem_cons.1 hw with rfl | hw
      · simp
      · exact ih w hw
    · rename_i hx
      split
      · intro w hw
        simp at hw
        subst hw
        intro m
        simp at m
        exact hx m.symm
      · rename_i a t h
        rw [h] at ih
        intro w hw
        rcases List.mem_cons.1 hw with rfl | hw
        · intro m
          rcases List.mem_cons.1 m with e | m
          · exact hx e.symm
          · exact ih a (List.mem_cons_self ..) m
        · exact ih w (List.mem_cons_of_mem _ hw)
theorem split_len (c : UInt8) (s : List UInt8) : (splitF c s).length = s.count c + 1 := by
  induction s with
  | nil => rfl
  | cons x r ih =>
    unfold splitF
    split
    · rename_i h
      rw [List.length_cons, ih, h, List.count_cons_self]
    · rename_i h
      rw [List.count_cons_of_ne h]
      split
      · rename_i e
        exact (splitF_ne c r e).elim
      · rename_i a t e
        rw [e] at ih
        rw [← ih]
        rfl
theorem split_sub (c : UInt8) (s : List UInt8) : ∀ w ∈ splitF c s, w.length ≤ s.length := by
  induction s with
  | nil => intro w hw; simp [splitF] at hw; subst hw; simp
  | cons x r ih =>
    unfold splitF
    split
    · intro w hw
      rcases List.mem_cons.1 hw with rfl | hw
      · simp
      · have := ih w hw
        simp only [List.length_cons]
        omega
    · split
      · intro w hw
        simp at hw
        subst hw
        simp
      · rename_i a t h
        rw [h] at ih
        intro w hw
        rcases List.mem_cons.1 hw with rfl | hw
        · have := ih a (List.mem_cons_self ..)
          simp only [List.length_cons]
          omega
        · have := ih w (List.mem_cons_of_mem _ hw)
          simp only [List.length_cons]
          omega

/-! ### Numerals hold digits and signs alone -/

theorem dig_ne {x c : UInt8} (h : isDig x = true) (hc : isDig c = false) : x ≠ c := fun e => by
  rw [e, hc] at h
  cases h
theorem dec_no (c : UInt8) (hc : isDig c = false) (u : Nat) : c ∉ decDigits u := fun m => dig_ne ((dec_all u).1 c m) hc rfl
theorem itoa_no (c : UInt8) (hc : isDig c = false) (h45 : c ≠ 45) (n : Int) : c ∉ itoa n := by
  unfold itoa
  split
  · intro m
    rcases List.mem_cons.1 m with e | m
    · exact h45 e
    · exact dec_no c hc _ m
  · exact dec_no c hc _
theorem show_no (c : UInt8) (hc : isDig c = false) (h45 : c ≠ 45) (h43 : c ≠ 43) (h105 : c ≠ 105) (n m : Int) : c ∉ showL n m := by
  unfold showL
  intro h
  rcases List.mem_append.1 h with h | h
  · rcases List.mem_append.1 h with h | h
    · exact itoa_no c hc h45 n h
    · rcases List.mem_cons.1 h with h | h
      · unfold signC at h
        split at h
        · exact h45 h
        · exact h43 h
      · exact dec_no c hc _ h
  · simp at h
    exact h105 h

/-- A number as it is written. -/
def numF (s : List UInt8) : Option Int :=
  match atoiAll s with
  | .ok v => if itoa v = s then some v else none
  | _ => none
theorem numF_some {s : List UInt8} {v : Int} (h : numF s = some v) : itoa v = s := by
  unfold numF at h
  split at h
  · split at h
    · rename_i e
      injection h with h
      rw [← h, e]
    · cases h
  · cases h
theorem atoi_bound {s : List UInt8} {v : Int} (h : atoiAll s = .ok v) : -9223372036854775808 ≤ v ∧ v ≤ 9223372036854775807 := by
  unfold atoiAll at h
  split at h
  · cases h
  · simp only [] at h
    split at h
    · cases h
    · cases h
    · split at h
      · cases h
      · split at h
        · cases h
        · injection h with h
          split at h <;> omega
theorem numF_bound {s : List UInt8} {v : Int} (h : numF s = some v) : -9223372036854775808 ≤ v ∧ v ≤ 9223372036854775807 := by
  unfold numF at h
  split at h
  · rename_i u e
    split at h
    · injection h with h
      rw [← h]
      exact atoi_bound e
    · cases h
  · cases h

end Go.Proofs.YtfinbppmkffbhaaDoor
