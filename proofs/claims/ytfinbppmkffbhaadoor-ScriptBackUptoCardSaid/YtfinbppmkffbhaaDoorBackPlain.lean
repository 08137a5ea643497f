/-
  PLAIN: how long a command's line is. No program.
-/
import Derived.Test.YtfinbppmkffbhaaDoorScriptE
namespace Go.Proofs.YtfinbppmkffbhaaDoor
open Go.Lib

theorem flat_le (ws : List (List UInt8)) (k : Nat) (h : ∀ w ∈ ws, w.length ≤ k) : (ws.map (32 :: ·)).flatten.length ≤ ws.length * (k + 1) := by
  induction ws with
  | nil => simp
  | cons a r ih =>
    have h1 := h a (List.mem_cons_self ..)
    have h2 := ih (fun w hw => h w (List.mem_cons_of_mem _ hw))
    simp only [List.map_cons, List.flatten_cons, List.length_append, List.length_cons, Nat.succ_mul]
    omega
theorem bounds_ten (v : List UInt8) : (boundsF v).2.1 ≤ 10 := by
  unfold boundsF
  repeat' split
  all_goals decide
theorem lineF_len (c : CmdV) (hv : c.verb.length ≤ 1048576) (hd : c.data.length ≤ 1048576) (hn : ∀ n ∈ c.nums, -9223372036854775808 ≤ n ∧ n ≤ 9223372036854775807) : (lineF c).1.length ≤ 4194304 := by
  unfold lineF
  split
  · simp
  rename_i h1
  split
  · simp
  split
  · simp
  rename_i h3
  have hten := bounds_ten c.verb
  have hl : c.nums.length ≤ 10 := by omega
  show (lineL c).length ≤ 4194304
  rw [lineL_eq, List.length_append]
  have hs := flat_le (c.nums.map Lib.itoa) 23 (fun w hw => by
    obtain ⟨n, hm, rfl⟩ := List.mem_map.1 hw
    exact itoa_len n (by have := hn n hm; omega))
  rw [List.length_map] at hs
  have hnt : (numsTo c.verb c.nums c.nums.length).length = c.verb.length + ((c.nums.map Lib.itoa).map (32 :: ·)).flatten.length := by
    unfold numsTo
    rw [List.take_length, List.length_append, List.map_map]
    rfl
  have ht : ((tailW c).map (32 :: ·)).flatten.length ≤ 2097160 := by
    unfold tailW
    split
    · rename_i ha
      have hok : okOp c.op = true := by
        cases h : okOp c.op
        · exact (h3 ⟨ha, h⟩).elim
        · rfl
      rw [flat_join _ (by unfold wordsW; simp)]
      have := wordsL_len c.op hok
      unfold wordsL at this
      simp only [List.length_cons]
      omega
    · split
      · simp only [List.map_cons, List.map_nil, List.flatten_cons, List.flatten_nil, List.length_append, List.length_cons, List.length_nil, hexL_len]
        omega
      · simp
  omega

end Go.Proofs.YtfinbppmkffbhaaDoor
