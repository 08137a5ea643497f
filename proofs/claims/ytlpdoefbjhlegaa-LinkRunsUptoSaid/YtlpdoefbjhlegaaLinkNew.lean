/-
  THE WALKS of New and Waiting.
-/
import Derived.Test.YtlpdoefbjhlegaaLinkIn
import Derived.Carry
namespace Go.Proofs.Ytlpdoefbjhlegaa
open Go.RowKit

def newLS (boot retry : Int) : LS := ⟨max 1 (min boot 1099511627776), max 1 (min retry 1048576), 1, [], [], 0, 0, fun _ => false⟩

set_option maxHeartbeats 1000000 in
theorem waiting_at (col : Nat → Nat) (i p : Nat) (s : LS) (r : LR) (w : World) (h : LinkAt col i w p s r) :
    Calls Try.prog 20 #[.pointer (some ⟨p, 0, none⟩)] w fun e w' => e = .returned (.int .i64 (s.out.length : Int)) ∧ w = w' := by
  obtain ⟨⟨q0, q1, q2, q3⟩, ⟨q4, q5, q6, q7⟩, qf⟩ := cells_eight h.head
  go_enter Try.func20, Try.ntmps20
  go_wp2_with fail
  go_ret
  exact ⟨rfl, rfl⟩

/-- What New leaves. -/
def NewTo (B : Nat) (col : Nat → Nat) (i : Nat) (w : World) (s : LS) (p : Nat) (w' : World) : Prop :=
  ∃ col' r, Kp Noone w w' ∧ Cols B w' col' ∧ (∀ k, k < w.heap.size → col' k = col k) ∧ (∀ k, w.heap.size ≤ k → col' k ≠ 0 → i < col' k ∧ col' k ≤ i + 5) ∧ LinkAt col' i w' p s r

theorem newTo_at (B : Nat) (col : Nat → Nat) (i : Nat) (boot retry : Int) (w : World) (hc : Cols B w col) (hBw : B ≤ w.heap.size) (x y : Int) (hx : x = max 1 (min boot 1099511627776)) (hy : y = max 1 (min retry 1048576)) :
    NewTo B col i w (newLS boot retry) (w.heap.size + 1) ((w.alloc (.map #[] 0)).alloc (.cells #[.int .i64 x, .int .i64 y, .int .i64 1, .slice none 0 0, .slice none 0 0, .int .i64 0, .int .i64 0, .map (some w.heap.size)] 59)) := by
  subst hx hy
  have k1 : Kp Noone w (w.alloc (.map #[] 0)) := (Kp.refl _ _).alloc _
  have k2 : Kp Noone w ((w.alloc (.map #[] 0)).alloc (.cells #[.int .i64 (max 1 (min boot 1099511627776)), .int .i64 (max 1 (min retry 1048576)), .int .i64 1, .slice none 0 0, .slice none 0 0, .int .i64 0, .int .i64 0, .map (some w.heap.size)] 59)) := k1.alloc _
  have hs1 : (w.alloc (.map #[] 0)).heap.size = w.heap.size + 1 := by simp
  have hh1 := heap_alloc_new w (.map #[] 0)
  have hh2 := ((Kp.refl Noone (w.alloc (.map #[] 0))).alloc (.cells #[.int .i64 (max 1 (min boot 1099511627776)), .int .i64 (max 1 (min retry 1048576)), .int .i64 1, .slice none 0 0, .slice none 0 0, .int .i64 0, .int .i64 0, .map (some w.heap.size)] 59)).heap hh1 id
  have hh3 := heap_alloc_new (w.alloc (.map #[] 0)) (.cells #[.int .i64 (max 1 (min boot 1099511627776)), .int .i64 (max 1 (min retry 1048576)), .int .i64 1, .slice none 0 0, .slice none 0 0, .int .i64 0, .int .i64 0, .map (some w.heap.size)] 59)
  rw [hs1] at hh3
  have hs2 := (Array.getElem?_eq_some_iff.1 hh3).1
  refine ⟨fun k => if k = w.heap.size + 1 then i + 1 else if k = w.heap.size then i + 4 else col k, ⟨none, 0, none, 0, w.heap.size, [], []⟩, k2, fun k hk => ?_, fun k hk => ?_, fun k hk hn => ?_, ?_⟩
  · simp only [] at hk
    split at hk
    · omega
    · split at hk
      · omega
      · have := hc k hk; omega
  · simp only []; rw [if_neg (by omega), if_neg (by omega)]
  · simp only [] at hn ⊢
    split at hn
    · rename_i h; rw [if_pos h]; omega
    · rename_i h
      rw [if_neg h]
      split at hn
      · rename_i h2; rw [if_pos h2]; omega
      · have := hc k hn; omega
  · refine ⟨by simp, hh3, ⟨Own.nil _ _ _ _ _, rfl, fun j h => by simp at h⟩, Own.nil _ _ _ _ _, by simp, ⟨#[], 0, hh2, ⟨rfl, by simp, by simp, by simp⟩⟩, fun k => rfl⟩

set_option maxHeartbeats 1000000 in
theorem new_at (B : Nat) (col : Nat → Nat) (i : Nat) (boot retry : Int) (w : World) (hc : Cols B w col) (hBw : B ≤ w.heap.size) :
    Calls Try.prog 9 #[.int .i64 boot, .int .i64 retry] w fun e w' => ∃ p, e = .returned (.pointer (some ⟨p, 0, none⟩)) ∧ NewTo B col i w (newLS boot retry) p w' := by
  have hmm := @run_makeMap Try.prog
  have HQ := Lib.hid (newTo_at B col i boot retry w hc hBw)
  clear hc
  go_enter Try.func9, Try.ntmps9
  go_wp2_with fail
  all_goals (
    go_ret
    exact ⟨w.heap.size + 1, rfl, HQ.out _ _ (by omega) (by omega)⟩)

end Go.Proofs.Ytlpdoefbjhlegaa
