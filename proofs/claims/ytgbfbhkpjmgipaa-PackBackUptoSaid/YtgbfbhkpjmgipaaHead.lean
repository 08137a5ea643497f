/-
  THE WALK of the pack laws' head.
-/
import Derived.Test.YtgbfbhkpjmgipaaRefTexts
namespace Go.Proofs.Ytgbfbhkpjmgipaa
open Go.RowKit

theorem rnum_head : rnum [2, 1, 0, 9] 0 = (([9], 0), 256) := by decide +kernel
theorem head_bytes : ([] ++ numL 256 ++ numL (foldN (-1)) ++ numL 2 ++ [97, 98] : List UInt8) = [2, 1, 0, 1, 1, 1, 2, 97, 98] := by decide +kernel

set_option maxHeartbeats 1000000 in
theorem head_any (w : World) : Calls Try.prog 25 #[] w fun e w' => e = .returned (.bool true) ∧ Kp Noone w w' := by
  have kc := fun (w : World) (C : Array Value) (n c : Nat) => Lib.run_convert_bytes_const (P := Try.prog) w 24 5 C n c Try.underlying24 Try.underlying5
  go_enter Try.func25, Try.ntmps25
  go_wp2_with fail
  refine (newWriter_any _).mono ?_
  rintro e w1 ⟨p, rfl, hw1, k1, hp1⟩
  go_wp2_with fail
  refine (newReader_any _ 4 4 [2, 1, 0, 9] _ (BS.ofHeap (heap_alloc_new _ _) rfl (by simp [maxLen])) (by omega)).mono ?_
  rintro e w2 ⟨r, rfl, hr2, k2, hr1⟩
  have hw2 := (hw1.keep ((Kp.refl _ _).alloc _)).keep k2
  go_wp2_with fail
  have hsA : (w1.alloc (.cells (bv [2, 1, 0, 9]).toArray 5)).heap.size = w1.heap.size + 1 := by simp
  have hs2 := k2.size
  have K2 := (k1.alloc (.cells (bv [2, 1, 0, 9]).toArray 5)).trans k2
  refine (writerNum_any _ p [] 256 _ hw2 (by unfold W64; omega) (by simp)).mono ?_
  rintro e w3 ⟨rfl, hw3, k3⟩
  have hr3 := hr2.kp k3 (fun j hj c => by have h1 := Ex.none hj; have h2 := Ex.none c; omega)
  have K3 := K2.fin k3 (fun j c => Or.inr (Ex.none c).1)
  have hs3 := k3.size
  clear k3 hr2 hw2
  go_wp2_with fail
  refine (writerInt_any _ p _ (-1) _ hw3 (by omega) (by omega) (by decide +kernel)).mono ?_
  rintro e w4 ⟨rfl, hw4, k4⟩
  have hr4 := hr3.kp k4 (fun j hj c => by have h1 := Ex.none hj; rcases c with c | c; (have h2 := Ex.none c; omega); omega)
  have K4 := K3.fin k4 (fun j c => Or.inr (by have := K2.size; have := k1.size; rcases c with c | c; exact (Ex.none c).1; omega))
  have hs4 := k4.size
  clear k4 hr3 hw3
  go_wp2_with fail
  refine (writerText_any _ p _ _ 2 2 [97, 98] _ (hw4.keep ((Kp.refl _ _).alloc _)) (BS.ofHeap (fr := (2, 3)) (heap_alloc_new _ _) rfl (by simp [maxLen])) (fun a ha c => by
    cases ha
    have h0 := k1.size
    rcases c with (c | c) | c
    · have := Ex.none c; simp at this; omega
    · simp at c; omega
    · simp at c) (by decide +kernel)).mono ?_
  rintro e w5 ⟨rfl, hw5, k5⟩
  have hA4 : (w4.alloc (.cells (bv [97, 98]).toArray 5 (2, 3))).heap.size = w4.heap.size + 1 := by simp
  have kA4 : Kp Noone w4 (w4.alloc (.cells (bv [97, 98]).toArray 5 (2, 3))) := (Kp.refl _ _).alloc _
  have hr5 := (hr4.keep kA4).kp k5 (fun j hj c => by
    have h1 := Ex.none hj
    rcases c with (c | c) | c
    · have h2 := Ex.none c; omega
    · omega
    · omega)
  have K5 := (K4.trans kA4).fin k5 (fun j c => Or.inr (by
    have := K2.size; have := K3.size; have := k1.size
    rcases c with (c | c) | c
    · exact (Ex.none c).1
    · omega
    · omega))
  rw [head_bytes] at hw5
  clear hr4 hw4 k5
  go_wp2_with fail
  refine (writerBytes_any _ p _ _ hw5 (by simp)).mono ?_
  rintro e w6 ⟨bo, c, rfl, ho6, k6⟩
  have hr6 := hr5.keep k6
  go_wp2_with fail
  refine (same_any _ _ _ _ _ _ _ [2, 1, 0, 1, 1, 1, 2, 97, 98] _ (ho6.bs.keep ((Kp.refl _ _).alloc _)) (BS.ofHeap (heap_alloc_new _ _) rfl (by simp [maxLen])) (by simp)).mono ?_
  rintro e w7 ⟨rfl, q, rfl⟩
  have hr7 := fun o : Obj => (hr6.keep ((Kp.refl _ _).alloc o)).keep ((Kp.refl _ _).drewN q)
  have K7 := fun o : Obj => ((K5.trans k6).alloc o).drewN q
  go_wp2_with fail
  refine (readerNum_any r _ _ _ (hr7 _)).mono ?_
  rw [rnum_head]
  rintro e w8 ⟨rfl, hr8, k8⟩
  go_wp2_with fail
  refine (readerErr_any r _ _ _ hr8).mono ?_
  rintro e w9 ⟨rfl, rfl⟩
  go_wp2_with fail
  go_ret
  exact ⟨rfl, (K7 _).fin k8 (fun j hj => Or.inr (by have := k1.size; omega))⟩

end Go.Proofs.Ytgbfbhkpjmgipaa
