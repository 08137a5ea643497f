/-
  THE WALK of the disk laws' head.
-/
import Derived.Test.YtmmdojnjognccaaDiskE
namespace Go.Proofs.Ytmmdojnjognccaa
open Go.RowKit

theorem newF_ok (room : Int) : DOk (newF room) :=
  ⟨by unfold newF; simp only []; omega, by simp [newF], by simp [newF], fun x hx => by simp [newF] at hx, fun x hx => by simp [newF] at hx, by simp [newF], by simp [newF]⟩
theorem new_dk (B : Nat) (col : Nat → Nat) (i : Nat) (room : Int) (w : World) (hc : Cols B w col) (hBw : B ≤ w.heap.size) :
    Calls Try.prog 8 #[.int .i64 room] w fun e w' => ∃ p col', e = .returned (.pointer (some ⟨p, 0, none⟩)) ∧ Ext B (S3 i) col w col' w' ∧ Dk col' i w' p (newF room) := by
  refine (new_at B col i room w hc hBw).mono ?_
  rintro e w1 ⟨p, rfl, col', r, k, h1, h2, h3, h4⟩
  exact ⟨p, col', rfl, ⟨h1, h2, h3, k.none⟩, ⟨r, h4⟩, newF_ok _⟩
theorem IS.ofHeap {w : World} {g n : Nat} {xs : List Int} (h : w.heap[g]? = some (.cells (xs.map (Value.int .i64)).toArray 3 (0, 0))) (hl : xs.length = n) (hm : n ≤ maxLen) : IS w (some ⟨g, 0, none⟩) n n xs :=
  ⟨hl, Nat.le_refl _, hm, Row.ofHeap h⟩
theorem IS.nil (w : World) : IS w none 0 0 [] := ⟨rfl, Nat.le_refl _, by simp [maxLen], Or.inl rfl⟩

theorem cols_new {B : Nat} {w : World} {col : Nat → Nat} (h : Cols B w col) {j : Nat} (hj : w.heap.size ≤ j) : col j = 0 := Classical.byContradiction fun d => by have := (h j d).2; omega

def nA : ByteArray := { data := #[97] }
def hd1 : DS := (appendF (newF 4) nA [1, 2, 3]).1
def hd2 : DS := (syncF hd1 nA).1
def hd3 : DS := (appendF hd2 nA [4, 5]).1
def hd4 : DS := (syncF hd3 nA).1
def hd5 : DS := crashF hd4 [9]
theorem h_1 : (appendF (newF 4) nA [1, 2, 3]).2 = 0 := by decide +kernel
theorem h_2 : (syncF hd1 nA).2 = 0 := by decide +kernel
theorem h_3 : (appendF hd2 nA [4, 5]).2 = 0 := by decide +kernel
theorem h_4 : (syncF hd3 nA).2 = 42 := by decide +kernel
theorem h_5 : readF hd5 nA = ([1, 2, 3, 4], 0) := by decide +kernel
theorem h_6 : hd5.room - sumF hd5.areas = 0 := by decide +kernel
theorem h_7 : hd5.steps = 3 := by decide +kernel
theorem h_s : (newF 4).steps < 4611686018427387904 ∧ hd1.steps < 4611686018427387904 ∧ hd2.steps < 4611686018427387904 ∧ hd3.steps < 4611686018427387904 := by decide +kernel

theorem h_e1 : (appendF (newF 4) nA [1, 2, 3]).1 = hd1 := rfl
theorem h_e2 : (syncF hd1 nA).1 = hd2 := rfl
theorem h_e3 : (appendF hd2 nA [4, 5]).1 = hd3 := rfl
theorem h_e4 : (syncF hd3 nA).1 = hd4 := rfl
theorem h_e5 : crashF hd4 [9] = hd5 := rfl

attribute [local irreducible] appendF syncF crashF readF newF hd1 hd2 hd3 hd4 hd5 sumF
set_option maxHeartbeats 2000000 in
set_option maxRecDepth 100000 in
theorem head_any (W : World) : Calls Try.prog 9 #[] W fun e w' => e = .returned (.bool true) ∧ Kp Noone W w' := by
  obtain ⟨s1, s2, s3, s4⟩ := h_s
  go_enter Try.func9, Try.ntmps9
  go_wp2_with fail
  refine (new_dk W.heap.size (fun _ => 0) 0 4 W (Cols.zero _ _) (Nat.le_refl _)).mono ?_
  rintro e w1 ⟨p, c1, rfl, x1, d1⟩
  have X1 := x1.mono (T := fun c => c ≠ 0) (fun c h => by unfold S3 at h; omega)
  clear x1
  go_wp2_with fail
  have kA : Kp Noone w1 (w1.alloc (.cells #[.int .u8 1, .int .u8 2, .int .u8 3] 5)) := (Kp.refl _ _).alloc _
  have hb1 : BS (w1.alloc (.cells #[.int .u8 1, .int .u8 2, .int .u8 3] 5)) (some ⟨w1.heap.size, 0, none⟩) 3 3 [1, 2, 3] := BS.ofHeap (fr := (0, 0)) (heap_alloc_new w1 _) rfl (by simp [maxLen])
  refine (append_dk W.heap.size c1 0 p (newF 4) nA _ 3 3 [1, 2, 3] _ (d1.keep kA) (X1.cols.keep kA.size) (Nat.le_trans X1.size kA.size) hb1 (by decide) s1).mono ?_
  rw [h_1]
  rintro e w2 ⟨rfl, c2, x2, d2⟩
  have X2 := (X1.trans (Ext.quiet X1.cols kA)).trans (x2.mono (T := fun c => c ≠ 0) (fun c h => by unfold S3 at h; omega))
  rw [h_e1] at d2
  clear X1 x2 d1 hb1 kA
  go_wp2_with fail
  refine (sync_dk W.heap.size c2 0 p hd1 nA w2 d2 X2.cols X2.size (by decide) s2).mono ?_
  rw [h_2, h_e2]
  rintro e w3 ⟨rfl, c3, x3, d3⟩
  have X3 := X2.trans (x3.mono (T := fun c => c ≠ 0) (fun c h => by unfold S3 at h; omega))
  clear X2 x3 d2
  go_wp2_with fail
  have kA : Kp Noone w3 (w3.alloc (.cells #[.int .u8 4, .int .u8 5] 5)) := (Kp.refl _ _).alloc _
  have hb1 : BS (w3.alloc (.cells #[.int .u8 4, .int .u8 5] 5)) (some ⟨w3.heap.size, 0, none⟩) 2 2 [4, 5] := BS.ofHeap (fr := (0, 0)) (heap_alloc_new w3 _) rfl (by simp [maxLen])
  refine (append_dk W.heap.size c3 0 p hd2 nA _ 2 2 [4, 5] _ (d3.keep kA) (X3.cols.keep kA.size) (Nat.le_trans X3.size kA.size) hb1 (by decide) s3).mono ?_
  rw [h_3, h_e3]
  rintro e w4 ⟨rfl, c4, x4, d4⟩
  have X4 := (X3.trans (Ext.quiet X3.cols kA)).trans (x4.mono (T := fun c => c ≠ 0) (fun c h => by unfold S3 at h; omega))
  clear X3 x4 d3 hb1 kA
  go_wp2_with fail
  refine (sync_dk W.heap.size c4 0 p hd3 nA w4 d4 X4.cols X4.size (by decide) s4).mono ?_
  rw [h_4, h_e4]
  rintro e w5 ⟨rfl, c5, x5, d5⟩
  have X5 := X4.trans (x5.mono (T := fun c => c ≠ 0) (fun c h => by unfold S3 at h; omega))
  clear X4 x5 d4
  go_wp2_with fail
  have kB : Kp Noone w5 (w5.alloc (.cells #[.int .i64 9] 3)) := (Kp.refl _ _).alloc _
  have hi1 : IS (w5.alloc (.cells #[.int .i64 9] 3)) (some ⟨w5.heap.size, 0, none⟩) 1 1 [9] := IS.ofHeap (heap_alloc_new w5 _) rfl (by simp [maxLen])
  refine (crash_dk W.heap.size c5 0 p hd4 _ 1 1 [9] _ (d5.keep kB) (X5.cols.keep kB.size) (Nat.le_trans X5.size kB.size) hi1 (fun _ a ha => by cases ha; exact cols_new X5.cols (Nat.le_refl _))).mono ?_
  rw [h_e5]
  rintro e w6 ⟨rfl, c6, x6, d6⟩
  have X6 := (X5.trans (Ext.quiet X5.cols kB)).trans (x6.mono (T := fun c => c ≠ 0) (fun c h => by unfold S3 at h; omega))
  clear X5 x6 d5 hi1 kB
  go_wp2_with fail
  refine (read_dk c6 0 p hd5 nA w6 d6 (by decide)).mono ?_
  rw [h_5]
  rintro e w7 ⟨bo, bc, rfl, ho, k7⟩
  have d7 := d6.keep k7
  have X7 := X6.trans (Ext.quiet X6.cols k7)
  clear X6 k7 d6
  have kC : Kp Noone w7 (w7.alloc (.cells #[.int .u8 1, .int .u8 2, .int .u8 3, .int .u8 4] 5)) := (Kp.refl _ _).alloc _
  have hb4 : BS (w7.alloc (.cells #[.int .u8 1, .int .u8 2, .int .u8 3, .int .u8 4] 5)) (some ⟨w7.heap.size, 0, none⟩) 4 4 [1, 2, 3, 4] := BS.ofHeap (fr := (0, 0)) (heap_alloc_new w7 _) rfl (by simp [maxLen])
  go_wp2_with fail
  refine (same_any _ _ _ _ _ _ [1, 2, 3, 4] [1, 2, 3, 4] _ (ho.bs.keep kC) hb4 (by decide)).mono ?_
  rintro e w8 ⟨rfl, q, rfl⟩
  have he : (([1, 2, 3, 4] : List UInt8) == [1, 2, 3, 4]) = true := by decide
  have k8 := kC.drewN q
  generalize (w7.alloc (.cells #[.int .u8 1, .int .u8 2, .int .u8 3, .int .u8 4] 5)).drewN q = w8 at *
  have d8 := d7.keep k8
  have X8 := X7.trans (Ext.quiet X7.cols k8)
  clear X7 d7 k8 kC hb4 ho
  go_wp2_with fail
  refine (free_dk c6 0 p hd5 w8 d8).mono ?_
  rw [h_6]
  rintro e w9 ⟨rfl, k9⟩
  have d9 := d8.keep k9
  have X9 := X8.trans (Ext.quiet X8.cols k9)
  clear X8 d8 k9
  go_wp2_with fail
  refine (steps_dk c6 0 p hd5 w9 d9).mono ?_
  rw [h_7]
  rintro e w10 ⟨rfl, rfl⟩
  go_wp2_with fail
  go_ret
  exact ⟨rfl, X9.kp.mono (fun j hj c => absurd rfl c)⟩

end Go.Proofs.Ytmmdojnjognccaa
