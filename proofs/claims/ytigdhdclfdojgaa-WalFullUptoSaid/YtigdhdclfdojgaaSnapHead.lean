/-
  THE WALK of the laws' head (snap).
-/
import Derived.Test.YtigdhdclfdojgaaSnapClean
import Derived.Test.YtigdhdclfdojgaaRefDiskA
namespace Go.Proofs.Ytigdhdclfdojgaa
open Go.RowKit

def sh1 : DS := (saveF (newF 1000) 5 [97, 98, 99]).1
def sh2 : DS := (saveF sh1 9 [100]).1
theorem sh_1 : (saveF (newF 1000) 5 [97, 98, 99]).2 = 0 := by decide +kernel
theorem sh_2 : (saveF sh1 9 [100]).2 = 0 := by decide +kernel
theorem sh_3 : loadF sh2 = (9, [100], true, 0) := by decide +kernel
theorem listF_length (s : DS) : (listF s).length = if s.down = true then 0 else s.areas.length := by
  unfold listF
  split
  · rfl
  · unfold namesF
    rw [sortN_length, List.length_map]
theorem sh_4 : (listF sh2).length = 2 := by
  rw [listF_length]
  decide +kernel
theorem sh_s : (newF 1000).steps < 4611686018427387000 ∧ sh1.steps < 4611686018427387000 := by decide +kernel
theorem sh_e1 : (saveF (newF 1000) 5 [97, 98, 99]).1 = sh1 := rfl
theorem sh_e2 : (saveF sh1 9 [100]).1 = sh2 := rfl

attribute [local irreducible] saveF loadF newF listF sh1 sh2

set_option maxHeartbeats 2000000 in
set_option maxRecDepth 100000 in
theorem head_any (W : World) : Calls Try.prog 11 #[] W fun e w' => e = .returned (.bool true) ∧ Kp Noone W w' := by
  obtain ⟨s1, s2⟩ := sh_s
  have kc := fun (w : World) (C : Array Value) (n c : Nat) => Lib.run_convert_bytes_const (P := Try.prog) w 22 5 C n c Try.underlying22 Try.underlying5
  go_enter Try.func11, Try.ntmps11
  go_wp2_with fail
  refine (new_dk W.heap.size (fun _ => 0) 0 1000 W (Cols.zero _ _) (Nat.le_refl _)).mono ?_
  rintro e w1 ⟨p, c1, rfl, x1, d1⟩
  have X1 := Lib.hid (x1.mono (T := fun c => c ≠ 0) (fun c h => by unfold S3 at h; omega))
  have kA : Kp Noone w1 (w1.alloc (.cells #[.int .u8 97, .int .u8 98, .int .u8 99] 5 (3, 4))) := (Kp.refl _ _).alloc _
  have hb1 : BS (w1.alloc (.cells #[.int .u8 97, .int .u8 98, .int .u8 99] 5 (3, 4))) (some ⟨w1.heap.size, 0, none⟩) 3 3 [97, 98, 99] := BS.ofHeap (fr := (3, 4)) (heap_alloc_new w1 _) rfl (by simp [maxLen])
  have hD1 : DataP (fun j => c1 j = 0) (w1.alloc (.cells #[.int .u8 97, .int .u8 98, .int .u8 99] 5 (3, 4))) (some ⟨w1.heap.size, 0, none⟩) 3 3 [97, 98, 99] :=
    ⟨hb1, fun _ a ha => by cases ha; exact ⟨cols_new X1.out.cols (Nat.le_refl _), by rw [alloc_size]; simp⟩⟩
  have hsv := save_dk W.heap.size c1 0 p (newF 1000) 5 (some ⟨w1.heap.size, 0, none⟩) 3 3 [97, 98, 99] _ (d1.keep kA) (X1.out.cols.keep kA.size) (Nat.le_trans X1.out.size kA.size) hD1 s1
  clear x1 d1 hb1 hD1
  go_wp2_with fail
  refine hsv.mono ?_
  rintro e w2 hto
  obtain ⟨c2, he, x2, d2⟩ := hto.ex
  rw [sh_1] at he
  subst he
  rw [sh_e1] at d2
  have X2 := Lib.hid ((X1.out.trans (Ext.quiet X1.out.cols kA)).trans (x2.mono (T := fun c => c ≠ 0) (fun c h => by unfold S3 at h; omega)))
  have kB : Kp Noone w2 (w2.alloc (.cells #[.int .u8 100] 5 (1, 2))) := (Kp.refl _ _).alloc _
  have hb2 : BS (w2.alloc (.cells #[.int .u8 100] 5 (1, 2))) (some ⟨w2.heap.size, 0, none⟩) 1 1 [100] := BS.ofHeap (fr := (1, 2)) (heap_alloc_new w2 _) rfl (by simp [maxLen])
  have hD2 : DataP (fun j => c2 j = 0) (w2.alloc (.cells #[.int .u8 100] 5 (1, 2))) (some ⟨w2.heap.size, 0, none⟩) 1 1 [100] :=
    ⟨hb2, fun _ a ha => by cases ha; exact ⟨cols_new X2.out.cols (Nat.le_refl _), by rw [alloc_size]; simp⟩⟩
  have hsv2 := save_dk W.heap.size c2 0 p sh1 9 (some ⟨w2.heap.size, 0, none⟩) 1 1 [100] _ (d2.keep kB) (X2.out.cols.keep kB.size) (Nat.le_trans X2.out.size kB.size) hD2 s2
  clear hsv hto x2 d2 hb2 hD2 X1 kA
  go_wp2_with fail
  refine hsv2.mono ?_
  rintro e w3 hto
  obtain ⟨c3, he, x3, d3⟩ := hto.ex
  rw [sh_2] at he
  subst he
  rw [sh_e2] at d3
  have X3 := Lib.hid ((X2.out.trans (Ext.quiet X2.out.cols kB)).trans (x3.mono (T := fun c => c ≠ 0) (fun c h => by unfold S3 at h; omega)))
  clear hsv2 hto x3 X2 kB
  go_wp2_with fail
  refine (load_dk c3 0 p sh2 w3 d3).mono ?_
  rintro e w4 hto
  obtain ⟨bo, c, he, ho, k4⟩ := hto.ex
  rw [sh_3] at he ho
  simp only [List.length_cons, List.length_nil, Nat.zero_add] at he ho
  subst he
  have d4 := d3.keep k4
  have hob := ho.bs
  have kC : Kp Noone w4 (w4.alloc (.cells #[.int .u8 100] 5 (1, 2))) := (Kp.refl _ _).alloc _
  have hbc : BS (w4.alloc (.cells #[.int .u8 100] 5 (1, 2))) (some ⟨w4.heap.size, 0, none⟩) 1 1 [100] := BS.ofHeap (fr := (1, 2)) (heap_alloc_new w4 _) rfl (by simp [maxLen])
  have hs := same_any bo (some ⟨w4.heap.size, 0, none⟩) 1 c 1 1 [100] [100] _ (hob.keep kC) hbc (by omega)
  have X4 := Lib.hid (X3.out.trans (Ext.quiet X3.out.cols k4))
  clear hto ho d3 hob hbc X3
  go_wp2_with fail
  refine hs.mono ?_
  rintro e w5 ⟨rfl, q, rfl⟩
  have d5 := (d4.keep kC).keep ((Kp.refl _ _).drewN q)
  have K5 := (kC.trans ((Kp.refl Noone _).drewN q))
  have hls := list_dk c3 0 p sh2 _ d5
  rw [sh_4] at hls
  clear hs d4 d5
  go_wp2_with fail
  refine hls.mono ?_
  rintro e w6 ⟨no, nc, rfl, -, k6⟩
  have X6 := Lib.hid (X4.out.trans (Ext.quiet X4.out.cols (K5.trans k6)))
  clear hls K5 k6
  go_wp2_with fail
  go_ret
  exact ⟨rfl, X6.out.kp.mono (fun j hj c => absurd rfl c)⟩

end Go.Proofs.Ytigdhdclfdojgaa
