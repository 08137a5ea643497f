/-
  THE WALK of the link laws' head.
-/
import Derived.Test.YtlpdoefbjhlegaaLinkDuo
namespace Go.Proofs.Ytlpdoefbjhlegaa
open Go.RowKit

def f0 : List UInt8 := [1, 1, 1, 3, 1, 1, 1, 1, 1, 1, 97]
def hA1 : LS := sentLS (newLS 3 10) [97]
theorem h_send : sendF (newLS 3 10) [97] = (hA1, 0) := rfl
theorem h_f0 : datFr 3 1 ⟨1, [97], false, 0⟩ = f0 := by decide +kernel
theorem h_emit0 : (emitF hA1 0).2 = [f0] := by
  rw [← h_f0]; rfl
theorem h_emit9 : (emitF (emitF hA1 0).1 9).2 = [] := rfl
theorem h_emit10 : (emitF (emitF (emitF hA1 0).1 9).1 10).2.length = 1 := rfl
theorem h_wait : (emitF (emitF (emitF hA1 0).1 9).1 10).1.out.length = 1 := rfl
theorem h_len : f0.length = 11 := rfl
theorem h_bv : (bv f0).toArray = #[.int .u8 1, .int .u8 1, .int .u8 1, .int .u8 3, .int .u8 1, .int .u8 1, .int .u8 1, .int .u8 1, .int .u8 1, .int .u8 1, .int .u8 97] := by rfl
theorem h_bs (w : World) : BS (w.alloc (.cells #[.int .u8 1, .int .u8 1, .int .u8 1, .int .u8 3, .int .u8 1, .int .u8 1, .int .u8 1, .int .u8 1, .int .u8 1, .int .u8 1, .int .u8 97] 5)) (some ⟨w.heap.size, 0, none⟩) 11 11 f0 := by
  have h := heap_alloc_new w (.cells (bv f0).toArray 5)
  have h2 := BS.ofHeap h h_len (by simp [maxLen])
  rwa [h_bv] at h2
theorem h_next : (newLS 3 10).next < 1048576 := by decide
attribute [local irreducible] parse numL in
theorem h_in : ∃ b1 b2, inF (newLS 1 10) (parse f0) = (b1, [97], true, 0) ∧ inF b1 (parse f0) = (b2, [], false, 0) := by
  rw [← h_f0]
  have h1 := in_dat (s := newLS 1 10) (newLS_inv 1 10) (boot := 3) (base := 1) (o := ⟨1, [97], false, 0⟩) (by omega) (by decide) (by decide) (by decide)
  have e1 := in_err (s := newLS 1 10) (boot := 3) (base := 1) (o := ⟨1, [97], false, 0⟩) (by omega) (by decide) (by decide)
  have hr : rcv (newLife (newLS 1 10) 3) 1 = false := by rw [newLS_rcv _ _ (by omega)]; rfl
  obtain ⟨g1, g2, g3⟩ := h1
  rw [hr] at g1
  have g2 := g2 hr
  have hi := inF_inv (newLS_inv 1 10) (datFr 3 1 ⟨1, [97], false, 0⟩)
  have h2 := in_dat hi (boot := 3) (base := 1) (o := ⟨1, [97], false, 0⟩) (by omega) (by decide) (by decide) (by rw [g3.peer]; omega)
  have e2 := in_err (s := (inF (newLS 1 10) (parse (datFr 3 1 ⟨1, [97], false, 0⟩))).1) (boot := 3) (base := 1) (o := ⟨1, [97], false, 0⟩) (by omega) (by decide) (by decide)
  rw [newLife_self g3.peer, g3.rcv] at h2
  obtain ⟨k1, -, -⟩ := h2
  simp only [decide_true, Bool.or_true, Bool.not_true] at k1
  have e3 := e2.2 k1
  generalize inF (newLS 1 10) (parse (datFr 3 1 ⟨1, [97], false, 0⟩)) = q at *
  obtain ⟨b1, x, ok, er⟩ := q
  simp only [] at *
  generalize hq2 : inF b1 (parse (datFr 3 1 ⟨1, [97], false, 0⟩)) = q2 at *
  obtain ⟨b2, x2, ok2, er2⟩ := q2
  simp only [Bool.not_false] at *
  refine ⟨b1, b2, by rw [g2, g1, e1.1], ?_⟩
  rw [hq2, k1, e2.1, e3]

attribute [local irreducible] parse numL emitF inF sendF newLS hA1 moveF
set_option maxHeartbeats 2000000 in
set_option maxRecDepth 100000 in
theorem head_any (W : World) : Calls Try.prog 8 #[] W fun e w' => e = .returned (.bool true) ∧ Kp Noone W w' := by
  obtain ⟨b1, b2, hI1, hI2⟩ := h_in
  have kc := fun (w : World) (C : Array Value) (n c : Nat) => Lib.run_convert_bytes_const (P := Try.prog) w 31 5 C n c Try.underlying31 Try.underlying5
  go_enter Try.func8, Try.ntmps8
  go_wp2_with fail
  refine (new_lk W.heap.size (fun _ => 0) 0 3 10 _ (Cols.zero _ _) (Nat.le_refl _)).mono ?_
  rintro e w1 ⟨pa, c1, rfl, x1, a1⟩
  go_wp2_with fail
  refine (new_lk W.heap.size c1 5 1 10 _ x1.cols x1.size).mono ?_
  rintro e w2 ⟨pb, c2, rfl, x2, lb2⟩
  have a2 := a1.ext x2 (fun c h d => by unfold S5 at h d; omega)
  have X2 := (x1.mono (T := fun c => c ≠ 0) (fun c h => by unfold S5 at h; omega)).trans (x2.mono (fun c h => by unfold S5 at h; omega))
  clear x1 x2 a1
  go_wp2_with fail
  have hB2 := X2.size
  refine (send_lk W.heap.size c2 0 pa (newLS 3 10) _ 1 1 [97] _ (a2.keep ((Kp.refl Noone w2).alloc _)) (X2.cols.keep ((Kp.refl Noone w2).alloc _).size) (Nat.le_trans hB2 ((Kp.refl Noone w2).alloc _).size) (BS.ofHeap (fr := (1, 2)) (heap_alloc_new _ _) rfl (by simp [maxLen])) h_next).mono ?_
  rw [h_send]
  rintro e w3 ⟨c3, rfl, x3, a3⟩
  have b3 := (lb2.keep ((Kp.refl Noone w2).alloc _)).ext x3 (fun c h d => by unfold S5 at h d; omega)
  have X3 := (X2.trans (Ext.quiet X2.cols ((Kp.refl Noone w2).alloc _))).trans (x3.mono (fun c h => by unfold S5 at h; omega))
  clear x3 lb2 a2 X2
  go_wp2_with fail
  refine (out_lk W.heap.size c3 0 pa hA1 0 _ a3 X3.cols X3.size (by omega)).mono ?_
  rw [h_emit0]
  rintro e w4 ⟨fo, fcap, rfl, hfr, x4, a4⟩
  have b4 := b3.ext x4 (fun c h d => by unfold S5 at h d; omega)
  have X4 := X3.trans (x4.mono (fun c h => by unfold S5 at h; omega))
  obtain ⟨b, off, bo, m, c, hl, rfl, f4⟩ := hfr.get (k := 0) (by simp)
  simp only [List.getElem_cons_zero, Nat.add_zero] at f4
  have hcell := f4.cell
  have hm : f0.length = m := f4.data.1.len
  rw [h_len] at hm
  subst hm
  clear x4 b3 X3 hfr hl
  go_wp2_with fail
  refine (same_any _ _ _ _ _ _ f0 f0 _ (f4.keep ((Kp.refl Noone w4).alloc _)).data.1 (h_bs w4) (by simp only []; omega)).mono ?_
  rintro e w5 ⟨rfl, q, rfl⟩
  have he : (f0 == f0) = true := beq_self_eq_true _
  have K45 := fun o : Obj => ((Kp.refl Noone w4).alloc o).drewN q
  have X5 := fun o : Obj => X4.trans (Ext.quiet X4.cols (K45 o))
  have a5 := fun o : Obj => a4.keep (K45 o)
  have b5 := fun o : Obj => b4.keep (K45 o)
  have f5 := fun o : Obj => f4.keep (K45 o)
  clear K45 X4 a4 b4 f4 hcell
  go_wp2_with fail
  refine (out_lk W.heap.size c3 0 pa _ 9 _ (a5 _) (X5 _).cols (X5 _).size (by omega)).mono ?_
  rw [h_emit9]
  rintro e w6 ⟨fo6, fc6, rfl, -, x6, a6⟩
  have b6 := (b5 _).ext x6 (fun c h d => by unfold S5 at h d; omega)
  have f6 := (f5 _).ext x6 (fun d => by unfold S5 at d; omega)
  have X6 := (X5 _).trans (x6.mono (fun c h => by unfold S5 at h; omega))
  clear x6 b5 f5 X5 a5
  go_wp2_with fail
  refine (out_lk W.heap.size c3 0 pa _ 10 _ a6 X6.cols X6.size (by omega)).mono ?_
  rw [h_emit10]
  rintro e w7 ⟨fo7, fc7, rfl, -, x7, a7⟩
  have b7 := b6.ext x7 (fun c h d => by unfold S5 at h d; omega)
  have f7 := f6.ext x7 (fun d => by unfold S5 at d; omega)
  have X7 := X6.trans (x7.mono (fun c h => by unfold S5 at h; omega))
  have hcell := f7.cell
  clear x7 b6 f6 X6 a6
  go_wp2_with fail
  refine (in_lk W.heap.size c3 5 pb _ bo 11 c f0 _ b7 X7.cols X7.size f7.data.1 (by omega) _ _ _ _ hI1).mono ?_
  rintro e w8 ⟨xo, xc, c8, rfl, x8, b8, o8⟩
  have a8 := a7.ext x8 (fun c h d => by unfold S5 at h d; omega)
  have f8 := f7.ext x8 (fun d => by unfold S5 at d; omega)
  have X8 := X7.trans (x8.mono (fun c h => by unfold S5 at h; omega))
  have hcell := f8.cell
  have s8 := x8.size
  clear x8 b7 f7 X7 a7
  go_wp2_with fail
  refine (in_lk W.heap.size c8 5 pb _ bo 11 c f0 _ b8 X8.cols X8.size f8.data.1 (by omega) _ _ _ _ hI2).mono ?_
  rintro e w9 ⟨yo, yc, c9, rfl, x9, b9, o9⟩
  have a9 := a8.ext x9 (fun c h d => by unfold S5 at h d; omega)
  have o9 := o8.kp x9.kp (fun j h d => by rw [h.2] at d; unfold S5 at d; omega)
  have X9 := X8.trans (x9.mono (fun c h => by unfold S5 at h; omega))
  clear x9 b8 f8 X8 a8 o8
  go_wp2_with fail
  refine (same_any _ _ _ _ _ _ [97] [97] _ (o9.bs.keep ((Kp.refl Noone w9).alloc _)) (BS.ofHeap (fr := (1, 2)) (heap_alloc_new _ _) rfl (by simp [maxLen])) (by decide)).mono ?_
  rintro e w10 ⟨rfl, q2, rfl⟩
  have he2 : (([97] : List UInt8) == [97]) = true := by decide
  have K9 := fun o : Obj => ((Kp.refl Noone w9).alloc o).drewN q2
  go_wp2_with fail
  refine (waiting_lk c9 0 pa _ _ (a9.keep (K9 _))).mono ?_
  rw [h_wait]
  rintro e w11 ⟨rfl, rfl⟩
  go_wp2_with fail
  go_ret
  exact ⟨rfl, (X9.trans (Ext.quiet X9.cols (K9 _))).kp.mono (fun j hj c => absurd rfl c)⟩

end Go.Proofs.Ytlpdoefbjhlegaa
