/-
  WALK of the laws' copied.
-/
import Derived.Test.YtfinbppmkffbhaaDoorCopied
namespace Go.Proofs.YtfinbppmkffbhaaDoor
open Go.RowKit Go.Sort

set_option maxHeartbeats 8000000 in
set_option maxRecDepth 100000 in
theorem copied_any (c : CmdV) (l : Loc) (w : World) (hA : CmdAt w c l) :
    Calls Tryd.prog 9 #[cmdV c l] w fun e w' => CopyTo c w e w' := by
  have hx1 : (w.alloc (.cells (cmdCs c l) 27)).heap.size = w.heap.size + 1 := by simp
  have hx2 : ((w.alloc (.cells (cmdCs c l) 27)).alloc (.cells (cmdCs cmd0 loc0) 27)).heap.size = w.heap.size + 2 := by simp
  have hx3 : (((w.alloc (.cells (cmdCs c l) 27)).alloc (.cells (cmdCs cmd0 loc0) 27)).alloc (.cells (cmdCs c l) 27)).heap.size = w.heap.size + 3 := by simp
  have hk1 : Kp Noone w (w.alloc (.cells (cmdCs c l) 27)) := (Kp.refl _ _).alloc _
  have hk2 : Kp Noone (w.alloc (.cells (cmdCs c l) 27)) ((w.alloc (.cells (cmdCs c l) 27)).alloc (.cells (cmdCs cmd0 loc0) 27)) := (Kp.refl _ _).alloc _
  have hk3 : Kp Noone ((w.alloc (.cells (cmdCs c l) 27)).alloc (.cells (cmdCs cmd0 loc0) 27)) (((w.alloc (.cells (cmdCs c l) 27)).alloc (.cells (cmdCs cmd0 loc0) 27)).alloc (.cells (cmdCs c l) 27)) := (Kp.refl _ _).alloc _
  have hr0 := hk2.heap (heap_alloc_new w (.cells (cmdCs c l) 27)) id
  have HR0 := Lib.hid (hk3.heap hr0 id)
  have hr1 := heap_alloc_new (w.alloc (.cells (cmdCs c l) 27)) (.cells (cmdCs cmd0 loc0) 27)
  rw [hx1] at hr1
  have HR1 := Lib.hid (hk3.heap hr1 id)
  have hr2 := heap_alloc_new ((w.alloc (.cells (cmdCs c l) 27)).alloc (.cells (cmdCs cmd0 loc0) 27)) (.cells (cmdCs c l) 27)
  rw [hx2] at hr2
  have HR2 := Lib.hid hr2
  have HK := Lib.hid ((hk1.trans hk2).trans hk3)
  have HX3 := Lib.hid hx3
  have HA := Lib.hid hA
  have HNM := hA.nlen
  have HDM := hA.dlen
  clear hA hk1 hk2 hk3 hx1 hx2 hx3 hr1 hr2
  obtain ⟨i0, hi, hz0, hz1, hz2⟩ := info_parts (P := Tryd.prog) (e := 3) (z := .int .i64 0) (size := 1) (bytes := 8) (by kernel_rfl)
  obtain ⟨j0, hj, qz0, qz1, qz2⟩ := info_parts (P := Tryd.prog) (e := 5) (z := .int .u8 0) (size := 1) (bytes := 1) (by kernel_rfl)
  obtain ⟨v, ns, o, d⟩ := c
  obtain ⟨k, r, t, a, b⟩ := o
  obtain ⟨no, nc, bo, bc⟩ := l
  unfold cmdV
  simp only [cmdCs, strV, cmd0, loc0, op0, List.length_nil] at hr0 HR0 HR1 HR2 HK HX3 HNM HDM ⊢
  go_enter Tryd.func9, Tryd.ntmps9
  go_upto_region 1 with fail
  obtain ⟨z0, z1, z2, z3, z4, z5, z6, z7⟩ := cells_8f hr0
  go_upto_region 2 with fail
  clear z0 z1 z2 z3 z4 z5 z6 z7 hr0
  generalize ((w.alloc (.cells #[.string ⟨v.toArray⟩, .slice no ns.length nc, .int .i64 k, .int .i64 r, .int .i64 t, .int .i64 a, .int .i64 b, .slice bo d.length bc] 27)).alloc (.cells #[.string ⟨#[]⟩, .slice none 0 0, .int .i64 0, .int .i64 0, .int .i64 0, .int .i64 0, .int .i64 0, .slice none 0 0] 27)).alloc (.cells #[.string ⟨v.toArray⟩, .slice no ns.length nc, .int .i64 k, .int .i64 r, .int .i64 t, .int .i64 a, .int .i64 b, .slice bo d.length bc] 27) = w0 at *
  generalize hgs : w.heap.size = g at *
  have HGS := Lib.hid hgs
  clear hgs
  rw [show g + 1 + 1 = g + 2 from rfl]
  have kE : Kp Noone w0 (w0.alloc (.cells #[] 3)) := (Kp.refl _ _).alloc _
  have KE := Lib.hid kE
  have HROW := Lib.hid (HA.out.nums.keep (HK.out.trans kE)).row
  obtain ⟨z0, z1, z2, z3, z4, z5, z6, z7⟩ := cells_8f (kE.heap HR0.out id)
  clear z0 z2 z3 z4 z5 z6 z7 kE
  go_wp2_with (at_builtin; refine wpList_append_gen _ rfl (.tmp 5) (.tmp 7) 22 rfl 3 i0 (.int .i64 0) 1 8 Tryd.underlying22 hi hz0 hz1 hz2 rfl _ 0 0 rfl no ns.length nc rfl Noone [] (Own.nil _ _ _ _ _) (ns.map (Value.int .i64)) (by rw [List.length_map, Nat.mul_one]) HROW.out (ints_one _) (by omega) (by unfold maxLen; omega) ?_)
  intro ao1 cap1 w1 ho1 hk1
  have h1 := copy_nums (c := ⟨v, ns, ⟨k, r, t, a, b⟩, d⟩) (l := ⟨no, nc, bo, bc⟩) (ao1 := ao1) (cap1 := cap1) (B := g + 3) HGS.out rfl (HK.out.trans (KE.out.trans hk1)) (hk1.heap (KE.out.heap HR0.out id) id) (hk1.heap (KE.out.heap HR1.out id) id) (hk1.heap (KE.out.heap HR2.out id) id)
    (ho1.mono (fun x hx h => by
      have h2 := (Ex.none h).1
      have h3 : (w0.alloc (.cells #[] 3)).heap.size = w0.heap.size + 1 := by simp
      have h4 := HX3.out
      omega))
  have hb1 := hk1.heap (KE.out.heap HR2.out id) id
  obtain ⟨y0, y1, y2, y3, y4, y5, y6, y7⟩ := cells_8f hb1
  have f1 : w1.frozen? ⟨g + 2, 1, none⟩ = false := by simp [World.frozen?, hb1]
  have H1 := Lib.hid h1
  have HS2 : Hid (g + 3 ≤ (w1.setCell ⟨g + 2, 1, none⟩ (.slice ao1 ns.length cap1)).heap.size) := Lib.hid (by
    have h2 := hk1.size
    have h3 : (w0.alloc (.cells #[] 3)).heap.size = w0.heap.size + 1 := by simp
    have h4 := HX3.out
    have h5 : (w1.setCell ⟨g + 2, 1, none⟩ (.slice ao1 ns.length cap1)).heap.size = w1.heap.size := by simp [World.setCell]
    omega)
  clear y0 y2 y3 y4 y5 y6 y7 hb1 ho1 hk1 h1 HROW KE
  simp only [] at H1
  go_upto_region 3 with fail
  clear y1 f1 z1
  generalize w1.setCell ⟨g + 2, 1, none⟩ (.slice ao1 ns.length cap1) = w2 at *
  obtain ⟨hk2, hr0, hr1, hr2, hn2⟩ := H1.out
  have kE : Kp Noone w2 (w2.alloc (.cells #[] 5)) := (Kp.refl _ _).alloc _
  have KE := Lib.hid kE
  have HROW := Lib.hid (HA.out.data.keep (hk2.trans kE)).row
  obtain ⟨z0, z1, z2, z3, z4, z5, z6, z7⟩ := cells_8f (kE.heap hr0 id)
  simp only [] at z7
  clear z0 z1 z2 z3 z4 z5 z6 kE hk2 hr0 hr1 hr2 hn2
  go_wp2_with (at_builtin; refine wpList_append_gen _ rfl (.tmp 10) (.tmp 12) 25 rfl 5 j0 (.int .u8 0) 1 1 Tryd.underlying25 hj qz0 qz1 qz2 rfl _ 0 0 rfl bo d.length bc rfl Noone [] (Own.nil _ _ _ _ _) (bv d) (by rw [length_bv, Nat.mul_one]) HROW.out (bv_one _) (by omega) (by unfold maxLen; omega) ?_)
  intro ao3 cap3 w3 ho3 hk3
  obtain ⟨hk2, hr0, hr1, hr2, hn2⟩ := H1.out
  have hk23 := KE.out.trans hk3
  have h1 := copy_data (c := ⟨v, ns, ⟨k, r, t, a, b⟩, d⟩) (l := ⟨ao1, cap1, bo, bc⟩) (ao3 := ao3) (cap3 := cap3) (B := g + 3) HGS.out rfl (hk2.trans hk23) (hk23.heap hr1 id) (hk23.heap hr2 id) (hn2.keep hk23)
    (ho3.mono (fun x hx h => by
      have h2 := (Ex.none h).1
      have h3 : (w2.alloc (.cells #[] 5)).heap.size = w2.heap.size + 1 := by simp
      have h4 := HS2.out
      omega))
  have hb1 := hk23.heap hr2 id
  obtain ⟨y0, y1, y2, y3, y4, y5, y6, y7⟩ := cells_8f hb1
  have f7 : w3.frozen? ⟨g + 2, 7, none⟩ = false := by simp [World.frozen?, hb1]
  simp only [] at y7
  have H2 := Lib.hid h1
  clear y0 y1 y2 y3 y4 y5 y6 hb1 ho3 hk3 h1 HROW KE hk2 hr0 hr1 hr2 hn2 hk23
  simp only [] at H2
  go_upto_region 4 with fail
  clear y7 f7 z7
  generalize w3.setCell ⟨g + 2, 7, none⟩ (.slice ao3 d.length cap3) = w4 at *
  obtain ⟨hk4, hr1, hr2, hn4, hd4⟩ := H2.out
  obtain ⟨y0, y1, y2, y3, y4, y5, y6, y7⟩ := cells_8f hr2
  unfold strV at y0
  simp only [] at y0 y1 y2 y3 y4 y5 y6 y7
  have HR9 := Lib.hid hr1
  have HF := Lib.hid (copy_fin (l := ⟨ao1, cap1, ao3, cap3⟩) HGS.out rfl hk4 hn4 hd4 HA.out)
  clear hk4 hr1 hr2 hn4 hd4
  go_wp2_with (refine wpList_store_cmd rfl (.tmp 2) (.tmp 15) rfl (g + 1) ⟨v, ns, ⟨k, r, t, a, b⟩, d⟩ ⟨ao1, cap1, ao3, cap3⟩ (by rfl) (by rfl) HR9.out ?_)
  refine bodyPost_ret (results_cell_row (p := 2) (ty := 27) rfl _ _ (g + 1) 27 _ (0, 0) _ (by rfl) (putC_heap _ _ HR9.out) Tryd.underlying27 rfl (by kernel_rfl)) rfl ?_
  exact HF.out

end Go.Proofs.YtfinbppmkffbhaaDoor
