/-
  WALK of ScriptLines: every Line and Words; the command stays as it was.
-/
import Derived.Test.YtfinbppmkffbhaaDoorCopiedW
import Derived.Test.YtfinbppmkffbhaaDoorRefLine
namespace Go.Proofs.YtfinbppmkffbhaaDoor
open Go.RowKit Go.Sort

def cmdB (c : CmdV) (l : Loc) : Value := .agg #[.string ⟨c.verb.toArray⟩, .slice l.no c.nums.length l.nc, .int .i64 c.op.kind, .int .i64 c.op.reg, .int .i64 c.op.to, .int .i64 c.op.re, .int .i64 c.op.im, .slice l.bo c.data.length l.bc]
theorem cmdB_eq (c : CmdV) (l : Loc) : cmdV c l = cmdB c l := rfl
set_option maxHeartbeats 400000 in
set_option maxRecDepth 100000 in
theorem lines_walk (c : CmdV) (l : Loc) (w : World) (hA : CmdAt w c l) (hL : LaidS w) :
    Calls Tryd.prog 3 #[cmdV c l] w fun e w' => e = .returned (.bool true) ∧ Kp Noone w w' := by
  have HL := Lib.hid hL
  have HA := Lib.hid hA
  have hk0 : Kp Noone w (w.alloc (.cells (cmdCs c l) 27)) := (Kp.refl _ _).alloc _
  have HK0 := Lib.hid hk0
  have HB0 := Lib.hid (heap_alloc_new w (.cells (cmdCs c l) 27))
  have hcp := fun W hW => copied_any c l W hW
  have hrl := fun W hW => refLine_any c l W hW
  have HSM := Lib.hid (fun (la : Loc) W h1 h2 => same_ref c la l W h1 h2)
  have HLA := Lib.hid (fun (la : Loc) W hC hL => line_any c la W hC hL)
  have hrw := fun W => refWords_any c.op W
  have hwa := fun W hW => words_any c.op W hW
  obtain ⟨⟨sl, f0⟩, hlf⟩ : ∃ x, lineF c = x := ⟨_, rfl⟩
  have hlv : lineV c = .tuple #[.string ⟨sl.toArray⟩, .int .i64 f0] := by unfold lineV strV; rw [hlf]
  obtain ⟨⟨sx, f1⟩, hwf⟩ : ∃ x, wordsF c.op = x := ⟨_, rfl⟩
  have hwv : wordsV c.op = .tuple #[.string ⟨sx.toArray⟩, .int .i64 f1] := by unfold wordsV strV; rw [hwf]
  rw [hlv] at hrl HLA
  rw [hwv] at hrw hwa
  generalize (⟨sl.toArray⟩ : ByteArray) = bl at *
  generalize (⟨sx.toArray⟩ : ByteArray) = bx at *
  clear hL hA hk0 hlf hlv hwf hwv
  rw [cmdB_eq] at hcp hrl ⊢
  unfold cmdB at hcp hrl ⊢
  unfold opV at hrw hwa
  simp only [cmdCs, strV] at HB0 HK0
  go_enter Tryd.func3, Tryd.ntmps3
  go_upto_region 1 with fail
  generalize w.alloc (.cells #[.string ⟨c.verb.toArray⟩, .slice l.no c.nums.length l.nc, .int .i64 c.op.kind, .int .i64 c.op.reg, .int .i64 c.op.to, .int .i64 c.op.re, .int .i64 c.op.im, .slice l.bo c.data.length l.bc] 27) = w0 at *
  generalize hgs : w.heap.size = g at *
  have HGS := Lib.hid hgs
  clear hgs
  go_wp2_with fail
  refine (head_any _ (HL.out.keep HK0.out)).mono ?_
  rintro e w1 ⟨rfl, k1⟩
  have HK1 := Lib.hid (HK0.out.trans k1)
  have HB1 := Lib.hid (k1.heap HB0.out id)
  clear k1 HK0 HB0
  go_upto_region 3 with fail
  obtain ⟨z0, z1, z2, z3, z4, z5, z6, z7⟩ := cells_8f HB1.out
  go_wp2_with fail
  clear z0 z1 z2 z3 z4 z5 z6 z7
  refine (hcp _ (HA.out.keep HK1.out)).mono ?_
  clear hcp
  rintro e w2 ⟨k2, l2, rfl, hc2⟩
  have HK2 := Lib.hid (HK1.out.trans k2)
  have HB2 := Lib.hid (k2.heap HB1.out id)
  have HC2 := Lib.hid hc2
  clear k2 HB1 hc2
  have hkm : Kp Noone w2 (w2.alloc (.cells (cmdCs cmd0 loc0) 27)) := (Kp.refl _ _).alloc _
  have hbm := heap_alloc_new w2 (.cells (cmdCs cmd0 loc0) 27)
  have hb3 := hkm.heap HB2.out id
  have hgm : g < w2.heap.size := (Array.getElem?_eq_some_iff.1 HB2.out).1
  have HKM := Lib.hid (putC_kp hkm (Nat.le_refl _) c l2)
  have HBM := Lib.hid (putC_heap c l2 hbm)
  have HB3 := Lib.hid (putC_off hb3 (show w2.heap.size ≠ g by omega) c l2)
  have hla := fun W hW hL => HLA.out l2 W hW hL
  have hsm := fun W h1 h2 => HSM.out l2 W h1 h2
  rw [cmdB_eq] at hla hsm
  rw [cmdB_eq] at hsm
  have hbm2 := hbm
  unfold cmdCs cmd0 loc0 op0 strV at hbm2
  simp only [List.length_nil] at hbm2
  clear hkm hb3 hbm
  go_simp
  rename_i hkk
  refine hkk _ _ ?_
  clear hkk
  iterate 3 go_step
  refine wpList_store_cmd rfl (.tmp 3) (.tmp 15) rfl w2.heap.size c l2 (by rfl) (by rfl) hbm2 ?_
  have hkP : Kp Noone w2 (putC (w2.alloc (.cells (cmdCs cmd0 loc0) 27)) w2.heap.size c l2) := HKM.out
  have HK3 := Lib.hid (HK2.out.trans hkP)
  have HC3 := Lib.hid (HC2.out.keep hkP)
  unfold cmdCs cmd0 loc0 op0 strV at HBM HB3 HK3 HC3
  simp only [List.length_nil] at HBM HB3 HK3 HC3
  clear hbm2 hkP HKM HK2 HB2 HC2 HK1
  generalize putC _ _ _ _ = w3 at *
  generalize hgs : w2.heap.size = gm at *
  clear hgs
  obtain ⟨z0, z1, z2, z3, z4, z5, z6, z7⟩ := cells_8f HB3.out
  go_wp2_with fail
  clear z0 z1 z2 z3 z4 z5 z6 z7
  refine (hrl _ (HA.out.keep HK3.out)).mono ?_
  clear hrl
  rintro e w4 ⟨rfl, k4⟩
  have HK4 := Lib.hid (HK3.out.trans k4)
  have HC4 := Lib.hid (HC3.out.keep k4)
  have HB4 := Lib.hid (k4.heap HB3.out id)
  have HBM4 := Lib.hid (k4.heap HBM.out id)
  clear k4 HK3 HC3 HB3 HBM
  obtain ⟨z0, z1, z2, z3, z4, z5, z6, z7⟩ := cells_8f HBM4.out
  unfold cmdB at hla hsm
  go_wp2_with fail
  clear z0 z1 z2 z3 z4 z5 z6 z7
  refine (hla _ HC4.out (HL.out.keep HK4.out).laid).mono ?_
  clear hla
  rintro e w5 ⟨rfl, k5⟩
  have HK5 := Lib.hid (HK4.out.trans k5)
  have HC5 := Lib.hid (HC4.out.keep k5)
  have HB5 := Lib.hid (k5.heap HB4.out id)
  have HBM5 := Lib.hid (k5.heap HBM4.out id)
  clear k5 HK4 HC4 HB4 HBM4
  obtain ⟨z0, z1, z2, z3, z4, z5, z6, z7⟩ := cells_8f HB5.out
  go_wp2_with fail
  clear z0 z1 z2 z3 z4 z5 z6 z7
  refine (hrw _).mono ?_
  clear hrw
  rintro e w6 ⟨rfl, k6⟩
  have HK6 := Lib.hid (HK5.out.trans k6)
  have HC6 := Lib.hid (HC5.out.keep k6)
  have HB6 := Lib.hid (k6.heap HB5.out id)
  have HBM6 := Lib.hid (k6.heap HBM5.out id)
  clear k6 HK5 HC5 HB5 HBM5
  obtain ⟨z0, z1, z2, z3, z4, z5, z6, z7⟩ := cells_8f HB6.out
  go_wp2_with fail
  clear z0 z1 z2 z3 z4 z5 z6 z7
  refine (hwa _ (HL.out.keep HK6.out).laid).mono ?_
  clear hwa
  rintro e w7 ⟨rfl, k7⟩
  have HK7 := Lib.hid (HK6.out.trans k7)
  have HC7 := Lib.hid (HC6.out.keep k7)
  have HB7 := Lib.hid (k7.heap HB6.out id)
  have HBM7 := Lib.hid (k7.heap HBM6.out id)
  clear k7 HK6 HC6 HB6 HBM6
  obtain ⟨z0, z1, z2, z3, z4, z5, z6, z7⟩ := cells_8f HB7.out
  obtain ⟨y0, y1, y2, y3, y4, y5, y6, y7⟩ := cells_8f HBM7.out
  go_wp2_with fail
  refine (hsm _ HC7.out (HA.out.keep HK7.out)).mono ?_
  clear hsm
  rintro e w8 ⟨rfl, k8⟩
  have HK8 := Lib.hid (HK7.out.trans k8)
  clear k8 z0 z1 z2 z3 z4 z5 z6 z7 y0 y1 y2 y3 y4 y5 y6 y7
  go_wp2_with fail
  go_ret
  exact ⟨rfl, HK8.out⟩

end Go.Proofs.YtfinbppmkffbhaaDoor
