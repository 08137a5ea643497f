/-
  The texts AccParse in one: what the claim reaches of them.
-/
import Derived.Test.YtgbgbokcohfnpaaGreatP20
import Derived.Test.YtgbgbokcohfnpaaGreatP26
/-
  THE WALK of parse: a record read.
-/
namespace Go.Proofs.YtgbgbokcohfnpaaGreat
open Go.RowKit

def recCs (x : RecR) (m : VLoc) : List Value := [.int .i64 x.kind, .int .i64 x.epoch, .int .i64 x.slot, .int .i64 x.bal.round, .int .i64 x.bal.node, .int .i64 x.val.kind, .slice m.co x.val.cmds.length m.cc, .slice m.no x.val.next.length m.nc]
theorem info_rec9 : (Tryz.prog.info? 112).map (·.size) = some 8 := by kernel_rfl
theorem info_bal9 : (Tryz.prog.info? 24).map (·.size) = some 2 := by kernel_rfl
theorem info_val9 : (Tryz.prog.info? 34).map (·.size) = some 3 := by kernel_rfl
theorem rec_load (w : World) (g : Nat) (cs : List Value) (hg : w.heap[g]? = some (.cells cs.toArray 112 (0, 0))) (h8 : cs.length = 8) : (loadVar 112 ⟨g, 0, none⟩).run Tryz.prog w = .ok (.agg cs.toArray) w := by
  have h := run_loadVar_mid (P := Tryz.prog) w g 0 112 cs _ (fun j v hv => by
    rw [Nat.zero_add, cell_of_row w g j cs.toArray _ (0, 0) hg]
    simpa using hv) Tryz.underlying112 rfl (by rw [info_rec9, h8])
  simpa using h
theorem results_rec_tmp {fn : Func} {p u : Tmp} (h : fn.results = #[.cell p 112, .tmp u]) (tmps : Array Value) (w : World) (g : Nat) (cs : List Value)
    (hp : tmps.getD p undef = .pointer (some ⟨g, 0, none⟩)) (hg : w.heap[g]? = some (.cells cs.toArray 112 (0, 0))) (h8 : cs.length = 8) :
    (results fn tmps).run Tryz.prog w = .ok (.tuple #[.agg cs.toArray, tmps.getD u undef]) w := by
  have hp' : tmps[p]?.getD undef = .pointer (some ⟨g, 0, none⟩) := by simpa using hp
  simp [results, h, hp', asAddr, rec_load w g cs hg h8]
/-- What parse answers. -/
structure ParseTo (w : World) (l : List UInt8) (e : Ending) (w' : World) : Prop where
  ex : ∃ (x : RecR) (m : VLoc) (ok : Bool), e = .returned (.tuple #[recV x m, .bool ok]) ∧ (ok = true → parseRF l = some x ∧ ValOwn (Ex Noone w w') w' x.val m) ∧ (ok = false → parseRF l = none)
  kp : Kp Noone w w'
/-- Behind the fields of a record. -/
structure PaX (w : World) (g p gx : Nat) (x : RecR) (m : VLoc) (r : RS9) (wx : World) : Prop where
  kp : Kp (fun j => g ≤ j) w wx
  box : wx.heap[gx]? = some (.cells (recCs x m).toArray 112 (0, 0))
  res : wx.heap[g]? = some (.cells (recCs ⟨0, 0, 0, bal0, val0⟩ loc9).toArray 112 (0, 0))
  rd : Rd (fun j => g < j ∧ j < gx) wx p r.1 r.2
  val : ValOwn (fun j => gx < j) wx x.val m
/-- The store of a record, closed to the walk. -/
def stR (p v : Value) : Sem Unit := Instr.storeAt 112 p v
theorem stR_eq (p v : Value) : Instr.storeAt 112 p v = stR p v := rfl
theorem run_store_rec (g : Nat) (cs : Array Value) (h1 : cs.all (·.oneCell') = true) (h8 : cs.size = 8) {w : World} {c0 : Array Value} {T : TypeId} (hb : w.heap[g]? = some (.cells c0 T (0, 0))) (h0 : c0.size = 8) :
    (stR (.pointer (some ⟨g, 0, none⟩)) (.agg cs)).run Tryz.prog w = .ok () (putM w g cs) :=
  run_storeAt_mid (P := Tryz.prog) w g 0 112 cs (by have := there_all hb; rwa [h0, ← h8] at this) (by rw [h8]; exact info_rec9) h1
theorem readV_len (r : RS9) : (readV r).2.cmds.length ≤ 8 := by
  unfold readV readV0 readV1 readV2 readV3
  simp only []
  rw [length_takeCmds]
  exact rc_le _ 8
attribute [local irreducible] recCs
attribute [local go_sem ↓] stR_eq
set_option maxHeartbeats 20000000 in
set_option maxRecDepth 100000 in
theorem parse_any (ao : Option Addr) (n cap : Nat) (l : List UInt8) (w : World) (hb : BS w ao n cap l) (hn : n ≤ 140737488355328) :
    Calls Tryz.prog 62 #[.slice ao n cap] w fun e w' => ParseTo w l e w' := by
  obtain ⟨R, hR⟩ : ∃ R, Hid (parseRF l = R) := ⟨_, Lib.hid rfl⟩
  have HU : Hid (parseR1 (rcount l 0 3).2 (rcount (rcount l 0 3).1.1 (rcount l 0 3).1.2 1099511627776) = R) := Lib.hid hR.out
  have hg0 := heap_alloc_new w (.cells #[.int .i64 0, .int .i64 0, .int .i64 0, .int .i64 0, .int .i64 0, .int .i64 0, .slice none 0 0, .slice none 0 0] 112)
  have kA : Kp Noone w (w.alloc (.cells #[.int .i64 0, .int .i64 0, .int .i64 0, .int .i64 0, .int .i64 0, .int .i64 0, .slice none 0 0, .slice none 0 0] 112)) := (Kp.refl _ _).alloc _
  have hsz := alloc_size w (.cells #[.int .i64 0, .int .i64 0, .int .i64 0, .int .i64 0, .int .i64 0, .int .i64 0, .slice none 0 0, .slice none 0 0] 112)
  have hnr := newReader_any ao n cap l _ (hb.keep kA) hn
  clear hb
  go_enter Tryz.func62, Tryz.ntmps62
  go_upto_region 1 with fail
  generalize w.alloc (.cells #[.int .i64 0, .int .i64 0, .int .i64 0, .int .i64 0, .int .i64 0, .int .i64 0, .slice none 0 0, .slice none 0 0] 112) = wA at *
  generalize hg : w.heap.size = g at *
  have HG := Lib.hid (And.intro hg hsz)
  have HBZ := Lib.hid hg0
  have HKA := Lib.hid kA
  clear hg0 kA hsz hg
  go_wp2_with fail
  refine hnr.mono ?_
  clear hnr
  rintro e w1 ⟨p, rfl, hrd, k1, hp⟩
  have HP := Lib.hid hp
  have HK1 := Lib.hid k1
  have HR1 := Lib.hid (hrd.lt9.mono (H := fun j => g < j ∧ j < w1.heap.size) (fun j d => by have := d.1.none; have := HG.out; omega))
  clear hrd k1 hp
  have hc := readerCount_any p l 0 3 w1 HR1.out (by decide) (by decide)
  generalize rcount l 0 3 = x1 at *
  go_wp2_with fail
  refine hc.mono ?_
  rintro e w2 ⟨rfl, h1, k1⟩
  have HK2 := Lib.hid k1
  clear hc k1
  have hc := readerCount_any p x1.1.1 x1.1.2 1099511627776 w2 h1 (by decide) (by decide)
  have HU1 : Hid (parseR2 x1.2 (rcount x1.1.1 x1.1.2 1099511627776).2 (rcount (rcount x1.1.1 x1.1.2 1099511627776).1.1 (rcount x1.1.1 x1.1.2 1099511627776).1.2 1099511627776) = R) := Lib.hid HU.out
  clear HU
  generalize rcount x1.1.1 x1.1.2 1099511627776 = x2 at *
  clear h1
  go_wp2_with fail
  refine hc.mono ?_
  rintro e w3 ⟨rfl, h1, k1⟩
  have HK3 := Lib.hid (HK2.out.trans k1)
  clear hc k1
  have hc := readerCount_any p x2.1.1 x2.1.2 1099511627776 w3 h1 (by decide) (by decide)
  have HU2 : Hid (parseR3 x1.2 x2.2 (rcount x2.1.1 x2.1.2 1099511627776).2 (rcount (rcount x2.1.1 x2.1.2 1099511627776).1.1 (rcount x2.1.1 x2.1.2 1099511627776).1.2 1099511627776) = R) := Lib.hid HU1.out
  clear HU1
  generalize rcount x2.1.1 x2.1.2 1099511627776 = x3 at *
  clear h1
  go_wp2_with fail
  refine hc.mono ?_
  rintro e w4 ⟨rfl, h1, k1⟩
  have HK4 := Lib.hid (HK3.out.trans k1)
  have HR4 := Lib.hid h1
  clear hc k1 h1
  have hb0 := heap_alloc_new w4 (.cells #[.int .i64 0, .int .i64 0, .int .i64 0, .int .i64 0, .int .i64 0, .int .i64 0, .slice none 0 0, .slice none 0 0] 112)
  have hst : (stR (.pointer (some ⟨w4.heap.size, 0, none⟩)) (.agg #[.int .i64 (x1.2 : Int), .int .i64 (x2.2 : Int), .int .i64 (x3.2 : Int), .int .i64 0, .int .i64 0, .int .i64 0, .slice none 0 0, .slice none 0 0])).run Tryz.prog (w4.alloc (.cells #[.int .i64 0, .int .i64 0, .int .i64 0, .int .i64 0, .int .i64 0, .int .i64 0, .slice none 0 0, .slice none 0 0] 112)) = .ok () (putM (w4.alloc (.cells #[.int .i64 0, .int .i64 0, .int .i64 0, .int .i64 0, .int .i64 0, .int .i64 0, .slice none 0 0, .slice none 0 0] 112)) w4.heap.size #[.int .i64 (x1.2 : Int), .int .i64 (x2.2 : Int), .int .i64 (x3.2 : Int), .int .i64 0, .int .i64 0, .int .i64 0, .slice none 0 0, .slice none 0 0]) := run_store_rec _ _ (by simp [Value.oneCell']) rfl hb0 rfl
  have hbx := putM_heap (cs := #[.int .i64 (x1.2 : Int), .int .i64 (x2.2 : Int), .int .i64 (x3.2 : Int), .int .i64 0, .int .i64 0, .int .i64 0, .slice none 0 0, .slice none 0 0]) hb0 rfl
  have kB : Kp Noone w4 (putM (w4.alloc (.cells #[.int .i64 0, .int .i64 0, .int .i64 0, .int .i64 0, .int .i64 0, .int .i64 0, .slice none 0 0, .slice none 0 0] 112)) w4.heap.size #[.int .i64 (x1.2 : Int), .int .i64 (x2.2 : Int), .int .i64 (x3.2 : Int), .int .i64 0, .int .i64 0, .int .i64 0, .slice none 0 0, .slice none 0 0]) := ((Kp.refl Noone w4).alloc (.cells #[.int .i64 0, .int .i64 0, .int .i64 0, .int .i64 0, .int .i64 0, .int .i64 0, .slice none 0 0, .slice none 0 0] 112)).fin (putM_kp _) (fun j d => Or.inr (by omega))
  clear hb0
  go_upto_region 3 with fail
  clear hst
  have h1 := HR4.out.keep kB
  generalize putM (w4.alloc (.cells #[.int .i64 0, .int .i64 0, .int .i64 0, .int .i64 0, .int .i64 0, .int .i64 0, .slice none 0 0, .slice none 0 0] 112)) w4.heap.size #[.int .i64 (x1.2 : Int), .int .i64 (x2.2 : Int), .int .i64 (x3.2 : Int), .int .i64 0, .int .i64 0, .int .i64 0, .slice none 0 0, .slice none 0 0] = wB at *
  have HGX : Hid (w1.heap.size ≤ w4.heap.size) := Lib.hid HK4.out.size
  generalize hgx : w4.heap.size = gx at *
  have HBX := Lib.hid hbx
  have HKB := Lib.hid kB
  have HPL : Hid (g < p ∧ p < gx ∧ g < gx) := Lib.hid (by
    have := HP.out
    have := HG.out
    have := HR1.out.cells.2.2
    have := HGX.out
    omega)
  clear hbx kB hgx
  have hc := readerCount_any p x3.1.1 x3.1.2 1099511627776 wB h1 (by decide) (by decide)
  have HU3 : Hid (parseR4 x1.2 x2.2 x3.2 (rcount x3.1.1 x3.1.2 1099511627776).2 (rcount (rcount x3.1.1 x3.1.2 1099511627776).1.1 (rcount x3.1.1 x3.1.2 1099511627776).1.2 9) = R) := Lib.hid HU2.out
  clear HU2
  generalize rcount x3.1.1 x3.1.2 1099511627776 = x4 at *
  clear h1
  go_wp2_with fail
  refine hc.mono ?_
  rintro e w5 ⟨rfl, h1, k1⟩
  have HK5 := Lib.hid k1
  clear hc k1
  have hc := readerCount_any p x4.1.1 x4.1.2 9 w5 h1 (by decide) (by decide)
  generalize rcount x4.1.1 x4.1.2 9 = x5 at *
  clear h1
  go_wp2_with fail
  refine hc.mono ?_
  rintro e w6 ⟨rfl, h1, k1⟩
  have HK6 := Lib.hid (HK5.out.trans k1)
  have HR6 := Lib.hid h1
  clear hc k1 h1
  have HBX6 := Lib.hid (HK6.out.heap HBX.out (fun d => by have := HPL.out; omega))
  have hst := setCells_row 3 [.int .i64 (x4.2 : Int), .int .i64 (x5.2 : Int)] HBX6.out (by simp)
  simp only [List.take_succ_cons, List.take_zero, List.length_cons, List.length_nil, List.drop_succ_cons, List.drop_zero, List.cons_append, List.nil_append] at hst
  have HST := Lib.hid hst
  clear hst
  go_upto_region 4 with (refine wpList_store_row rfl 24 (.tmp 20) (.tmp 19) rfl gx 3 [.int .i64 (x4.2 : Int), .int .i64 (x5.2 : Int)] rfl rfl (ints_one8 [(x4.2 : Int), (x5.2 : Int)]) HBX6.out (by simp) info_bal9 ?_)
  generalize w6.setCells gx 3 [.int .i64 (x4.2 : Int), .int .i64 (x5.2 : Int)] = w7 at *
  have K7 : Kp (fun j => g ≤ j) w w7 := ((HKA.out.none.trans HK1.out.none).trans ((HK4.out.mono (T := fun j => g ≤ j) (fun _ _ d => by have := HPL.out; omega)).trans (HKB.out.none.trans (HK6.out.mono (T := fun j => g ≤ j) (fun _ _ d => by have := HPL.out; omega))))).trans (HST.out.2.mono (fun _ _ d => by have := HPL.out; omega))
  have HK7 := Lib.hid K7
  have HZ7 := Lib.hid (HST.out.2.heap (HK6.out.heap (HKB.out.heap (HK4.out.heap (HK1.out.heap HBZ.out id) (fun d => by have := HPL.out; omega)) id) (fun d => by have := HPL.out; omega)) (fun d => by have := HPL.out; omega))
  have HR7 := Lib.hid ((HR6.out.kp HST.out.2 (fun j d e => by have := HGX.out; omega)).mono (H := fun j => g < j ∧ j < gx) (fun j d => by have := HGX.out; omega))
  clear K7
  have hb7 := HST.out.1
  obtain ⟨⟨z0, z1, z2, z3⟩, z4, z5, z6, z7⟩ := cells_8v hb7
  obtain ⟨⟨la, ba⟩, kn⟩ := x1
  obtain ⟨⟨lb, bb⟩, en⟩ := x2
  obtain ⟨⟨lc, bc⟩, sn⟩ := x3
  obtain ⟨⟨ld, bd⟩, rn⟩ := x4
  obtain ⟨⟨le, be⟩, nn⟩ := x5
  simp only [] at HR7 hb7 z0 z1 z2 z3 z4 z5 z6 z7 HU3
  clear HST HBX6 HBX HR6 HK6 HK5 HR4 HK4 HK3 HK2 z1 z2 z3 z4 z5 z6 z7
  go_upto_if 23 with fail
  go_cut [] from 6 (fun wx => ∃ (x : RecR) (m : VLoc) (r : RS9), Hid (PaX w g p gx x m r wx) ∧ Hid (parseR5 x r = R) ∧ Hid (x.val.cmds.length ≤ 8))
  case first =>
    by_cases hk2 : kn = 2
    · subst hk2
      have HU4 : Hid (parseR5 ⟨2, en, sn, ⟨rn, nn⟩, (readV (le, be)).2⟩ (readV (le, be)).1 = R) := Lib.hid (by
        have h := HU3.out
        unfold parseR4 at h
        rw [if_pos rfl] at h
        exact h)
      have hrv := readVal_any p (le, be) w7 HR7.out
      have HL8 := Lib.hid (readV_len (le, be))
      generalize readV (le, be) = V at *
      obtain ⟨⟨l9, b9⟩, v⟩ := V
      simp only [] at hrv HU4 HL8
      unfold valV at hrv
      go_wp2_with fail
      refine hrv.mono ?_
      clear hrv
      rintro e w8 ⟨⟨m, rfl, hov⟩, htk⟩
      have HB8 := Lib.hid (htk.kp.heap hb7 (fun d => by have := HPL.out; omega))
      have hst := setCells_row 5 [.int .i64 v.kind, .slice m.co v.cmds.length m.cc, .slice m.no v.next.length m.nc] HB8.out (by simp)
      simp only [List.take_succ_cons, List.take_zero, List.length_cons, List.length_nil, List.drop_succ_cons, List.drop_nil, List.cons_append, List.nil_append, List.append_nil] at hst
      have HX9 : Hid (PaX w g p gx ⟨2, en, sn, ⟨rn, nn⟩, v⟩ m (l9, b9) (w8.setCells gx 5 [.int .i64 v.kind, .slice m.co v.cmds.length m.cc, .slice m.no v.next.length m.nc])) := Lib.hid ⟨(HK7.out.trans (htk.kp.mono (fun _ _ d => by have := HPL.out; omega))).trans (hst.2.mono (fun _ _ d => by have := HPL.out; omega)), by unfold recCs; exact hst.1, by unfold recCs; exact hst.2.heap (htk.kp.heap HZ7.out (fun d => by have := HPL.out; omega)) (fun d => by have := HPL.out; omega), htk.rd.kp hst.2 (fun j d e => by omega), (hov.kp hst.2 (fun j d e => by have := d.none; have := (Array.getElem?_eq_some_iff.1 hb7).1; omega)).mono (fun j hj d => by have := d.none; have := (Array.getElem?_eq_some_iff.1 hb7).1; omega)⟩
      clear hov htk hst hb7 z0
      go_wp2_with (refine wpList_store_row rfl 34 (.tmp 26) (.tmp 25) rfl gx 5 [.int .i64 v.kind, .slice m.co v.cmds.length m.cc, .slice m.no v.next.length m.nc] rfl rfl (by intro u hu; simp at hu; rcases hu with h | h | h <;> subst h <;> rfl) HB8.out (by simp) info_val9 ?_)
      go_meet
      case rel => exact ⟨_, m, (l9, b9), HX9, HU4, HL8⟩
    · have hq : ((kn : Int) == 2) = false := by rw [beq_eq_false_iff_ne]; omega
      have HX9 : Hid (PaX w g p gx ⟨(kn : Int), en, sn, ⟨rn, nn⟩, val0⟩ loc9 (le, be) w7) := Lib.hid ⟨HK7.out, by unfold recCs; exact hb7, by unfold recCs; exact HZ7.out, HR7.out, ValOwn.zero _ _⟩
      have HU5 : Hid (parseR5 ⟨(kn : Int), en, sn, ⟨rn, nn⟩, val0⟩ (le, be) = R) := Lib.hid (by
        rw [← HU3.out]
        unfold parseR4
        rw [if_neg hk2])
      clear hk2 hb7
      go_wp2_with fail
      go_meet
      case rel => exact ⟨_, loc9, (le, be), HX9, HU5, Lib.hid (show val0.cmds.length ≤ 8 by decide)⟩
  case rest =>
    obtain ⟨⟨kI, eI, sI, ⟨rI, nI⟩, v⟩, m, ⟨l9, b9⟩, HX9, HU5, HL8⟩ := id hcut
    clear hcut hb7 z0 HU3 HK7 HZ7 HR7
    simp only [] at HL8
    obtain ⟨w9, hw9⟩ : ∃ x, x = wc := ⟨_, rfl⟩
    subst hw9
    have HZ1 : Hid (∀ u ∈ ([.int .i64 0, .int .i64 0, .int .i64 0, .int .i64 0, .int .i64 0, .int .i64 0, .slice none 0 0, .slice none 0 0] : List Value), u.oneCell' = true) := Lib.hid (by intro u hu; simp at hu; rcases hu with h | h <;> subst h <;> rfl)
    have HZ9 : Hid (w9.heap[g]? = some (.cells #[.int .i64 0, .int .i64 0, .int .i64 0, .int .i64 0, .int .i64 0, .int .i64 0, .slice none 0 0, .slice none 0 0] 112 (0, 0))) := Lib.hid (by have h := HX9.out.res; unfold recCs at h; exact h)
    have HZW : Hid (∀ W, Kp (fun j => j = p) w9 W → W.heap[g]? = some (.cells #[.int .i64 0, .int .i64 0, .int .i64 0, .int .i64 0, .int .i64 0, .int .i64 0, .slice none 0 0, .slice none 0 0] 112 (0, 0))) := Lib.hid (fun W kk => kk.heap HZ9.out (fun d => by have := HPL.out; omega))
    have HFAIL : Hid (∀ W, Kp (fun j => j = p ∨ j = g) w9 W → R = none → ParseTo w l (.returned (.tuple #[.agg #[.int .i64 0, .int .i64 0, .int .i64 0, .int .i64 0, .int .i64 0, .int .i64 0, .slice none 0 0, .slice none 0 0], .bool false])) W) := Lib.hid (fun W kk hn => ⟨⟨⟨0, 0, 0, bal0, val0⟩, loc9, false, rfl, (fun e => by cases e), fun _ => hR.out.trans hn⟩, by
      have := HX9.out.kp.trans (kk.mono (T := fun j => g ≤ j) (fun j _ d => by have := HPL.out; omega))
      exact this.mono (fun j hj d => by have := HG.out; omega)⟩)
    have hdn := readerDone_any p l9 b9 w9 HX9.out.rd
    obtain ⟨D, hD⟩ : ∃ D, Hid (rdone l9 b9 = D) := ⟨_, Lib.hid rfl⟩
    rw [hD.out] at hdn
    go_wp2_with fail
    refine hdn.mono ?_
    clear hdn
    rintro e w10 ⟨rfl, hrd, k10⟩
    have HKQ := Lib.hid k10
    have hb10 := k10.heap HX9.out.box (fun d => by have := HPL.out; omega)
    have hv10 := HX9.out.val.kp k10 (fun j d e => by have := HPL.out; omega)
    have HB10 := Lib.hid hb10
    have HV10 := Lib.hid hv10
    unfold recCs at hb10
    obtain ⟨⟨z0, z1, z2, z3⟩, z4, z5, z6, z7⟩ := cells_8v hb10
    clear hrd k10 hb10 hv10
    by_cases hD0 : D = 0
    case neg =>
      have hq : ((D : Int) != 0) = true := by simp only [bne_iff_ne, ne_eq]; omega
      have HRN : Hid (R = none) := Lib.hid (by rw [← HU5.out]; unfold parseR5; rw [if_pos (Or.inl (by rw [show rdone l9 b9 = D from hD.out]; exact hD0))])
      have HZQ := Lib.hid (HZW.out w10 HKQ.out)
      have HZS := Lib.hid (setCells_row 0 [.int .i64 0, .int .i64 0, .int .i64 0, .int .i64 0, .int .i64 0, .int .i64 0, .slice none 0 0, .slice none 0 0] HZQ.out (by simp))
      go_wp2_with (refine wpList_store_row rfl 112 (.tmp 2) (.tmp 41) rfl g 0 [.int .i64 0, .int .i64 0, .int .i64 0, .int .i64 0, .int .i64 0, .int .i64 0, .slice none 0 0, .slice none 0 0] rfl rfl HZ1.out HZQ.out (by simp) info_rec9 ?_)
      refine bodyPost_ret (v := .tuple #[.agg #[.int .i64 0, .int .i64 0, .int .i64 0, .int .i64 0, .int .i64 0, .int .i64 0, .slice none 0 0, .slice none 0 0], .bool false]) (by rw [results_rec_tmp rfl _ _ g [.int .i64 0, .int .i64 0, .int .i64 0, .int .i64 0, .int .i64 0, .int .i64 0, .slice none 0 0, .slice none 0 0] rfl HZS.out.1 rfl]; rfl) rfl ?_
      exact HFAIL.out _ ((HKQ.out.mono (T := fun j => j = p ∨ j = g) (fun _ _ d => Or.inl d)).trans (HZS.out.2.mono (fun _ _ d => Or.inr d))) HRN.out
    subst hD0
    by_cases hk0 : kI = 0
    case pos =>
      have HK0 := Lib.hid hk0
      have hq0 : (kI == 0) = true := by rw [beq_iff_eq]; exact hk0
      clear hk0
      have HRN : Hid (R = none) := Lib.hid (by rw [← HU5.out]; unfold parseR5; rw [if_pos (Or.inr (Or.inl HK0.out))])
      have HZQ := Lib.hid (HZW.out w10 HKQ.out)
      have HZS := Lib.hid (setCells_row 0 [.int .i64 0, .int .i64 0, .int .i64 0, .int .i64 0, .int .i64 0, .int .i64 0, .slice none 0 0, .slice none 0 0] HZQ.out (by simp))
      go_wp2_with (refine wpList_store_row rfl 112 (.tmp 2) (.tmp 41) rfl g 0 [.int .i64 0, .int .i64 0, .int .i64 0, .int .i64 0, .int .i64 0, .int .i64 0, .slice none 0 0, .slice none 0 0] rfl rfl HZ1.out HZQ.out (by simp) info_rec9 ?_)
      refine bodyPost_ret (v := .tuple #[.agg #[.int .i64 0, .int .i64 0, .int .i64 0, .int .i64 0, .int .i64 0, .int .i64 0, .slice none 0 0, .slice none 0 0], .bool false]) (by rw [results_rec_tmp rfl _ _ g [.int .i64 0, .int .i64 0, .int .i64 0, .int .i64 0, .int .i64 0, .int .i64 0, .slice none 0 0, .slice none 0 0] rfl HZS.out.1 rfl]; rfl) rfl ?_
      exact HFAIL.out _ ((HKQ.out.mono (T := fun j => j = p ∨ j = g) (fun _ _ d => Or.inl d)).trans (HZS.out.2.mono (fun _ _ d => Or.inr d))) HRN.out
    have hq0 : (kI == 0) = false := by rw [beq_eq_false_iff_ne]; omega
    have hck := check_val v m w10 HV10.out.at (by have := HL8.out; omega)
    unfold valV at hck
    obtain ⟨F, hF⟩ : ∃ F, Hid (valF v = F) := ⟨_, Lib.hid rfl⟩
    rw [hF.out] at hck
    go_wp2_with fail
    refine hck.mono ?_
    clear hck
    rintro e wq ⟨rfl, kq⟩
    have HKQ := Lib.hid (HKQ.out.trans (kq.none (S := fun j => j = p)))
    have HBQ := Lib.hid (kq.heap HB10.out id)
    have HVQ := Lib.hid (HV10.out.keep kq)
    clear z0 z1 z2 z3 z4 z5 z6 z7 kq
    have hbq := HBQ.out
    unfold recCs at hbq
    obtain ⟨⟨z0, z1, z2, z3⟩, z4, z5, z6, z7⟩ := cells_8v hbq
    clear hbq z1 z2 z3 z4 z5 z6 z7
    by_cases hF0 : F = 0
    case neg =>
      have hq : (F != 0) = true := by simp only [bne_iff_ne, ne_eq]; exact hF0
      have HRN : Hid (R = none) := Lib.hid (by rw [← HU5.out]; unfold parseR5; rw [if_pos (Or.inr (Or.inr (by show valF v ≠ 0; rw [hF.out]; exact hF0)))])
      have HZQ := Lib.hid (HZW.out wq HKQ.out)
      have HZS := Lib.hid (setCells_row 0 [.int .i64 0, .int .i64 0, .int .i64 0, .int .i64 0, .int .i64 0, .int .i64 0, .slice none 0 0, .slice none 0 0] HZQ.out (by simp))
      go_wp2_with (refine wpList_store_row rfl 112 (.tmp 2) (.tmp 41) rfl g 0 [.int .i64 0, .int .i64 0, .int .i64 0, .int .i64 0, .int .i64 0, .int .i64 0, .slice none 0 0, .slice none 0 0] rfl rfl HZ1.out HZQ.out (by simp) info_rec9 ?_)
      refine bodyPost_ret (v := .tuple #[.agg #[.int .i64 0, .int .i64 0, .int .i64 0, .int .i64 0, .int .i64 0, .int .i64 0, .slice none 0 0, .slice none 0 0], .bool false]) (by rw [results_rec_tmp rfl _ _ g [.int .i64 0, .int .i64 0, .int .i64 0, .int .i64 0, .int .i64 0, .int .i64 0, .slice none 0 0, .slice none 0 0] rfl HZS.out.1 rfl]; rfl) rfl ?_
      exact HFAIL.out _ ((HKQ.out.mono (T := fun j => j = p ∨ j = g) (fun _ _ d => Or.inl d)).trans (HZS.out.2.mono (fun _ _ d => Or.inr d))) HRN.out
    subst hF0
    have HUX : Hid (R = if okRec ⟨kI, eI, sI, ⟨rI, nI⟩, v⟩ = true then some ⟨kI, eI, sI, ⟨rI, nI⟩, v⟩ else none) := Lib.hid (by
      rw [← HU5.out]
      unfold parseR5
      rw [if_neg (by rintro (c | c | c); exact c hD.out; exact hk0 c; exact c hF.out)])
    have HFIN : Hid (∀ W (B : Bool), Kp (fun j => j = g) wq W → okRec ⟨kI, eI, sI, ⟨rI, nI⟩, v⟩ = B → ParseTo w l (.returned (.tuple #[.agg #[.int .i64 kI, .int .i64 eI, .int .i64 sI, .int .i64 rI, .int .i64 nI, .int .i64 v.kind, .slice m.co v.cmds.length m.cc, .slice m.no v.next.length m.nc], .bool B])) W) := Lib.hid (fun W B kk hB => by
      have kw := (HKQ.out.mono (T := fun j => j = p ∨ j = g) (fun _ _ d => Or.inl d)).trans (kk.mono (T := fun j => j = p ∨ j = g) (fun _ _ d => Or.inr d))
      have kf := HX9.out.kp.trans (kw.mono (T := fun j => g ≤ j) (fun j _ d => by have := HPL.out; omega))
      refine ⟨⟨⟨kI, eI, sI, ⟨rI, nI⟩, v⟩, m, B, rfl, fun e => ⟨?_, ?_⟩, fun e => ?_⟩, kf.mono (fun j hj d => by have := HG.out; omega)⟩
      · rw [hR.out, HUX.out, hB, e, if_pos rfl]
      · exact (HVQ.out.kp kk (fun j d e => by have := HPL.out; omega)).mono (fun j hj d => by have := HPL.out; have := HG.out; exact Or.inr ⟨by omega, hj⟩)
      · rw [hR.out, HUX.out, hB, e, if_neg (by decide)])
    have HSQ : Hid (∀ W, Kp (fun j => j = g) wq W → (W.cell? ⟨gx, 0, none⟩ = some (.int .i64 kI) ∧ W.cell? ⟨gx, 1, none⟩ = some (.int .i64 eI) ∧ W.cell? ⟨gx, 2, none⟩ = some (.int .i64 sI) ∧ W.cell? ⟨gx, 3, none⟩ = some (.int .i64 rI)) ∧ W.cell? ⟨gx, 4, none⟩ = some (.int .i64 nI) ∧ W.cell? ⟨gx, 5, none⟩ = some (.int .i64 v.kind) ∧ W.cell? ⟨gx, 6, none⟩ = some (.slice m.co v.cmds.length m.cc) ∧ W.cell? ⟨gx, 7, none⟩ = some (.slice m.no v.next.length m.nc)) := Lib.hid (fun W kk => by
      have h := kk.heap HBQ.out (fun d => by have := HPL.out; omega)
      unfold recCs at h
      exact cells_8v h)
    have hva := fun W => valid_any rI nI W
    obtain ⟨B9, hB9⟩ : ∃ B, Hid (validB ⟨rI, nI⟩ = B) := ⟨_, Lib.hid rfl⟩
    rw [hB9.out] at hva
    clear HUX hq0 hk0
    by_cases hk1 : kI = 1
    · have HK := Lib.hid hk1
      have hqk : (kI == 1) = true := by rw [beq_iff_eq]; omega
      clear hk1
      by_cases hs0 : sI = 0
      · have HS0 := Lib.hid hs0
        have hqs : (sI == 0) = true := by rw [beq_iff_eq]; omega
        clear hs0
        have kd : Kp Noone wq wq.drew := (Kp.refl _ _).drew
        have hS1 := HSQ.out _ kd.none
        go_upto_region 10 with fail
        clear z0
        obtain ⟨⟨z0, z1, z2, z3⟩, z4, z5, z6, z7⟩ := HSQ.out _ kd.none
        go_region_held3 (fun W => (W.cell? ⟨gx, 0, none⟩ = some (.int .i64 kI) ∧ W.cell? ⟨gx, 1, none⟩ = some (.int .i64 eI) ∧ W.cell? ⟨gx, 2, none⟩ = some (.int .i64 sI) ∧ W.cell? ⟨gx, 3, none⟩ = some (.int .i64 rI)) ∧ W.cell? ⟨gx, 4, none⟩ = some (.int .i64 nI) ∧ W.cell? ⟨gx, 5, none⟩ = some (.int .i64 v.kind) ∧ W.cell? ⟨gx, 6, none⟩ = some (.slice m.co v.cmds.length m.cc) ∧ W.cell? ⟨gx, 7, none⟩ = some (.slice m.no v.next.length m.nc))
          (first | with_reducible exact hS1 | with_reducible exact hS3 | with_reducible exact hS2)
          (first | (go_at_call 40; refine (hva _).mono ?_; rintro e wv ⟨rfl, kv⟩; have kk := kd.trans kv; have hS3 := HSQ.out _ (kk.none (S := fun j => j = g)); have hzv := HZW.out wv ((HKQ.out.trans kk.none)); have hst : (stR (.pointer (some ⟨g, 0, none⟩)) (.agg #[.int .i64 kI, .int .i64 eI, .int .i64 sI, .int .i64 rI, .int .i64 nI, .int .i64 v.kind, .slice m.co v.cmds.length m.cc, .slice m.no v.next.length m.nc])).run Tryz.prog wv = .ok () (putM wv g #[.int .i64 kI, .int .i64 eI, .int .i64 sI, .int .i64 rI, .int .i64 nI, .int .i64 v.kind, .slice m.co v.cmds.length m.cc, .slice m.no v.next.length m.nc]) := run_store_rec g _ (by simp [Value.oneCell']) rfl hzv rfl; have HKM : Hid (Kp (fun j => j = g) wq (putM wv g #[.int .i64 kI, .int .i64 eI, .int .i64 sI, .int .i64 rI, .int .i64 nI, .int .i64 v.kind, .slice m.co v.cmds.length m.cc, .slice m.no v.next.length m.nc])) := Lib.hid ((kk.none (S := fun j => j = g)).trans (putM_kp _)); have HGZ := Lib.hid (putM_heap (cs := #[.int .i64 kI, .int .i64 eI, .int .i64 sI, .int .i64 rI, .int .i64 nI, .int .i64 v.kind, .slice m.co v.cmds.length m.cc, .slice m.no v.next.length m.nc]) hzv rfl); have hS2 := HSQ.out _ HKM.out))
        generalize putM wv g #[.int .i64 kI, .int .i64 eI, .int .i64 sI, .int .i64 rI, .int .i64 nI, .int .i64 v.kind, .slice m.co v.cmds.length m.cc, .slice m.no v.next.length m.nc] = wz at *
        clear hst hzv kk hS3 hS2 kv hS1 kd z0 z1 z2 z3 z4 z5 z6 z7
        have HFN := Lib.hid (HFIN.out wz B9 HKM.out (by unfold okRec; rw [if_pos (show kI = 1 by have := HK.out; omega)]; rw [hB9.out, decide_eq_true (show sI = 0 by have := HS0.out; omega)]; rfl))
        go_wp2_with fail
        refine bodyPost_ret (v := .tuple #[.agg #[.int .i64 kI, .int .i64 eI, .int .i64 sI, .int .i64 rI, .int .i64 nI, .int .i64 v.kind, .slice m.co v.cmds.length m.cc, .slice m.no v.next.length m.nc], .bool B9]) (by rw [results_rec_tmp rfl _ _ g #[.int .i64 kI, .int .i64 eI, .int .i64 sI, .int .i64 rI, .int .i64 nI, .int .i64 v.kind, .slice m.co v.cmds.length m.cc, .slice m.no v.next.length m.nc].toList rfl HGZ.out rfl]; rfl) rfl ?_
        exact HFN.out
      · have HS0 := Lib.hid hs0
        have hqs : (sI == 0) = false := by rw [beq_eq_false_iff_ne]; omega
        clear hs0
        have kd : Kp Noone wq wq.drew := (Kp.refl _ _).drew
        have hS1 := HSQ.out _ kd.none
        go_upto_region 10 with fail
        clear z0
        obtain ⟨⟨z0, z1, z2, z3⟩, z4, z5, z6, z7⟩ := HSQ.out _ kd.none
        have hzv := HZW.out wq.drew (HKQ.out.trans kd.none)
        have hst : (stR (.pointer (some ⟨g, 0, none⟩)) (.agg #[.int .i64 kI, .int .i64 eI, .int .i64 sI, .int .i64 rI, .int .i64 nI, .int .i64 v.kind, .slice m.co v.cmds.length m.cc, .slice m.no v.next.length m.nc])).run Tryz.prog wq.drew = .ok () (putM wq.drew g #[.int .i64 kI, .int .i64 eI, .int .i64 sI, .int .i64 rI, .int .i64 nI, .int .i64 v.kind, .slice m.co v.cmds.length m.cc, .slice m.no v.next.length m.nc]) := run_store_rec g _ (by simp [Value.oneCell']) rfl hzv rfl
        have HKM : Hid (Kp (fun j => j = g) wq (putM wq.drew g #[.int .i64 kI, .int .i64 eI, .int .i64 sI, .int .i64 rI, .int .i64 nI, .int .i64 v.kind, .slice m.co v.cmds.length m.cc, .slice m.no v.next.length m.nc])) := Lib.hid ((kd.none (S := fun j => j = g)).trans (putM_kp _))
        have HGZ := Lib.hid (putM_heap (cs := #[.int .i64 kI, .int .i64 eI, .int .i64 sI, .int .i64 rI, .int .i64 nI, .int .i64 v.kind, .slice m.co v.cmds.length m.cc, .slice m.no v.next.length m.nc]) hzv rfl)
        apply wp_region_0 (G := fun wz => wz = putM wq.drew g #[.int .i64 kI, .int .i64 eI, .int .i64 sI, .int .i64 rI, .int .i64 nI, .int .i64 v.kind, .slice m.co v.cmds.length m.cc, .slice m.no v.next.length m.nc])
        case h =>
          first | (go_region_law (fail)) | fail
          all_goals exact NoPanic.normal ⟨rfl, rfl, rfl⟩
        case k =>
          rintro wz rfl
          generalize putM wq.drew g #[.int .i64 kI, .int .i64 eI, .int .i64 sI, .int .i64 rI, .int .i64 nI, .int .i64 v.kind, .slice m.co v.cmds.length m.cc, .slice m.no v.next.length m.nc] = wz at *
          clear hst hzv hS1 kd z0 z1 z2 z3 z4 z5 z6 z7
          have HFN := Lib.hid (HFIN.out wz false HKM.out (by unfold okRec; rw [if_pos (show kI = 1 by have := HK.out; omega)]; rw [decide_eq_false (show ¬ sI = 0 by have := HS0.out; omega)]; rfl))
          go_wp2_with fail
          refine bodyPost_ret (v := .tuple #[.agg #[.int .i64 kI, .int .i64 eI, .int .i64 sI, .int .i64 rI, .int .i64 nI, .int .i64 v.kind, .slice m.co v.cmds.length m.cc, .slice m.no v.next.length m.nc], .bool false]) (by rw [results_rec_tmp rfl _ _ g #[.int .i64 kI, .int .i64 eI, .int .i64 sI, .int .i64 rI, .int .i64 nI, .int .i64 v.kind, .slice m.co v.cmds.length m.cc, .slice m.no v.next.length m.nc].toList rfl HGZ.out rfl]; rfl) rfl ?_
          exact HFN.out
    have hqk : (kI == 1) = false := by rw [beq_eq_false_iff_ne]; omega
    by_cases hk2 : kI = 2
    · have HK := Lib.hid hk2
      have hqk2 : (kI == 2) = true := by rw [beq_iff_eq]; omega
      clear hk1 hk2
      by_cases hs0 : 0 < sI
      · have HS0 := Lib.hid hs0
        have hqs : 0 < sI := hs0
        clear hs0
        have kd : Kp Noone wq wq.drew := (Kp.refl _ _).drew
        have hS1 := HSQ.out _ kd.none
        go_upto_region 12 with fail
        clear z0
        obtain ⟨⟨z0, z1, z2, z3⟩, z4, z5, z6, z7⟩ := HSQ.out _ kd.none
        go_region_held3 (fun W => (W.cell? ⟨gx, 0, none⟩ = some (.int .i64 kI) ∧ W.cell? ⟨gx, 1, none⟩ = some (.int .i64 eI) ∧ W.cell? ⟨gx, 2, none⟩ = some (.int .i64 sI) ∧ W.cell? ⟨gx, 3, none⟩ = some (.int .i64 rI)) ∧ W.cell? ⟨gx, 4, none⟩ = some (.int .i64 nI) ∧ W.cell? ⟨gx, 5, none⟩ = some (.int .i64 v.kind) ∧ W.cell? ⟨gx, 6, none⟩ = some (.slice m.co v.cmds.length m.cc) ∧ W.cell? ⟨gx, 7, none⟩ = some (.slice m.no v.next.length m.nc))
          (first | with_reducible exact hS1 | with_reducible exact hS3 | with_reducible exact hS2)
          (first | (go_at_call 40; refine (hva _).mono ?_; rintro e wv ⟨rfl, kv⟩; have kk := kd.trans kv; have hS3 := HSQ.out _ (kk.none (S := fun j => j = g)); have hzv := HZW.out wv ((HKQ.out.trans kk.none)); have hst : (stR (.pointer (some ⟨g, 0, none⟩)) (.agg #[.int .i64 kI, .int .i64 eI, .int .i64 sI, .int .i64 rI, .int .i64 nI, .int .i64 v.kind, .slice m.co v.cmds.length m.cc, .slice m.no v.next.length m.nc])).run Tryz.prog wv = .ok () (putM wv g #[.int .i64 kI, .int .i64 eI, .int .i64 sI, .int .i64 rI, .int .i64 nI, .int .i64 v.kind, .slice m.co v.cmds.length m.cc, .slice m.no v.next.length m.nc]) := run_store_rec g _ (by simp [Value.oneCell']) rfl hzv rfl; have HKM : Hid (Kp (fun j => j = g) wq (putM wv g #[.int .i64 kI, .int .i64 eI, .int .i64 sI, .int .i64 rI, .int .i64 nI, .int .i64 v.kind, .slice m.co v.cmds.length m.cc, .slice m.no v.next.length m.nc])) := Lib.hid ((kk.none (S := fun j => j = g)).trans (putM_kp _)); have HGZ := Lib.hid (putM_heap (cs := #[.int .i64 kI, .int .i64 eI, .int .i64 sI, .int .i64 rI, .int .i64 nI, .int .i64 v.kind, .slice m.co v.cmds.length m.cc, .slice m.no v.next.length m.nc]) hzv rfl); have hS2 := HSQ.out _ HKM.out))
        generalize putM wv g #[.int .i64 kI, .int .i64 eI, .int .i64 sI, .int .i64 rI, .int .i64 nI, .int .i64 v.kind, .slice m.co v.cmds.length m.cc, .slice m.no v.next.length m.nc] = wz at *
        clear hst hzv kk hS3 hS2 kv hS1 kd z0 z1 z2 z3 z4 z5 z6 z7
        have HFN := Lib.hid (HFIN.out wz B9 HKM.out (by unfold okRec; rw [if_neg (show ¬ kI = 1 by have := HK.out; omega), if_pos (show kI = 2 by have := HK.out; omega)]; rw [hB9.out, decide_eq_true (show 0 < sI by have := HS0.out; omega)]; rfl))
        go_wp2_with fail
        refine bodyPost_ret (v := .tuple #[.agg #[.int .i64 kI, .int .i64 eI, .int .i64 sI, .int .i64 rI, .int .i64 nI, .int .i64 v.kind, .slice m.co v.cmds.length m.cc, .slice m.no v.next.length m.nc], .bool B9]) (by rw [results_rec_tmp rfl _ _ g #[.int .i64 kI, .int .i64 eI, .int .i64 sI, .int .i64 rI, .int .i64 nI, .int .i64 v.kind, .slice m.co v.cmds.length m.cc, .slice m.no v.next.length m.nc].toList rfl HGZ.out rfl]; rfl) rfl ?_
        exact HFN.out
      · have HS0 := Lib.hid hs0
        have hqs : decide (0 < sI) = false := decide_eq_false hs0
        clear hs0
        have kd : Kp Noone wq wq.drew := (Kp.refl _ _).drew
        have hS1 := HSQ.out _ kd.none
        go_upto_region 12 with fail
        clear z0
        obtain ⟨⟨z0, z1, z2, z3⟩, z4, z5, z6, z7⟩ := HSQ.out _ kd.none
        have hzv := HZW.out wq.drew (HKQ.out.trans kd.none)
        have hst : (stR (.pointer (some ⟨g, 0, none⟩)) (.agg #[.int .i64 kI, .int .i64 eI, .int .i64 sI, .int .i64 rI, .int .i64 nI, .int .i64 v.kind, .slice m.co v.cmds.length m.cc, .slice m.no v.next.length m.nc])).run Tryz.prog wq.drew = .ok () (putM wq.drew g #[.int .i64 kI, .int .i64 eI, .int .i64 sI, .int .i64 rI, .int .i64 nI, .int .i64 v.kind, .slice m.co v.cmds.length m.cc, .slice m.no v.next.length m.nc]) := run_store_rec g _ (by simp [Value.oneCell']) rfl hzv rfl
        have HKM : Hid (Kp (fun j => j = g) wq (putM wq.drew g #[.int .i64 kI, .int .i64 eI, .int .i64 sI, .int .i64 rI, .int .i64 nI, .int .i64 v.kind, .slice m.co v.cmds.length m.cc, .slice m.no v.next.length m.nc])) := Lib.hid ((kd.none (S := fun j => j = g)).trans (putM_kp _))
        have HGZ := Lib.hid (putM_heap (cs := #[.int .i64 kI, .int .i64 eI, .int .i64 sI, .int .i64 rI, .int .i64 nI, .int .i64 v.kind, .slice m.co v.cmds.length m.cc, .slice m.no v.next.length m.nc]) hzv rfl)
        apply wp_region_0 (G := fun wz => wz = putM wq.drew g #[.int .i64 kI, .int .i64 eI, .int .i64 sI, .int .i64 rI, .int .i64 nI, .int .i64 v.kind, .slice m.co v.cmds.length m.cc, .slice m.no v.next.length m.nc])
        case h =>
          first | (go_region_law (fail)) | fail
          all_goals exact NoPanic.normal ⟨rfl, rfl, rfl⟩
        case k =>
          rintro wz rfl
          generalize putM wq.drew g #[.int .i64 kI, .int .i64 eI, .int .i64 sI, .int .i64 rI, .int .i64 nI, .int .i64 v.kind, .slice m.co v.cmds.length m.cc, .slice m.no v.next.length m.nc] = wz at *
          clear hst hzv hS1 kd z0 z1 z2 z3 z4 z5 z6 z7
          have HFN := Lib.hid (HFIN.out wz false HKM.out (by unfold okRec; rw [if_neg (show ¬ kI = 1 by have := HK.out; omega), if_pos (show kI = 2 by have := HK.out; omega)]; rw [decide_eq_false (show ¬ 0 < sI by have := HS0.out; omega)]; rfl))
          go_wp2_with fail
          refine bodyPost_ret (v := .tuple #[.agg #[.int .i64 kI, .int .i64 eI, .int .i64 sI, .int .i64 rI, .int .i64 nI, .int .i64 v.kind, .slice m.co v.cmds.length m.cc, .slice m.no v.next.length m.nc], .bool false]) (by rw [results_rec_tmp rfl _ _ g #[.int .i64 kI, .int .i64 eI, .int .i64 sI, .int .i64 rI, .int .i64 nI, .int .i64 v.kind, .slice m.co v.cmds.length m.cc, .slice m.no v.next.length m.nc].toList rfl HGZ.out rfl]; rfl) rfl ?_
          exact HFN.out
    have hqk2 : (kI == 2) = false := by rw [beq_eq_false_iff_ne]; omega
    have HK := Lib.hid (And.intro hk1 hk2)
    clear hk1 hk2
    by_cases hr0 : rI = 0
    · have HR0 := Lib.hid hr0
      have hqr : (rI == 0) = true := by rw [beq_iff_eq]; omega
      clear hr0
      by_cases hn0 : nI = 0
      · have hr0 := HR0.out
        subst hr0
        subst hn0
        clear hqr
        have kd : Kp Noone wq wq.drew := (Kp.refl _ _).drew
        have hS1 := HSQ.out _ kd.none
        go_upto_region 13 with fail
        clear z0
        obtain ⟨⟨z0, z1, z2, z3⟩, z4, z5, z6, z7⟩ := HSQ.out _ kd.none
        have hzv := HZW.out wq.drew (HKQ.out.trans kd.none)
        have hst : (stR (.pointer (some ⟨g, 0, none⟩)) (.agg #[.int .i64 kI, .int .i64 eI, .int .i64 sI, .int .i64 0, .int .i64 0, .int .i64 v.kind, .slice m.co v.cmds.length m.cc, .slice m.no v.next.length m.nc])).run Tryz.prog wq.drew = .ok () (putM wq.drew g #[.int .i64 kI, .int .i64 eI, .int .i64 sI, .int .i64 0, .int .i64 0, .int .i64 v.kind, .slice m.co v.cmds.length m.cc, .slice m.no v.next.length m.nc]) := run_store_rec g _ (by simp [Value.oneCell']) rfl hzv rfl
        have HKM : Hid (Kp (fun j => j = g) wq (putM wq.drew g #[.int .i64 kI, .int .i64 eI, .int .i64 sI, .int .i64 0, .int .i64 0, .int .i64 v.kind, .slice m.co v.cmds.length m.cc, .slice m.no v.next.length m.nc])) := Lib.hid ((kd.none (S := fun j => j = g)).trans (putM_kp _))
        have HGZ := Lib.hid (putM_heap (cs := #[.int .i64 kI, .int .i64 eI, .int .i64 sI, .int .i64 0, .int .i64 0, .int .i64 v.kind, .slice m.co v.cmds.length m.cc, .slice m.no v.next.length m.nc]) hzv rfl)
        apply wp_region_0 (G := fun wz => wz = putM wq.drew g #[.int .i64 kI, .int .i64 eI, .int .i64 sI, .int .i64 0, .int .i64 0, .int .i64 v.kind, .slice m.co v.cmds.length m.cc, .slice m.no v.next.length m.nc])
        case h =>
          first | (go_region_law (fail)) | fail
          all_goals exact NoPanic.normal ⟨rfl, rfl, rfl⟩
        case k =>
          rintro wz rfl
          generalize putM wq.drew g #[.int .i64 kI, .int .i64 eI, .int .i64 sI, .int .i64 0, .int .i64 0, .int .i64 v.kind, .slice m.co v.cmds.length m.cc, .slice m.no v.next.length m.nc] = wz at *
          clear hst hzv hS1 kd z0 z1 z2 z3 z4 z5 z6 z7
          have HFN := Lib.hid (HFIN.out wz true HKM.out (by unfold okRec; rw [if_neg (show ¬ kI = 1 by have := HK.out; omega), if_neg (show ¬ kI = 2 by have := HK.out; omega)]; rw [decide_eq_true (show (⟨0, 0⟩ : BalR) = bal0 from rfl)]; rfl))
          go_wp2_with fail
          refine bodyPost_ret (v := .tuple #[.agg #[.int .i64 kI, .int .i64 eI, .int .i64 sI, .int .i64 0, .int .i64 0, .int .i64 v.kind, .slice m.co v.cmds.length m.cc, .slice m.no v.next.length m.nc], .bool true]) (by rw [results_rec_tmp rfl _ _ g #[.int .i64 kI, .int .i64 eI, .int .i64 sI, .int .i64 0, .int .i64 0, .int .i64 v.kind, .slice m.co v.cmds.length m.cc, .slice m.no v.next.length m.nc].toList rfl HGZ.out rfl]; rfl) rfl ?_
          exact HFN.out
      · have HN0 := Lib.hid hn0
        have hqn : (nI == 0) = false := by rw [beq_eq_false_iff_ne]; omega
        clear hn0
        have kd : Kp Noone wq wq.drew := (Kp.refl _ _).drew
        have hS1 := HSQ.out _ kd.none
        go_upto_region 13 with fail
        clear z0
        obtain ⟨⟨z0, z1, z2, z3⟩, z4, z5, z6, z7⟩ := HSQ.out _ kd.none
        go_region_held3 (fun W => (W.cell? ⟨gx, 0, none⟩ = some (.int .i64 kI) ∧ W.cell? ⟨gx, 1, none⟩ = some (.int .i64 eI) ∧ W.cell? ⟨gx, 2, none⟩ = some (.int .i64 sI) ∧ W.cell? ⟨gx, 3, none⟩ = some (.int .i64 rI)) ∧ W.cell? ⟨gx, 4, none⟩ = some (.int .i64 nI) ∧ W.cell? ⟨gx, 5, none⟩ = some (.int .i64 v.kind) ∧ W.cell? ⟨gx, 6, none⟩ = some (.slice m.co v.cmds.length m.cc) ∧ W.cell? ⟨gx, 7, none⟩ = some (.slice m.no v.next.length m.nc))
          (first | with_reducible exact hS1 | with_reducible exact hS3 | with_reducible exact hS2)
          (first | (go_at_call 40; refine (hva _).mono ?_; rintro e wv ⟨rfl, kv⟩; have kk := kd.trans kv; have hS3 := HSQ.out _ (kk.none (S := fun j => j = g)); have hzv := HZW.out wv ((HKQ.out.trans kk.none)); have hst : (stR (.pointer (some ⟨g, 0, none⟩)) (.agg #[.int .i64 kI, .int .i64 eI, .int .i64 sI, .int .i64 rI, .int .i64 nI, .int .i64 v.kind, .slice m.co v.cmds.length m.cc, .slice m.no v.next.length m.nc])).run Tryz.prog wv = .ok () (putM wv g #[.int .i64 kI, .int .i64 eI, .int .i64 sI, .int .i64 rI, .int .i64 nI, .int .i64 v.kind, .slice m.co v.cmds.length m.cc, .slice m.no v.next.length m.nc]) := run_store_rec g _ (by simp [Value.oneCell']) rfl hzv rfl; have HKM : Hid (Kp (fun j => j = g) wq (putM wv g #[.int .i64 kI, .int .i64 eI, .int .i64 sI, .int .i64 rI, .int .i64 nI, .int .i64 v.kind, .slice m.co v.cmds.length m.cc, .slice m.no v.next.length m.nc])) := Lib.hid ((kk.none (S := fun j => j = g)).trans (putM_kp _)); have HGZ := Lib.hid (putM_heap (cs := #[.int .i64 kI, .int .i64 eI, .int .i64 sI, .int .i64 rI, .int .i64 nI, .int .i64 v.kind, .slice m.co v.cmds.length m.cc, .slice m.no v.next.length m.nc]) hzv rfl); have hS2 := HSQ.out _ HKM.out))
        generalize putM wv g #[.int .i64 kI, .int .i64 eI, .int .i64 sI, .int .i64 rI, .int .i64 nI, .int .i64 v.kind, .slice m.co v.cmds.length m.cc, .slice m.no v.next.length m.nc] = wz at *
        clear hst hzv kk hS3 hS2 kv hS1 kd z0 z1 z2 z3 z4 z5 z6 z7
        have HFN := Lib.hid (HFIN.out wz B9 HKM.out (by unfold okRec; rw [if_neg (show ¬ kI = 1 by have := HK.out; omega), if_neg (show ¬ kI = 2 by have := HK.out; omega)]; rw [hB9.out, decide_eq_false (show ¬ (⟨rI, nI⟩ : BalR) = bal0 from fun c => by unfold bal0 at c; injection c with c1 c2; have := HN0.out; omega)]; rfl))
        go_wp2_with fail
        refine bodyPost_ret (v := .tuple #[.agg #[.int .i64 kI, .int .i64 eI, .int .i64 sI, .int .i64 rI, .int .i64 nI, .int .i64 v.kind, .slice m.co v.cmds.length m.cc, .slice m.no v.next.length m.nc], .bool B9]) (by rw [results_rec_tmp rfl _ _ g #[.int .i64 kI, .int .i64 eI, .int .i64 sI, .int .i64 rI, .int .i64 nI, .int .i64 v.kind, .slice m.co v.cmds.length m.cc, .slice m.no v.next.length m.nc].toList rfl HGZ.out rfl]; rfl) rfl ?_
        exact HFN.out
    · have HR0 := Lib.hid hr0
      have hqr : (rI == 0) = false := by rw [beq_eq_false_iff_ne]; omega
      clear hr0
      have kd : Kp Noone wq wq.drew := (Kp.refl _ _).drew
      have hS1 := HSQ.out _ kd.none
      go_upto_region 13 with fail
      clear z0
      obtain ⟨⟨z0, z1, z2, z3⟩, z4, z5, z6, z7⟩ := HSQ.out _ kd.none
      go_region_held3 (fun W => (W.cell? ⟨gx, 0, none⟩ = some (.int .i64 kI) ∧ W.cell? ⟨gx, 1, none⟩ = some (.int .i64 eI) ∧ W.cell? ⟨gx, 2, none⟩ = some (.int .i64 sI) ∧ W.cell? ⟨gx, 3, none⟩ = some (.int .i64 rI)) ∧ W.cell? ⟨gx, 4, none⟩ = some (.int .i64 nI) ∧ W.cell? ⟨gx, 5, none⟩ = some (.int .i64 v.kind) ∧ W.cell? ⟨gx, 6, none⟩ = some (.slice m.co v.cmds.length m.cc) ∧ W.cell? ⟨gx, 7, none⟩ = some (.slice m.no v.next.length m.nc))
        (first | with_reducible exact hS1 | with_reducible exact hS3 | with_reducible exact hS2)
        (first | (go_at_call 40; refine (hva _).mono ?_; rintro e wv ⟨rfl, kv⟩; have kk := kd.trans kv; have hS3 := HSQ.out _ (kk.none (S := fun j => j = g)); have hzv := HZW.out wv ((HKQ.out.trans kk.none)); have hst : (stR (.pointer (some ⟨g, 0, none⟩)) (.agg #[.int .i64 kI, .int .i64 eI, .int .i64 sI, .int .i64 rI, .int .i64 nI, .int .i64 v.kind, .slice m.co v.cmds.length m.cc, .slice m.no v.next.length m.nc])).run Tryz.prog wv = .ok () (putM wv g #[.int .i64 kI, .int .i64 eI, .int .i64 sI, .int .i64 rI, .int .i64 nI, .int .i64 v.kind, .slice m.co v.cmds.length m.cc, .slice m.no v.next.length m.nc]) := run_store_rec g _ (by simp [Value.oneCell']) rfl hzv rfl; have HKM : Hid (Kp (fun j => j = g) wq (putM wv g #[.int .i64 kI, .int .i64 eI, .int .i64 sI, .int .i64 rI, .int .i64 nI, .int .i64 v.kind, .slice m.co v.cmds.length m.cc, .slice m.no v.next.length m.nc])) := Lib.hid ((kk.none (S := fun j => j = g)).trans (putM_kp _)); have HGZ := Lib.hid (putM_heap (cs := #[.int .i64 kI, .int .i64 eI, .int .i64 sI, .int .i64 rI, .int .i64 nI, .int .i64 v.kind, .slice m.co v.cmds.length m.cc, .slice m.no v.next.length m.nc]) hzv rfl); have hS2 := HSQ.out _ HKM.out))
      generalize putM wv g #[.int .i64 kI, .int .i64 eI, .int .i64 sI, .int .i64 rI, .int .i64 nI, .int .i64 v.kind, .slice m.co v.cmds.length m.cc, .slice m.no v.next.length m.nc] = wz at *
      clear hst hzv kk hS3 hS2 kv hS1 kd z0 z1 z2 z3 z4 z5 z6 z7
      have HFN := Lib.hid (HFIN.out wz B9 HKM.out (by unfold okRec; rw [if_neg (show ¬ kI = 1 by have := HK.out; omega), if_neg (show ¬ kI = 2 by have := HK.out; omega)]; rw [hB9.out, decide_eq_false (show ¬ (⟨rI, nI⟩ : BalR) = bal0 from fun c => by unfold bal0 at c; injection c with c1 c2; have := HR0.out; omega)]; rfl))
      go_wp2_with fail
      refine bodyPost_ret (v := .tuple #[.agg #[.int .i64 kI, .int .i64 eI, .int .i64 sI, .int .i64 rI, .int .i64 nI, .int .i64 v.kind, .slice m.co v.cmds.length m.cc, .slice m.no v.next.length m.nc], .bool B9]) (by rw [results_rec_tmp rfl _ _ g #[.int .i64 kI, .int .i64 eI, .int .i64 sI, .int .i64 rI, .int .i64 nI, .int .i64 v.kind, .slice m.co v.cmds.length m.cc, .slice m.no v.next.length m.nc].toList rfl HGZ.out rfl]; rfl) rfl ?_
      exact HFN.out

end Go.Proofs.YtgbgbokcohfnpaaGreat
