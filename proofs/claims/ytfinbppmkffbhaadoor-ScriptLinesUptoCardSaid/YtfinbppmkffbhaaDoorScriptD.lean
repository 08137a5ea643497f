/-
  WALK of script.Op: the operation of words.
-/
import Derived.Test.YtfinbppmkffbhaaDoorScriptD0
import Derived.Sort.Grow
import Derived.Laws.ResultCell
import Derived.Laws.Rows
namespace Go.Proofs.YtfinbppmkffbhaaDoor
open Go.RowKit Go.Sort

/-- The kind that is found below k. -/
def kindTo (w : List UInt8) (k : Int) : Int := if kindOf w < k then kindOf w else 0
theorem kindTo_one (w : List UInt8) : kindTo w 1 = 0 := by
  have := kind_range w
  unfold kindTo
  split <;> omega
theorem kindTo_end (w : List UInt8) : kindTo w 8 = kindOf w := by
  have := kind_range w
  unfold kindTo
  rw [if_pos (by omega)]
theorem kindTo_hit {w : List UInt8} {k : Int} (h0 : 1 ≤ k) (h7 : k ≤ 7) (h : wordOf k = w) : kindTo w (k + 1) = k := by
  have hk := kind_word h0 h7
  rw [h] at hk
  unfold kindTo
  rw [hk, if_pos (by omega)]
theorem kindTo_miss {w : List UInt8} {k : Int} (h0 : 1 ≤ k) (h : wordOf k ≠ w) : kindTo w (k + 1) = kindTo w k := by
  have hk : kindOf w ≠ k := fun e => by
    have := word_kind (w := w) (by omega)
    rw [e] at this
    exact h this.1
  unfold kindTo
  by_cases c : kindOf w < k
  · rw [if_pos (by omega), if_pos c]
  · rw [if_neg (by omega), if_neg c]

def opRest (ws : List (List UInt8)) (kd : Int) : OpV × Int :=
  match numF (getW ws 1) with
  | none => (op0, 21)
  | some r => if twoF kd = true then (match numF (getW ws 2) with
    | none => (op0, 21)
    | some t => opEnd ws kd r t) else opEnd ws kd r 0
theorem opF_rest {ws : List (List UInt8)} {kd : Int} (h0 : ws ≠ []) (hk : kindOf (getW ws 0) = kd) (hz : kd ≠ 0) (hl : ws.length = wantOf kd) : opF ws = opRest ws kd := by
  unfold opF opRest
  rw [if_neg h0, hk, if_neg hz, if_neg (fun c => c hl)]
  rfl
theorem beq_strs (a b : List UInt8) : ((⟨a.toArray⟩ : ByteArray).toList == (⟨b.toArray⟩ : ByteArray).toList) = decide (a = b) := by
  rw [ByteArray.toList_eq, ByteArray.toList_eq]
  by_cases h : a = b
  · rw [decide_eq_true h, h]; simp
  · rw [decide_eq_false h]; exact beq_eq_false_iff_ne.2 (by simpa using h)
theorem op_results (tmps : Array Value) (W : World) (r : Nat) (o : OpV) (c : Int) (h2 : tmps.getD 2 undef = .pointer (some ⟨r, 0, none⟩)) (h3 : tmps.getD 3 undef = .int .i64 c) (hh : W.heap[r]? = some (.cells (opCs o) 24 (0, 0))) :
    (results Tryd.f17 tmps).run Tryd.prog W = .ok (.tuple #[opV o, .int .i64 c]) W := by
  rw [results_cell_tmp (p := 2) (u := 3) (ty := 24) rfl, h2, h3]
  simp [asAddr, run_loadVar_row W r 24 24 _ _ _ hh Tryd.underlying24 rfl (by kernel_rfl), opCs, opV]

set_option maxHeartbeats 4000000 in
set_option maxRecDepth 100000 in
theorem op_any (ao : Option Addr) (n cap : Nat) (ws : List (List UInt8)) (w : World) (hS : SS w ao n cap ws) (hw : ∀ x ∈ ws, x.length ≤ 4194304) (hL : Laid w) :
    Calls Tryd.prog 17 #[.slice ao n cap] w fun e w' => OpTo ws w e w' := by
  have hn48 : n ≤ 9223372036854775807 := by have := hS.le; have := hS.max; unfold maxLen at this; omega
  have hnl := hS.len
  have HS := Lib.hid hS
  have HL := Lib.hid hL
  have HNL := Lib.hid hnl
  have HW := Lib.hid hw
  clear hS hL hnl hw
  have hA := heap_alloc_new (w.alloc (.cells #[.int .i64 0, .int .i64 0, .int .i64 0, .int .i64 0, .int .i64 0] 24)) (.cells #[.int .i64 0, .int .i64 0, .int .i64 0, .int .i64 0, .int .i64 0] 24)
  have hB : (w.alloc (.cells #[.int .i64 0, .int .i64 0, .int .i64 0, .int .i64 0, .int .i64 0] 24)).heap[w.heap.size]? = _ := heap_alloc_new w (.cells #[.int .i64 0, .int .i64 0, .int .i64 0, .int .i64 0, .int .i64 0] 24)
  have hC : ((w.alloc (.cells #[.int .i64 0, .int .i64 0, .int .i64 0, .int .i64 0, .int .i64 0] 24)).alloc (.cells #[.int .i64 0, .int .i64 0, .int .i64 0, .int .i64 0, .int .i64 0] 24)).heap[w.heap.size]? = some (.cells #[.int .i64 0, .int .i64 0, .int .i64 0, .int .i64 0, .int .i64 0] 24 (0, 0)) := by
    exact ((Kp.refl Noone (w.alloc (.cells #[.int .i64 0, .int .i64 0, .int .i64 0, .int .i64 0, .int .i64 0] 24))).alloc (.cells #[.int .i64 0, .int .i64 0, .int .i64 0, .int .i64 0, .int .i64 0] 24)).heap hB id
  have hE : OpSt w w.heap.size (w.heap.size + 1) op0 ((w.alloc (.cells #[.int .i64 0, .int .i64 0, .int .i64 0, .int .i64 0, .int .i64 0] 24)).alloc (.cells #[.int .i64 0, .int .i64 0, .int .i64 0, .int .i64 0, .int .i64 0] 24)) := ⟨((Kp.refl _ _).alloc _).alloc _, hC, by
    have e : (w.alloc (.cells #[.int .i64 0, .int .i64 0, .int .i64 0, .int .i64 0, .int .i64 0] 24)).heap.size = w.heap.size + 1 := by simp
    rw [e] at hA
    exact hA⟩
  have HE := Lib.hid hE
  clear hA hB hC hE
  go_enter Tryd.func17, Tryd.ntmps17
  by_cases h0 : n = 0
  · subst h0
    go_wp2_with fail
    have hws : ws = [] := List.eq_nil_of_length_eq_zero HNL.out
    exact bodyPost_ret (op_results _ _ w.heap.size op0 90 rfl rfl HE.out.res) rfl (OpTo.mk' (by rw [hws]; rfl) rfl HE.out.kp)
  go_wp2_with fail
  generalize ((w.alloc (.cells #[.int .i64 0, .int .i64 0, .int .i64 0, .int .i64 0, .int .i64 0] 24)).alloc (.cells #[.int .i64 0, .int .i64 0, .int .i64 0, .int .i64 0, .int .i64 0] 24)) = W0 at *
  have HG : Hid (w.heap.size ≤ w.heap.size ∧ w.heap.size ≤ w.heap.size + 1 ∧ w.heap.size + 1 ≠ w.heap.size) := Lib.hid (by omega)
  generalize w.heap.size + 1 = q at *
  obtain ⟨r, hr⟩ : ∃ r, r = w.heap.size := ⟨_, rfl⟩
  rw [← hr] at HE HG ⊢
  have hq : w.heap.size ≤ q := by have := HG.out; omega
  have hqr : q ≠ r := HG.out.2.2
  have hrr : w.heap.size ≤ r := by omega
  have HQ := Lib.hid (And.intro hq (And.intro hqr hrr))
  clear hr HG hq hqr hrr
  obtain ⟨w0, hw0⟩ : ∃ x, getW ws 0 = x := ⟨_, rfl⟩
  have HW0 := Lib.hid hw0
  clear hw0
  go_loopw [5] (fun v wx => ∃ k : Int, v = .int .i64 k ∧ 1 ≤ k ∧ k ≤ 8 ∧ Hid (OpSt w r q ⟨kindTo w0 k, 0, 0, 0, 0⟩ wx)) (fun v _ => (8 - intOf v).toNat)
  case atStart => exact ⟨1, rfl, by decide, by decide, Lib.hid (by rw [kindTo_one]; exact HE.out)⟩
  case round =>
    clear HE
    obtain ⟨k, rfl, k1, k8, HO⟩ := hrel
    by_cases hk : k ≤ 7
    · have hwk : IntKind.i64.wrap (k + 1) = k + 1 := IntWalk.i64_in _ (by omega)
      have hnz : (0 : Int) < (n : Int) := by omega
      have how := fun W => opWord_any k (by omega) hk W
      have hs := HS.out.keep HO.out.kp
      obtain ⟨b, off, rfl, hb, hcell⟩ := hs.at (k := 0) (by omega)
      rw [HW0.out] at hcell
      unfold strV at hcell how
      rw [Nat.add_zero] at hcell
      have hbq := beq_strs (wordOf k) w0
      obtain ⟨B, hB⟩ : ∃ B, Hid (decide (wordOf k = w0) = B) := ⟨_, Lib.hid rfl⟩
      rw [hB.out] at hbq
      generalize (⟨(wordOf k).toArray⟩ : ByteArray) = sx at *
      generalize (⟨w0.toArray⟩ : ByteArray) = sy at *
      obtain ⟨z0, z1, z2, z3, z4, f0, f1, f2, f3, f4⟩ := cells_5f HO.out.op
      have HSet : Hid (∀ W, Kp Noone wr W → B = true → OpSt w r q ⟨kindTo w0 (k + 1), 0, 0, 0, 0⟩ (W.setCell ⟨q, 0, none⟩ (.int .i64 k))) := Lib.hid (fun W kw hb1 => by
        rw [kindTo_hit k1 hk (of_decide_eq_true (hB.out.trans hb1))]
        exact (HO.out.keep kw).set HQ.out.1 HQ.out.2.1 0 _ rfl (by decide))
      have HKeep : Hid (∀ W, Kp Noone wr W → B = false → OpSt w r q ⟨kindTo w0 (k + 1), 0, 0, 0, 0⟩ W) := Lib.hid (fun W kw hb1 => by
        rw [kindTo_miss k1 (of_decide_eq_false (hB.out.trans hb1))]
        exact HO.out.keep kw)
      clear hB
      go_upto_region 7 with fail
      go_quiet ((go_at_call 27; exact Calls.quiet_of_same (how _)))
      cases B
      · go_wp2_with fail
        go_roundw
        case rel => exact ⟨k + 1, rfl, by omega, by omega, Lib.hid (HKeep.out _ ((Kp.refl _ _).drewN _) rfl)⟩
        case measure => simp [intOf]; omega
      · go_wp2_with fail
        go_roundw
        case rel => exact ⟨k + 1, rfl, by omega, by omega, Lib.hid (HSet.out _ ((Kp.refl _ _).drewN _) rfl)⟩
        case measure => simp [intOf]; omega
    · obtain rfl : k = 8 := by omega
      have HO2 : Hid (OpSt w r q ⟨kindOf w0, 0, 0, 0, 0⟩ wr) := Lib.hid (by rw [← kindTo_end]; exact HO.out)
      have hkr := kind_range w0
      clear HO
      obtain ⟨kd, hkd⟩ : ∃ x, kindOf w0 = x := ⟨_, rfl⟩
      have HKD := Lib.hid hkd
      rw [hkd] at HO2 hkr
      clear hkd
      obtain ⟨z0, z1, z2, z3, z4, f0, f1, f2, f3, f4⟩ := cells_5f HO2.out.op
      obtain ⟨y0, y1, y2, y3, y4, e0, e1, e2, e3, e4⟩ := cells_5f HO2.out.res
      have HWZ : Hid (ws ≠ []) := Lib.hid (fun e => h0 (by rw [← HNL.out, e]; rfl))
      have HKW : Hid (kindOf (getW ws 0) = kd) := Lib.hid (by rw [HW0.out, HKD.out])
      by_cases hkz : kd = 0
      · subst hkz
        go_wp2_with fail
        exact bodyPost_ret (op_results _ _ r op0 90 rfl rfl (putOp_heap op0 HO2.out.res)) rfl (OpTo.mk' (by unfold opF; rw [if_neg HWZ.out, if_pos HKW.out]) rfl (putOp_kp HO2.out.kp HQ.out.2.2 op0))
      · have htk := fun W => takes_any kd W
        have HOF : Hid (ws.length = wantOf kd → opF ws = opRest ws kd) := Lib.hid (fun hl => opF_rest HWZ.out HKW.out hkz hl)
        by_cases hlen : n = wantOf kd
        case neg =>
          have HQ2 : Hid (opF ws = (op0, 90)) := Lib.hid (by
            unfold opF
            rw [if_neg HWZ.out, HKW.out, if_neg hkz, if_pos (by rw [HNL.out]; exact hlen)])
          clear HOF
          unfold wantOf at hlen
          cases hh2 : twoF kd
          all_goals (
            have hnk : numsOf kd = if twoF kd = true then 2 else 1 := rfl
            rw [hh2] at hnk
            simp only [Bool.false_eq_true, if_false, if_true] at hnk
            rw [hnk] at htk hlen
            cases hh3 : zedF kd
            all_goals (
              rw [hh3] at htk hlen
              simp only [Bool.false_eq_true, if_false, if_true] at hlen
              have hno : ¬ ((n : Int) = _) := fun c => hlen (Int.ofNat.inj c)
              clear hnk hh2 hh3
              go_wp2_with (go_at_call 26; refine (htk _).mono ?_; rintro e w' ⟨rfl, hw⟩; rw [hw]; clear hw)
              exact bodyPost_ret (op_results _ _ r op0 90 rfl rfl (putOp_heap op0 HO2.out.res)) rfl (OpTo.mk' HQ2.out rfl (putOp_kp HO2.out.kp HQ.out.2.2 op0))))
        case pos =>
          have HOR : Hid (opF ws = opRest ws kd) := Lib.hid (HOF.out (by rw [HNL.out]; exact hlen))
          clear HOF HW0 HKD HWZ
          have hsz : ∀ j, (getW ws j).length ≤ 4194304 := fun j => by
            unfold getW
            rw [List.getD_eq_getElem?_getD]
            cases hj : ws[j]? with
            | none => simp
            | some x => exact HW.out x (List.mem_of_getElem? hj)
          have HSZ := Lib.hid hsz
          clear hsz HW
          have hnk : numsOf kd = if twoF kd = true then 2 else 1 := rfl
          unfold wantOf at hlen
          cases hh2 : twoF kd
          · rw [hh2] at hnk
            simp only [Bool.false_eq_true, if_false] at hnk
            rw [hnk] at htk hlen
            have HRA : Hid (opF ws = match numF (getW ws 1) with
              | none => (op0, 21)
              | some r => opEnd ws kd r 0) := Lib.hid (by rw [HOR.out]; unfold opRest; rw [hh2]; rfl)
            cases hh3 : zedF kd
            · rw [hh3] at htk hlen
              simp only [Bool.false_eq_true, if_false] at hlen
              subst hlen
              have HZ := Lib.hid hh3
              have HTW := Lib.hid hh2
              clear hnk hh2 hh3 HOR
              go_wp2_with (go_at_call 26; refine (htk _).mono ?_; rintro e w' ⟨rfl, hw⟩; rw [hw]; clear hw)
              have hO3 := HO2.out.keep ((Kp.refl Noone wr).alloc (.cells #[.pointer (some ⟨q, 1, none⟩), .pointer (some ⟨q, 2, none⟩)] 73))
              have hpt := heap_alloc_new wr (.cells #[.pointer (some ⟨q, 1, none⟩), .pointer (some ⟨q, 2, none⟩)] 73)
              have HNQ : Hid (q ≠ wr.heap.size) := Lib.hid (by have := (Array.getElem?_eq_some_iff.1 HO2.out.op).1; omega)
              have hsA := HS.out.keep hO3.kp
              clear z0 z1 z2 z3 z4 f0 f1 f2 f3 f4 y0 y1 y2 y3 y4 e0 e1 e2 e3 e4 htk
              generalize wr.alloc (.cells #[.pointer (some ⟨q, 1, none⟩), .pointer (some ⟨q, 2, none⟩)] 73) = WA at *
              generalize wr.heap.size = g5 at *
              have HO3 := Lib.hid hO3
              clear hO3 HO2
              obtain ⟨b, off, rfl, hb, hcell⟩ := hsA.at (k := 1) (by omega)
              obtain ⟨p0, p1, -, -⟩ := cells_2f hpt
              have HPT := Lib.hid hpt
              clear hsA hpt
              unfold strV at hcell
              have hsz1 : (⟨(getW ws 1).toArray⟩ : ByteArray).size ≤ 281474976710656 := by rw [ba_size]; have := HSZ.out 1; omega
              have hnum := fun W hW => number_any (⟨(getW ws 1).toArray⟩ : ByteArray) W hsz1 hW
              have HD1 : Hid ((⟨(getW ws 1).toArray⟩ : ByteArray).data.toList = getW ws 1) := Lib.hid (by simp)
              generalize (⟨(getW ws 1).toArray⟩ : ByteArray) = sx1 at *
              refine wp_loop_rounds 2 ?_
              rw [rounds_succ]
              go_wp2_with fail
              refine (hnum _ (HL.out.keep HO3.out.kp)).mono ?_
              clear hnum p0 p1
              rintro e w2 ⟨k2, hto⟩
              rw [HD1.out] at hto
              have HO4 := Lib.hid (HO3.out.keep k2)
              have HPT2 := Lib.hid (k2.heap HPT.out id)
              clear HO3 k2 hcell HPT
              obtain ⟨z0, z1, z2, z3, z4, f0, f1, f2, f3, f4⟩ := cells_5f HO4.out.op
              obtain ⟨y0, y1, y2, y3, y4, e0, e1, e2, e3, e4⟩ := cells_5f HO4.out.res
              rcases hto with ⟨x1, hx, rfl⟩ | ⟨hx, v, rfl⟩
              case inr =>
                have HX := Lib.hid hx
                clear hx
                go_wp2_with fail
                try simp only [Exit.noGoto, Exit.inBlock, Exit.then]
                exact bodyPost_ret (op_results _ _ r op0 21 rfl rfl (putOp_heap op0 HO4.out.res)) rfl (OpTo.mk' (by rw [HRA.out, HX.out]) rfl (putOp_kp HO4.out.kp HQ.out.2.2 op0))
              have hrb1 := HRA.out
              rw [hx] at hrb1
              simp only [] at hrb1
              have Hhrb1 := Lib.hid hrb1
              clear hx y0 y1 y2 y3 y4 e0 e1 e2 e3 e4 hrb1 HRA
              have HO5 : Hid (OpSt w r q ⟨kd, x1, 0, 0, 0⟩ (w2.setCell ⟨q, 1, none⟩ (.int .i64 x1))) := Lib.hid (HO4.out.set HQ.out.1 HQ.out.2.1 1 _ rfl (by decide))
              have HPT : Hid ((w2.setCell ⟨q, 1, none⟩ (.int .i64 x1)).heap[g5]? = _) := Lib.hid (set_off HPT2.out (by have := HNQ.out; omega) 1 (.int .i64 x1))
              go_wp2_with fail
              clear z0 z1 z2 z3 z4 f0 f1 f2 f3 f4 HO4 HPT2
              generalize w2.setCell ⟨q, 1, none⟩ (.int .i64 x1) = w3 at *
              have HREND := Hhrb1
              clear Hhrb1
              have HOE : Hid (opF ws = opEnd ws kd x1 0) := Lib.hid (HREND.out)
              have HEE : Hid (opF ws = if okOp ⟨kd, x1, 0, 0, 0⟩ = true then (⟨kd, x1, 0, 0, 0⟩, 0) else (op0, 22)) := Lib.hid (by
                rw [HOE.out]; unfold opEnd; rw [if_neg (by rw [HZ.out]; simp)])
              obtain ⟨z0, z1, z2, z3, z4, f0, f1, f2, f3, f4⟩ := cells_5f HO5.out.op
              rw [rounds_succ]
              go_wp2_with fail
              refine (check_any ⟨kd, x1, 0, 0, 0⟩ _).mono ?_
              rintro e w8 ⟨rfl, k8⟩
              have HO8 := Lib.hid (HO5.out.keep k8)
              clear z0 z1 z2 z3 z4 f0 f1 f2 f3 f4 k8
              obtain ⟨z0, z1, z2, z3, z4, f0, f1, f2, f3, f4⟩ := cells_5f HO8.out.op
              obtain ⟨y0, y1, y2, y3, y4, e0, e1, e2, e3, e4⟩ := cells_5f HO8.out.res
              cases hok : okOp ⟨kd, x1, 0, 0, 0⟩
              · have HKO := Lib.hid hok
                clear hok
                go_wp2_with fail
                exact bodyPost_ret (op_results _ _ r op0 22 rfl rfl (putOp_heap op0 HO8.out.res)) rfl (OpTo.mk' (by rw [HEE.out, HKO.out]; rfl) rfl (putOp_kp HO8.out.kp HQ.out.2.2 op0))
              · have HKO := Lib.hid hok
                clear hok
                go_wp2_with fail
                exact bodyPost_ret (op_results _ _ r ⟨kd, x1, 0, 0, 0⟩ 0 rfl rfl (putOp_heap ⟨kd, x1, 0, 0, 0⟩ HO8.out.res)) rfl (OpTo.mk' (by rw [HEE.out, HKO.out]; rfl) rfl (putOp_kp HO8.out.kp HQ.out.2.2 ⟨kd, x1, 0, 0, 0⟩))
            · rw [hh3] at htk hlen
              simp only [if_true] at hlen
              subst hlen
              have HZ := Lib.hid hh3
              have HTW := Lib.hid hh2
              clear hnk hh2 hh3 HOR
              go_wp2_with (go_at_call 26; refine (htk _).mono ?_; rintro e w' ⟨rfl, hw⟩; rw [hw]; clear hw)
              have hO3 := HO2.out.keep ((Kp.refl Noone wr).alloc (.cells #[.pointer (some ⟨q, 1, none⟩), .pointer (some ⟨q, 2, none⟩)] 73))
              have hpt := heap_alloc_new wr (.cells #[.pointer (some ⟨q, 1, none⟩), .pointer (some ⟨q, 2, none⟩)] 73)
              have HNQ : Hid (q ≠ wr.heap.size) := Lib.hid (by have := (Array.getElem?_eq_some_iff.1 HO2.out.op).1; omega)
              have hsA := HS.out.keep hO3.kp
              clear z0 z1 z2 z3 z4 f0 f1 f2 f3 f4 y0 y1 y2 y3 y4 e0 e1 e2 e3 e4 htk
              generalize wr.alloc (.cells #[.pointer (some ⟨q, 1, none⟩), .pointer (some ⟨q, 2, none⟩)] 73) = WA at *
              generalize wr.heap.size = g5 at *
              have HO3 := Lib.hid hO3
              clear hO3 HO2
              obtain ⟨b, off, rfl, hb, hcell⟩ := hsA.at (k := 1) (by omega)
              obtain ⟨p0, p1, -, -⟩ := cells_2f hpt
              have HPT := Lib.hid hpt
              clear hsA hpt
              unfold strV at hcell
              have hsz1 : (⟨(getW ws 1).toArray⟩ : ByteArray).size ≤ 281474976710656 := by rw [ba_size]; have := HSZ.out 1; omega
              have hnum := fun W hW => number_any (⟨(getW ws 1).toArray⟩ : ByteArray) W hsz1 hW
              have HD1 : Hid ((⟨(getW ws 1).toArray⟩ : ByteArray).data.toList = getW ws 1) := Lib.hid (by simp)
              generalize (⟨(getW ws 1).toArray⟩ : ByteArray) = sx1 at *
              refine wp_loop_rounds 2 ?_
              rw [rounds_succ]
              go_wp2_with fail
              refine (hnum _ (HL.out.keep HO3.out.kp)).mono ?_
              clear hnum p0 p1
              rintro e w2 ⟨k2, hto⟩
              rw [HD1.out] at hto
              have HO4 := Lib.hid (HO3.out.keep k2)
              have HPT2 := Lib.hid (k2.heap HPT.out id)
              clear HO3 k2 hcell HPT
              obtain ⟨z0, z1, z2, z3, z4, f0, f1, f2, f3, f4⟩ := cells_5f HO4.out.op
              obtain ⟨y0, y1, y2, y3, y4, e0, e1, e2, e3, e4⟩ := cells_5f HO4.out.res
              rcases hto with ⟨x1, hx, rfl⟩ | ⟨hx, v, rfl⟩
              case inr =>
                have HX := Lib.hid hx
                clear hx
                go_wp2_with fail
                try simp only [Exit.noGoto, Exit.inBlock, Exit.then]
                exact bodyPost_ret (op_results _ _ r op0 21 rfl rfl (putOp_heap op0 HO4.out.res)) rfl (OpTo.mk' (by rw [HRA.out, HX.out]) rfl (putOp_kp HO4.out.kp HQ.out.2.2 op0))
              have hrb1 := HRA.out
              rw [hx] at hrb1
              simp only [] at hrb1
              have Hhrb1 := Lib.hid hrb1
              clear hx y0 y1 y2 y3 y4 e0 e1 e2 e3 e4 hrb1 HRA
              have HO5 : Hid (OpSt w r q ⟨kd, x1, 0, 0, 0⟩ (w2.setCell ⟨q, 1, none⟩ (.int .i64 x1))) := Lib.hid (HO4.out.set HQ.out.1 HQ.out.2.1 1 _ rfl (by decide))
              have HPT : Hid ((w2.setCell ⟨q, 1, none⟩ (.int .i64 x1)).heap[g5]? = _) := Lib.hid (set_off HPT2.out (by have := HNQ.out; omega) 1 (.int .i64 x1))
              go_wp2_with fail
              clear z0 z1 z2 z3 z4 f0 f1 f2 f3 f4 HO4 HPT2
              generalize w2.setCell ⟨q, 1, none⟩ (.int .i64 x1) = w3 at *
              have HREND := Hhrb1
              clear Hhrb1
              obtain ⟨bz, offz, hez, hbz, hcell⟩ := (HS.out.keep HO5.out.kp).at (k := 2) (by omega)
              obtain ⟨rfl, rfl⟩ : b = bz ∧ off = offz := by simpa using hez
              clear hez
              unfold strV at hcell
              have hszz : (⟨(getW ws 2).toArray⟩ : ByteArray).size ≤ 9223372036854775806 := by rw [ba_size]; have := HSZ.out 2; omega
              have hrd := fun W hW => readF_any (⟨(getW ws 2).toArray⟩ : ByteArray) W hszz hW
              have HDZ : Hid ((⟨(getW ws 2).toArray⟩ : ByteArray).data.toList = getW ws 2) := Lib.hid (by simp)
              generalize (⟨(getW ws 2).toArray⟩ : ByteArray) = sz at *
              have HOE : Hid (opF ws = opEnd ws kd x1 0) := Lib.hid (HREND.out)
              obtain ⟨z0, z1, z2, z3, z4, f0, f1, f2, f3, f4⟩ := cells_5f HO5.out.op
              rw [rounds_succ]
              go_wp2_with fail
              refine (hrd _ (HL.out.keep HO5.out.kp)).mono ?_
              clear hrd
              rintro e w5 hto
              have hto2 := hto.is
              have HO6 := Lib.hid (HO5.out.keep hto.ex)
              rw [HDZ.out] at hto2
              clear hto z0 z1 z2 z3 z4 f0 f1 f2 f3 f4 hcell HDZ
              have HWI : Hid (wantOf kd - 1 = 2) := Lib.hid (by simp [wantOf, HTW.out, HZ.out, numsOf])
              obtain ⟨z0, z1, z2, z3, z4, f0, f1, f2, f3, f4⟩ := cells_5f HO6.out.op
              obtain ⟨y0, y1, y2, y3, y4, e0, e1, e2, e3, e4⟩ := cells_5f HO6.out.res
              rcases gaussF_cases (getW ws 2) with ⟨zn, zm, eg, hrb, -⟩ | eg | eg
              case inr.inl =>
                rw [eg, readT_zero] at hto2
                have HEG := Lib.hid eg
                clear eg
                subst hto2
                go_wp2_with fail
                exact bodyPost_ret (op_results _ _ r op0 21 rfl rfl (putOp_heap op0 HO6.out.res)) rfl (OpTo.mk' (by rw [HOE.out]; unfold opEnd; rw [if_pos HZ.out, HWI.out, HEG.out]; rfl) rfl (putOp_kp HO6.out.kp HQ.out.2.2 op0))
              case inr.inr =>
                rw [eg, readT_zero] at hto2
                have HEG := Lib.hid eg
                clear eg
                subst hto2
                go_wp2_with fail
                exact bodyPost_ret (op_results _ _ r op0 20 rfl rfl (putOp_heap op0 HO6.out.res)) rfl (OpTo.mk' (by rw [HOE.out]; unfold opEnd; rw [if_pos HZ.out, HWI.out, HEG.out]; rfl) rfl (putOp_kp HO6.out.kp HQ.out.2.2 op0))
              rw [eg] at hto2
              unfold readT at hto2
              simp only [] at hto2
              subst hto2
              have b1 := rB_bound hrb
              have fn := fi_of zn (by omega)
              have fm := fi_of zm (by omega)
              have HRB := Lib.hid hrb
              have HEE : Hid (opF ws = if okOp ⟨kd, x1, 0, zn, zm⟩ = true then (⟨kd, x1, 0, zn, zm⟩, 0) else (op0, 22)) := Lib.hid (by
                rw [HOE.out]; unfold opEnd; rw [if_pos HZ.out, HWI.out, eg]; simp only [if_true])
              clear hrb eg HOE y0 y1 y2 y3 y4 e0 e1 e2 e3 e4
              go_wp2_with fail
              refine (parts_any _ _ zn zm _ fn fm (by omega) (by omega)).mono ?_
              rintro e w6 ⟨rfl, hw6⟩
              subst hw6
              rw [partsT_in HRB.out]
              have HO7 : Hid (OpSt w r q ⟨kd, x1, 0, zn, zm⟩ ((w5.setCell ⟨q, 3, none⟩ (.int .i64 zn)).setCell ⟨q, 4, none⟩ (.int .i64 zm))) :=
                Lib.hid ((HO6.out.set (o' := ⟨kd, x1, 0, zn, 0⟩) HQ.out.1 HQ.out.2.1 3 _ rfl (by decide)).set HQ.out.1 HQ.out.2.1 4 _ rfl (by decide))
              go_upto_region 30 with fail
              clear z0 z1 z2 z3 z4 f0 f1 f2 f3 f4 HO6 fn fm b1
              generalize ((w5.setCell ⟨q, 3, none⟩ (.int .i64 zn)).setCell ⟨q, 4, none⟩ (.int .i64 zm)) = w7 at *
              obtain ⟨z0, z1, z2, z3, z4, f0, f1, f2, f3, f4⟩ := cells_5f HO7.out.op
              go_wp2_with fail
              refine (check_any ⟨kd, x1, 0, zn, zm⟩ _).mono ?_
              rintro e w8 ⟨rfl, k8⟩
              have HO8 := Lib.hid (HO7.out.keep k8)
              clear z0 z1 z2 z3 z4 f0 f1 f2 f3 f4 k8
              obtain ⟨z0, z1, z2, z3, z4, f0, f1, f2, f3, f4⟩ := cells_5f HO8.out.op
              obtain ⟨y0, y1, y2, y3, y4, e0, e1, e2, e3, e4⟩ := cells_5f HO8.out.res
              cases hok : okOp ⟨kd, x1, 0, zn, zm⟩
              · have HKO := Lib.hid hok
                clear hok
                go_wp2_with fail
                exact bodyPost_ret (op_results _ _ r op0 22 rfl rfl (putOp_heap op0 HO8.out.res)) rfl (OpTo.mk' (by rw [HEE.out, HKO.out]; rfl) rfl (putOp_kp HO8.out.kp HQ.out.2.2 op0))
              · have HKO := Lib.hid hok
                clear hok
                go_wp2_with fail
                exact bodyPost_ret (op_results _ _ r ⟨kd, x1, 0, zn, zm⟩ 0 rfl rfl (putOp_heap ⟨kd, x1, 0, zn, zm⟩ HO8.out.res)) rfl (OpTo.mk' (by rw [HEE.out, HKO.out]; rfl) rfl (putOp_kp HO8.out.kp HQ.out.2.2 ⟨kd, x1, 0, zn, zm⟩))
          · rw [hh2] at hnk
            simp only [if_true] at hnk
            rw [hnk] at htk hlen
            have HRA : Hid (opF ws = match numF (getW ws 1) with
              | none => (op0, 21)
              | some r => (match numF (getW ws 2) with
                | none => (op0, 21)
                | some t => opEnd ws kd r t)) := Lib.hid (by rw [HOR.out]; unfold opRest; rw [hh2]; rfl)
            cases hh3 : zedF kd
            · rw [hh3] at htk hlen
              simp only [Bool.false_eq_true, if_false] at hlen
              subst hlen
              have HZ := Lib.hid hh3
              have HTW := Lib.hid hh2
              clear hnk hh2 hh3 HOR
              go_wp2_with (go_at_call 26; refine (htk _).mono ?_; rintro e w' ⟨rfl, hw⟩; rw [hw]; clear hw)
              have hO3 := HO2.out.keep ((Kp.refl Noone wr).alloc (.cells #[.pointer (some ⟨q, 1, none⟩), .pointer (some ⟨q, 2, none⟩)] 73))
              have hpt := heap_alloc_new wr (.cells #[.pointer (some ⟨q, 1, none⟩), .pointer (some ⟨q, 2, none⟩)] 73)
              have HNQ : Hid (q ≠ wr.heap.size) := Lib.hid (by have := (Array.getElem?_eq_some_iff.1 HO2.out.op).1; omega)
              have hsA := HS.out.keep hO3.kp
              clear z0 z1 z2 z3 z4 f0 f1 f2 f3 f4 y0 y1 y2 y3 y4 e0 e1 e2 e3 e4 htk
              generalize wr.alloc (.cells #[.pointer (some ⟨q, 1, none⟩), .pointer (some ⟨q, 2, none⟩)] 73) = WA at *
              generalize wr.heap.size = g5 at *
              have HO3 := Lib.hid hO3
              clear hO3 HO2
              obtain ⟨b, off, rfl, hb, hcell⟩ := hsA.at (k := 1) (by omega)
              obtain ⟨p0, p1, -, -⟩ := cells_2f hpt
              have HPT := Lib.hid hpt
              clear hsA hpt
              unfold strV at hcell
              have hsz1 : (⟨(getW ws 1).toArray⟩ : ByteArray).size ≤ 281474976710656 := by rw [ba_size]; have := HSZ.out 1; omega
              have hnum := fun W hW => number_any (⟨(getW ws 1).toArray⟩ : ByteArray) W hsz1 hW
              have HD1 : Hid ((⟨(getW ws 1).toArray⟩ : ByteArray).data.toList = getW ws 1) := Lib.hid (by simp)
              generalize (⟨(getW ws 1).toArray⟩ : ByteArray) = sx1 at *
              refine wp_loop_rounds 3 ?_
              rw [rounds_succ]
              go_wp2_with fail
              refine (hnum _ (HL.out.keep HO3.out.kp)).mono ?_
              clear hnum p0 p1
              rintro e w2 ⟨k2, hto⟩
              rw [HD1.out] at hto
              have HO4 := Lib.hid (HO3.out.keep k2)
              have HPT2 := Lib.hid (k2.heap HPT.out id)
              clear HO3 k2 hcell HPT
              obtain ⟨z0, z1, z2, z3, z4, f0, f1, f2, f3, f4⟩ := cells_5f HO4.out.op
              obtain ⟨y0, y1, y2, y3, y4, e0, e1, e2, e3, e4⟩ := cells_5f HO4.out.res
              rcases hto with ⟨x1, hx, rfl⟩ | ⟨hx, v, rfl⟩
              case inr =>
                have HX := Lib.hid hx
                clear hx
                go_wp2_with fail
                try simp only [Exit.noGoto, Exit.inBlock, Exit.then]
                exact bodyPost_ret (op_results _ _ r op0 21 rfl rfl (putOp_heap op0 HO4.out.res)) rfl (OpTo.mk' (by rw [HRA.out, HX.out]) rfl (putOp_kp HO4.out.kp HQ.out.2.2 op0))
              have hrb1 := HRA.out
              rw [hx] at hrb1
              simp only [] at hrb1
              have Hhrb1 := Lib.hid hrb1
              clear hx y0 y1 y2 y3 y4 e0 e1 e2 e3 e4 hrb1 HRA
              have HO5 : Hid (OpSt w r q ⟨kd, x1, 0, 0, 0⟩ (w2.setCell ⟨q, 1, none⟩ (.int .i64 x1))) := Lib.hid (HO4.out.set HQ.out.1 HQ.out.2.1 1 _ rfl (by decide))
              have HPT : Hid ((w2.setCell ⟨q, 1, none⟩ (.int .i64 x1)).heap[g5]? = _) := Lib.hid (set_off HPT2.out (by have := HNQ.out; omega) 1 (.int .i64 x1))
              go_wp2_with fail
              clear z0 z1 z2 z3 z4 f0 f1 f2 f3 f4 HO4 HPT2
              generalize w2.setCell ⟨q, 1, none⟩ (.int .i64 x1) = w3 at *
              obtain ⟨b2, off2, he2, hb2, hcell⟩ := (HS.out.keep HO5.out.kp).at (k := 2) (by omega)
              obtain ⟨rfl, rfl⟩ : b = b2 ∧ off = off2 := by simpa using he2
              clear he2
              unfold strV at hcell
              obtain ⟨p0, p1, -, -⟩ := cells_2f HPT.out
              have hsz2 : (⟨(getW ws 2).toArray⟩ : ByteArray).size ≤ 281474976710656 := by rw [ba_size]; have := HSZ.out 2; omega
              have hnum := fun W hW => number_any (⟨(getW ws 2).toArray⟩ : ByteArray) W hsz2 hW
              have HD2 : Hid ((⟨(getW ws 2).toArray⟩ : ByteArray).data.toList = getW ws 2) := Lib.hid (by simp)
              generalize (⟨(getW ws 2).toArray⟩ : ByteArray) = sx2 at *
              rw [rounds_succ]
              go_wp2_with fail
              refine (hnum _ (HL.out.keep HO5.out.kp)).mono ?_
              clear hnum p0 p1
              rintro e w2 ⟨k2, hto⟩
              rw [HD2.out] at hto
              have HO4 := Lib.hid (HO5.out.keep k2)
              have HPT2 := Lib.hid (k2.heap HPT.out id)
              clear HO5 k2 hcell HPT
              obtain ⟨z0, z1, z2, z3, z4, f0, f1, f2, f3, f4⟩ := cells_5f HO4.out.op
              obtain ⟨y0, y1, y2, y3, y4, e0, e1, e2, e3, e4⟩ := cells_5f HO4.out.res
              rcases hto with ⟨x2, hx, rfl⟩ | ⟨hx, v, rfl⟩
              case inr =>
                have HX := Lib.hid hx
                clear hx
                go_wp2_with fail
                try simp only [Exit.noGoto, Exit.inBlock, Exit.then]
                exact bodyPost_ret (op_results _ _ r op0 21 rfl rfl (putOp_heap op0 HO4.out.res)) rfl (OpTo.mk' (by rw [Hhrb1.out, HX.out]) rfl (putOp_kp HO4.out.kp HQ.out.2.2 op0))
              have hrb2 := Hhrb1.out
              rw [hx] at hrb2
              simp only [] at hrb2
              have Hhrb2 := Lib.hid hrb2
              clear hx y0 y1 y2 y3 y4 e0 e1 e2 e3 e4 hrb2 Hhrb1
              have HO5b : Hid (OpSt w r q ⟨kd, x1, x2, 0, 0⟩ (w2.setCell ⟨q, 2, none⟩ (.int .i64 x2))) := Lib.hid (HO4.out.set HQ.out.1 HQ.out.2.1 2 _ rfl (by decide))
              have HPT : Hid ((w2.setCell ⟨q, 2, none⟩ (.int .i64 x2)).heap[g5]? = _) := Lib.hid (set_off HPT2.out (by have := HNQ.out; omega) 2 (.int .i64 x2))
              go_wp2_with fail
              clear z0 z1 z2 z3 z4 f0 f1 f2 f3 f4 HO4 HPT2
              generalize w2.setCell ⟨q, 2, none⟩ (.int .i64 x2) = w4 at *
              have HREND := Hhrb2
              clear Hhrb2
              have HOE : Hid (opF ws = opEnd ws kd x1 x2) := Lib.hid (HREND.out)
              have HEE : Hid (opF ws = if okOp ⟨kd, x1, x2, 0, 0⟩ = true then (⟨kd, x1, x2, 0, 0⟩, 0) else (op0, 22)) := Lib.hid (by
                rw [HOE.out]; unfold opEnd; rw [if_neg (by rw [HZ.out]; simp)])
              obtain ⟨z0, z1, z2, z3, z4, f0, f1, f2, f3, f4⟩ := cells_5f HO5b.out.op
              rw [rounds_succ]
              go_wp2_with fail
              refine (check_any ⟨kd, x1, x2, 0, 0⟩ _).mono ?_
              rintro e w8 ⟨rfl, k8⟩
              have HO8 := Lib.hid (HO5b.out.keep k8)
              clear z0 z1 z2 z3 z4 f0 f1 f2 f3 f4 k8
              obtain ⟨z0, z1, z2, z3, z4, f0, f1, f2, f3, f4⟩ := cells_5f HO8.out.op
              obtain ⟨y0, y1, y2, y3, y4, e0, e1, e2, e3, e4⟩ := cells_5f HO8.out.res
              cases hok : okOp ⟨kd, x1, x2, 0, 0⟩
              · have HKO := Lib.hid hok
                clear hok
                go_wp2_with fail
                exact bodyPost_ret (op_results _ _ r op0 22 rfl rfl (putOp_heap op0 HO8.out.res)) rfl (OpTo.mk' (by rw [HEE.out, HKO.out]; rfl) rfl (putOp_kp HO8.out.kp HQ.out.2.2 op0))
              · have HKO := Lib.hid hok
                clear hok
                go_wp2_with fail
                exact bodyPost_ret (op_results _ _ r ⟨kd, x1, x2, 0, 0⟩ 0 rfl rfl (putOp_heap ⟨kd, x1, x2, 0, 0⟩ HO8.out.res)) rfl (OpTo.mk' (by rw [HEE.out, HKO.out]; rfl) rfl (putOp_kp HO8.out.kp HQ.out.2.2 ⟨kd, x1, x2, 0, 0⟩))
            · rw [hh3] at htk hlen
              simp only [if_true] at hlen
              subst hlen
              have HZ := Lib.hid hh3
              have HTW := Lib.hid hh2
              clear hnk hh2 hh3 HOR
              go_wp2_with (go_at_call 26; refine (htk _).mono ?_; rintro e w' ⟨rfl, hw⟩; rw [hw]; clear hw)
              have hO3 := HO2.out.keep ((Kp.refl Noone wr).alloc (.cells #[.pointer (some ⟨q, 1, none⟩), .pointer (some ⟨q, 2, none⟩)] 73))
              have hpt := heap_alloc_new wr (.cells #[.pointer (some ⟨q, 1, none⟩), .pointer (some ⟨q, 2, none⟩)] 73)
              have HNQ : Hid (q ≠ wr.heap.size) := Lib.hid (by have := (Array.getElem?_eq_some_iff.1 HO2.out.op).1; omega)
              have hsA := HS.out.keep hO3.kp
              clear z0 z1 z2 z3 z4 f0 f1 f2 f3 f4 y0 y1 y2 y3 y4 e0 e1 e2 e3 e4 htk
              generalize wr.alloc (.cells #[.pointer (some ⟨q, 1, none⟩), .pointer (some ⟨q, 2, none⟩)] 73) = WA at *
              generalize wr.heap.size = g5 at *
              have HO3 := Lib.hid hO3
              clear hO3 HO2
              obtain ⟨b, off, rfl, hb, hcell⟩ := hsA.at (k := 1) (by omega)
              obtain ⟨p0, p1, -, -⟩ := cells_2f hpt
              have HPT := Lib.hid hpt
              clear hsA hpt
              unfold strV at hcell
              have hsz1 : (⟨(getW ws 1).toArray⟩ : ByteArray).size ≤ 281474976710656 := by rw [ba_size]; have := HSZ.out 1; omega
              have hnum := fun W hW => number_any (⟨(getW ws 1).toArray⟩ : ByteArray) W hsz1 hW
              have HD1 : Hid ((⟨(getW ws 1).toArray⟩ : ByteArray).data.toList = getW ws 1) := Lib.hid (by simp)
              generalize (⟨(getW ws 1).toArray⟩ : ByteArray) = sx1 at *
              refine wp_loop_rounds 3 ?_
              rw [rounds_succ]
              go_wp2_with fail
              refine (hnum _ (HL.out.keep HO3.out.kp)).mono ?_
              clear hnum p0 p1
              rintro e w2 ⟨k2, hto⟩
              rw [HD1.out] at hto
              have HO4 := Lib.hid (HO3.out.keep k2)
              have HPT2 := Lib.hid (k2.heap HPT.out id)
              clear HO3 k2 hcell HPT
              obtain ⟨z0, z1, z2, z3, z4, f0, f1, f2, f3, f4⟩ := cells_5f HO4.out.op
              obtain ⟨y0, y1, y2, y3, y4, e0, e1, e2, e3, e4⟩ := cells_5f HO4.out.res
              rcases hto with ⟨x1, hx, rfl⟩ | ⟨hx, v, rfl⟩
              case inr =>
                have HX := Lib.hid hx
                clear hx
                go_wp2_with fail
                try simp only [Exit.noGoto, Exit.inBlock, Exit.then]
                exact bodyPost_ret (op_results _ _ r op0 21 rfl rfl (putOp_heap op0 HO4.out.res)) rfl (OpTo.mk' (by rw [HRA.out, HX.out]) rfl (putOp_kp HO4.out.kp HQ.out.2.2 op0))
              have hrb1 := HRA.out
              rw [hx] at hrb1
              simp only [] at hrb1
              have Hhrb1 := Lib.hid hrb1
              clear hx y0 y1 y2 y3 y4 e0 e1 e2 e3 e4 hrb1 HRA
              have HO5 : Hid (OpSt w r q ⟨kd, x1, 0, 0, 0⟩ (w2.setCell ⟨q, 1, none⟩ (.int .i64 x1))) := Lib.hid (HO4.out.set HQ.out.1 HQ.out.2.1 1 _ rfl (by decide))
              have HPT : Hid ((w2.setCell ⟨q, 1, none⟩ (.int .i64 x1)).heap[g5]? = _) := Lib.hid (set_off HPT2.out (by have := HNQ.out; omega) 1 (.int .i64 x1))
              go_wp2_with fail
              clear z0 z1 z2 z3 z4 f0 f1 f2 f3 f4 HO4 HPT2
              generalize w2.setCell ⟨q, 1, none⟩ (.int .i64 x1) = w3 at *
              obtain ⟨b2, off2, he2, hb2, hcell⟩ := (HS.out.keep HO5.out.kp).at (k := 2) (by omega)
              obtain ⟨rfl, rfl⟩ : b = b2 ∧ off = off2 := by simpa using he2
              clear he2
              unfold strV at hcell
              obtain ⟨p0, p1, -, -⟩ := cells_2f HPT.out
              have hsz2 : (⟨(getW ws 2).toArray⟩ : ByteArray).size ≤ 281474976710656 := by rw [ba_size]; have := HSZ.out 2; omega
              have hnum := fun W hW => number_any (⟨(getW ws 2).toArray⟩ : ByteArray) W hsz2 hW
              have HD2 : Hid ((⟨(getW ws 2).toArray⟩ : ByteArray).data.toList = getW ws 2) := Lib.hid (by simp)
              generalize (⟨(getW ws 2).toArray⟩ : ByteArray) = sx2 at *
              rw [rounds_succ]
              go_wp2_with fail
              refine (hnum _ (HL.out.keep HO5.out.kp)).mono ?_
              clear hnum p0 p1
              rintro e w2 ⟨k2, hto⟩
              rw [HD2.out] at hto
              have HO4 := Lib.hid (HO5.out.keep k2)
              have HPT2 := Lib.hid (k2.heap HPT.out id)
              clear HO5 k2 hcell HPT
              obtain ⟨z0, z1, z2, z3, z4, f0, f1, f2, f3, f4⟩ := cells_5f HO4.out.op
              obtain ⟨y0, y1, y2, y3, y4, e0, e1, e2, e3, e4⟩ := cells_5f HO4.out.res
              rcases hto with ⟨x2, hx, rfl⟩ | ⟨hx, v, rfl⟩
              case inr =>
                have HX := Lib.hid hx
                clear hx
                go_wp2_with fail
                try simp only [Exit.noGoto, Exit.inBlock, Exit.then]
                exact bodyPost_ret (op_results _ _ r op0 21 rfl rfl (putOp_heap op0 HO4.out.res)) rfl (OpTo.mk' (by rw [Hhrb1.out, HX.out]) rfl (putOp_kp HO4.out.kp HQ.out.2.2 op0))
              have hrb2 := Hhrb1.out
              rw [hx] at hrb2
              simp only [] at hrb2
              have Hhrb2 := Lib.hid hrb2
              clear hx y0 y1 y2 y3 y4 e0 e1 e2 e3 e4 hrb2 Hhrb1
              have HO5b : Hid (OpSt w r q ⟨kd, x1, x2, 0, 0⟩ (w2.setCell ⟨q, 2, none⟩ (.int .i64 x2))) := Lib.hid (HO4.out.set HQ.out.1 HQ.out.2.1 2 _ rfl (by decide))
              have HPT : Hid ((w2.setCell ⟨q, 2, none⟩ (.int .i64 x2)).heap[g5]? = _) := Lib.hid (set_off HPT2.out (by have := HNQ.out; omega) 2 (.int .i64 x2))
              go_wp2_with fail
              clear z0 z1 z2 z3 z4 f0 f1 f2 f3 f4 HO4 HPT2
              generalize w2.setCell ⟨q, 2, none⟩ (.int .i64 x2) = w4 at *
              have HREND := Hhrb2
              clear Hhrb2
              obtain ⟨bz, offz, hez, hbz, hcell⟩ := (HS.out.keep HO5b.out.kp).at (k := 3) (by omega)
              obtain ⟨rfl, rfl⟩ : b = bz ∧ off = offz := by simpa using hez
              clear hez
              unfold strV at hcell
              have hszz : (⟨(getW ws 3).toArray⟩ : ByteArray).size ≤ 9223372036854775806 := by rw [ba_size]; have := HSZ.out 3; omega
              have hrd := fun W hW => readF_any (⟨(getW ws 3).toArray⟩ : ByteArray) W hszz hW
              have HDZ : Hid ((⟨(getW ws 3).toArray⟩ : ByteArray).data.toList = getW ws 3) := Lib.hid (by simp)
              generalize (⟨(getW ws 3).toArray⟩ : ByteArray) = sz at *
              have HOE : Hid (opF ws = opEnd ws kd x1 x2) := Lib.hid (HREND.out)
              obtain ⟨z0, z1, z2, z3, z4, f0, f1, f2, f3, f4⟩ := cells_5f HO5b.out.op
              rw [rounds_succ]
              go_wp2_with fail
              refine (hrd _ (HL.out.keep HO5b.out.kp)).mono ?_
              clear hrd
              rintro e w5 hto
              have hto2 := hto.is
              have HO6 := Lib.hid (HO5b.out.keep hto.ex)
              rw [HDZ.out] at hto2
              clear hto z0 z1 z2 z3 z4 f0 f1 f2 f3 f4 hcell HDZ
              have HWI : Hid (wantOf kd - 1 = 3) := Lib.hid (by simp [wantOf, HTW.out, HZ.out, numsOf])
              obtain ⟨z0, z1, z2, z3, z4, f0, f1, f2, f3, f4⟩ := cells_5f HO6.out.op
              obtain ⟨y0, y1, y2, y3, y4, e0, e1, e2, e3, e4⟩ := cells_5f HO6.out.res
              rcases gaussF_cases (getW ws 3) with ⟨zn, zm, eg, hrb, -⟩ | eg | eg
              case inr.inl =>
                rw [eg, readT_zero] at hto2
                have HEG := Lib.hid eg
                clear eg
                subst hto2
                go_wp2_with fail
                exact bodyPost_ret (op_results _ _ r op0 21 rfl rfl (putOp_heap op0 HO6.out.res)) rfl (OpTo.mk' (by rw [HOE.out]; unfold opEnd; rw [if_pos HZ.out, HWI.out, HEG.out]; rfl) rfl (putOp_kp HO6.out.kp HQ.out.2.2 op0))
              case inr.inr =>
                rw [eg, readT_zero] at hto2
                have HEG := Lib.hid eg
                clear eg
                subst hto2
                go_wp2_with fail
                exact bodyPost_ret (op_results _ _ r op0 20 rfl rfl (putOp_heap op0 HO6.out.res)) rfl (OpTo.mk' (by rw [HOE.out]; unfold opEnd; rw [if_pos HZ.out, HWI.out, HEG.out]; rfl) rfl (putOp_kp HO6.out.kp HQ.out.2.2 op0))
              rw [eg] at hto2
              unfold readT at hto2
              simp only [] at hto2
              subst hto2
              have b1 := rB_bound hrb
              have fn := fi_of zn (by omega)
              have fm := fi_of zm (by omega)
              have HRB := Lib.hid hrb
              have HEE : Hid (opF ws = if okOp ⟨kd, x1, x2, zn, zm⟩ = true then (⟨kd, x1, x2, zn, zm⟩, 0) else (op0, 22)) := Lib.hid (by
                rw [HOE.out]; unfold opEnd; rw [if_pos HZ.out, HWI.out, eg]; simp only [if_true])
              clear hrb eg HOE y0 y1 y2 y3 y4 e0 e1 e2 e3 e4
              go_wp2_with fail
              refine (parts_any _ _ zn zm _ fn fm (by omega) (by omega)).mono ?_
              rintro e w6 ⟨rfl, hw6⟩
              subst hw6
              rw [partsT_in HRB.out]
              have HO7 : Hid (OpSt w r q ⟨kd, x1, x2, zn, zm⟩ ((w5.setCell ⟨q, 3, none⟩ (.int .i64 zn)).setCell ⟨q, 4, none⟩ (.int .i64 zm))) :=
                Lib.hid ((HO6.out.set (o' := ⟨kd, x1, x2, zn, 0⟩) HQ.out.1 HQ.out.2.1 3 _ rfl (by decide)).set HQ.out.1 HQ.out.2.1 4 _ rfl (by decide))
              go_upto_region 30 with fail
              clear z0 z1 z2 z3 z4 f0 f1 f2 f3 f4 HO6 fn fm b1
              generalize ((w5.setCell ⟨q, 3, none⟩ (.int .i64 zn)).setCell ⟨q, 4, none⟩ (.int .i64 zm)) = w7 at *
              obtain ⟨z0, z1, z2, z3, z4, f0, f1, f2, f3, f4⟩ := cells_5f HO7.out.op
              go_wp2_with fail
              refine (check_any ⟨kd, x1, x2, zn, zm⟩ _).mono ?_
              rintro e w8 ⟨rfl, k8⟩
              have HO8 := Lib.hid (HO7.out.keep k8)
              clear z0 z1 z2 z3 z4 f0 f1 f2 f3 f4 k8
              obtain ⟨z0, z1, z2, z3, z4, f0, f1, f2, f3, f4⟩ := cells_5f HO8.out.op
              obtain ⟨y0, y1, y2, y3, y4, e0, e1, e2, e3, e4⟩ := cells_5f HO8.out.res
              cases hok : okOp ⟨kd, x1, x2, zn, zm⟩
              · have HKO := Lib.hid hok
                clear hok
                go_wp2_with fail
                exact bodyPost_ret (op_results _ _ r op0 22 rfl rfl (putOp_heap op0 HO8.out.res)) rfl (OpTo.mk' (by rw [HEE.out, HKO.out]; rfl) rfl (putOp_kp HO8.out.kp HQ.out.2.2 op0))
              · have HKO := Lib.hid hok
                clear hok
                go_wp2_with fail
                exact bodyPost_ret (op_results _ _ r ⟨kd, x1, x2, zn, zm⟩ 0 rfl rfl (putOp_heap ⟨kd, x1, x2, zn, zm⟩ HO8.out.res)) rfl (OpTo.mk' (by rw [HEE.out, HKO.out]; rfl) rfl (putOp_kp HO8.out.kp HQ.out.2.2 ⟨kd, x1, x2, zn, zm⟩))

end Go.Proofs.YtfinbppmkffbhaaDoor
