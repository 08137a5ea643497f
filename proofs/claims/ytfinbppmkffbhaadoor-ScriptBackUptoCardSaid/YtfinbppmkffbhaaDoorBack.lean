/-
  WALK of ScriptBack: a command comes back from its line; a line that is read is what would be written.
-/
import Derived.Test.YtfinbppmkffbhaaDoorCopiedW
import Derived.Test.YtfinbppmkffbhaaDoorRefSplit
namespace Go.Proofs.YtfinbppmkffbhaaDoor
open Go.RowKit Go.Sort

def cmdA (c : CmdV) (l : Loc) : Value := .agg #[.string ⟨c.verb.toArray⟩, .slice l.no c.nums.length l.nc, .int .i64 c.op.kind, .int .i64 c.op.reg, .int .i64 c.op.to, .int .i64 c.op.re, .int .i64 c.op.im, .slice l.bo c.data.length l.bc]
theorem cmdA_eq (c : CmdV) (l : Loc) : cmdV c l = cmdA c l := rfl
theorem wordsW_len2 (o : OpV) : 2 ≤ (wordsW o).length := by unfold wordsW; simp
theorem str_back (s : ByteArray) : (⟨s.data.toList.toArray⟩ : ByteArray) = s := by simp
set_option maxHeartbeats 8000000 in
set_option maxRecDepth 100000 in
theorem back_walk (c : CmdV) (l : Loc) (s : ByteArray) (w : World) (hA : CmdAt w c l) (hs : s.size ≤ 4194304) (hln : (lineF c).1.length ≤ 4194304) (hL : LaidS w) :
    Calls Tryd.prog 4 #[cmdV c l, .string s] w fun e w' => e = .returned (.bool true) ∧ Kp Noone w w' := by
  have HL := Lib.hid hL
  have HA := Lib.hid hA
  have hk0 : Kp Noone w (w.alloc (.cells (cmdCs c l) 27)) := (Kp.refl _ _).alloc _
  have HK0 := Lib.hid hk0
  have HB0 := Lib.hid (heap_alloc_new w (.cells (cmdCs c l) 27))
  have hcp := fun W hW => copied_any c l W hW
  have HSM := Lib.hid (fun (la : Loc) W h1 h2 => same_ref c la l W h1 h2)
  clear hL hA hk0
  rw [cmdA_eq] at hcp ⊢
  unfold cmdA at hcp ⊢
  simp only [cmdCs, strV] at HB0 HK0
  obtain ⟨i0, hi, hz0, hz1, hz2⟩ := info_parts (P := Tryd.prog) (e := 9) (z := .string .empty) (size := 1) (bytes := 16) (by kernel_rfl)
  go_enter Tryd.func4, Tryd.ntmps4
  go_upto_region 1 with fail
  generalize w.alloc (.cells #[.string ⟨c.verb.toArray⟩, .slice l.no c.nums.length l.nc, .int .i64 c.op.kind, .int .i64 c.op.reg, .int .i64 c.op.to, .int .i64 c.op.re, .int .i64 c.op.im, .slice l.bo c.data.length l.bc] 27) = w0 at *
  generalize hgs : w.heap.size = g at *
  clear hgs
  go_wp2_with fail
  refine (head_any _ (HL.out.keep HK0.out)).mono ?_
  rintro e w1 ⟨rfl, k1⟩
  have HK1 := Lib.hid (HK0.out.trans k1)
  have HB1 := Lib.hid (k1.heap HB0.out id)
  clear k1 HK0 HB0
  go_upto_region 3 with fail
  obtain ⟨z0, z1, z2, z3, z4, z5, z6, z7⟩ := cells_8f HB1.out
  go_wp2_with fail
  clear z0 z1 z2 z3 z4 z5 z6 z7
  refine (hcp _ (HA.out.keep HK1.out)).mono ?_
  clear hcp
  rintro e w2 ⟨k2, l2, rfl, hc2⟩
  have HK2 := Lib.hid (HK1.out.trans k2)
  have HB2 := Lib.hid (k2.heap HB1.out id)
  have hla := fun W hC hL => line_any c l2 W hC hL
  have HC2 := Lib.hid hc2
  clear k2 HB1 hc2
  generalize cmdV c l2 = V2 at *
  go_wp2_with fail
  refine (hla _ HC2.out (HL.out.keep HK2.out).laid).mono ?_
  clear hla
  rintro e w3 ⟨rfl, k3⟩
  have HK3 := Lib.hid (HK2.out.trans k3)
  have HB3 := Lib.hid (k3.heap HB2.out id)
  clear k3 HB2 HC2
  obtain ⟨⟨sl, f0⟩, hlf⟩ : ∃ x, lineF c = x := ⟨_, rfl⟩
  have hlv : lineV c = .tuple #[.string ⟨sl.toArray⟩, .int .i64 f0] := by unfold lineV strV; rw [hlf]
  rw [hlv]
  rw [hlf] at hln
  clear hlv
  by_cases hf0 : f0 = 0
  case' neg =>
    clear hlf hln
    go_upto_region 8 with fail
  case' pos =>
    subst hf0
    have HRD := Lib.hid (read_line hlf HA.out.nb)
    have hsz : (⟨sl.toArray⟩ : ByteArray).size ≤ 4194304 := by rw [ba_size]; exact hln
    have hrl := fun W hW => readL_any (⟨sl.toArray⟩ : ByteArray) W hsz hW
    have hsd : (⟨sl.toArray⟩ : ByteArray).data.toList = sl := by simp
    rw [hsd] at hrl
    clear hsd hln hlf
    generalize (⟨sl.toArray⟩ : ByteArray) = sb at *
    go_wp2_with fail
    refine (hrl _ (HL.out.keep HK3.out)).mono ?_
    clear hrl
    rintro e w4 ⟨k4, l4, hto, hci⟩
    rw [HRD.out] at hto hci
    have hto2 : e = .returned (.tuple #[cmdA c l4, .int .i64 0]) := hto
    subst hto2
    unfold cmdA
    have HK4 := Lib.hid (HK3.out.trans k4)
    have hb4 := k4.heap HB3.out id
    have HC4 := Lib.hid hci.at
    clear hto k4 hci HB3
    have hbn := heap_alloc_new w4 (.cells (cmdCs c l4) 27)
    have hkn : Kp Noone w4 (w4.alloc (.cells (cmdCs c l4) 27)) := (Kp.refl _ _).alloc _
    have HKN := Lib.hid hkn
    have hb5 := hkn.heap hb4 id
    simp only [cmdCs, strV] at hbn HKN hb5
    clear hkn
    go_upto_region 6 with fail
    generalize w4.alloc (.cells #[.string ⟨c.verb.toArray⟩, .slice l4.no c.nums.length l4.nc, .int .i64 c.op.kind, .int .i64 c.op.reg, .int .i64 c.op.to, .int .i64 c.op.re, .int .i64 c.op.im, .slice l4.bo c.data.length l4.bc] 27) = w5 at *
    generalize hgs : w4.heap.size = g4 at *
    clear hgs hb4
    have HB5 := Lib.hid hb5
    obtain ⟨z0, z1, z2, z3, z4, z5, z6, z7⟩ := cells_8f hbn
    obtain ⟨y0, y1, y2, y3, y4, y5, y6, y7⟩ := cells_8f hb5
    have hsm := HSM.out l4
    rw [cmdA_eq, cmdA_eq] at hsm
    unfold cmdA at hsm
    clear hbn hb5
    go_wp2_with fail
    refine (hsm _ (HC4.out.keep HKN.out) (HA.out.keep (HK4.out.trans HKN.out))).mono ?_
    clear hsm
    rintro e w3 ⟨rfl, k3⟩
    have HK3 := Lib.hid ((HK4.out.trans HKN.out).trans k3)
    clear k3 z0 z1 z2 z3 z4 z5 z6 z7 y0 y1 y2 y3 y4 y5 y6 y7
    go_upto_region 8 with fail
  all_goals (
    have hrl := fun W hW => readL_any s W hs hW
    have HLR := Lib.hid (fun (x : CmdV) (h : readF s.data.toList = (x, 0)) => line_read h)
    have HRB := Lib.hid (@readF_bad s.data.toList)
    go_wp2_with fail
    refine (hrl _ (HL.out.keep HK3.out)).mono ?_
    clear hrl
    rintro e w6 ⟨k6, l6, hto, hci⟩
    have HK6 := Lib.hid (HK3.out.trans k6)
    obtain ⟨⟨d, f⟩, hrf⟩ : ∃ x, readF s.data.toList = x := ⟨_, rfl⟩
    rw [hrf] at hto hci HRB
    have HC6 := Lib.hid hci.at
    clear k6 hci
    simp only [] at hto HC6 HRB
    have hbn := heap_alloc_new w6 (.cells (cmdCs d l6) 27)
    have HKN : Hid (Kp Noone w6 (w6.alloc (.cells (cmdCs d l6) 27))) := Lib.hid ((Kp.refl _ _).alloc _)
    have hsm := fun W h1 h2 => same_ref cmd0 l6 loc0 W h1 h2
    have hto2 : e = .returned (.tuple #[cmdA d l6, .int .i64 f]) := hto
    subst hto2
    unfold cmdA
    clear hto
    by_cases hf : f = 0
    case neg =>
      obtain ⟨rfl, hcode⟩ := HRB.out hf
      rw [cmdA_eq, cmdA_eq] at hsm
      simp only [cmdA, cmdCs, strV, cmd0, op0, loc0, List.length_nil] at hsm hbn HKN ⊢
      clear hrf HRB
      go_upto_region 9 with fail
      generalize w6.alloc (.cells #[.string ⟨#[]⟩, .slice l6.no 0 l6.nc, .int .i64 0, .int .i64 0, .int .i64 0, .int .i64 0, .int .i64 0, .slice l6.bo 0 l6.bc] 27) = w7 at *
      generalize hgs : w6.heap.size = g6 at *
      clear hgs
      obtain ⟨z0, z1, z2, z3, z4, z5, z6, z7⟩ := cells_8f hbn
      clear hbn
      go_upto_region 10 with fail
      go_wp2_with fail
      refine (hsm _ (HC6.out.keep HKN.out) (CmdAt.zero _)).mono ?_
      clear hsm
      rintro e w8 ⟨rfl, k8⟩
      have HK8 := Lib.hid ((HK6.out.trans HKN.out).trans k8)
      clear k8 z0 z1 z2 z3 z4 z5 z6 z7
      rcases hcode with rfl | rfl | rfl | rfl
      all_goals (
        clear hf
        go_wp2_with fail
        go_ret
        exact ⟨rfl, HK8.out⟩)
    case pos =>
      subst hf
      obtain ⟨hlf2, -, hop, -⟩ := HLR.out d hrf
      have hla2 := fun W hC hL => line_any d l6 W hC hL
      have hlv2 : lineV d = .tuple #[.string s, .int .i64 0] := by
        unfold lineV strV
        rw [hlf2]
      rw [hlv2, cmdA_eq] at hla2
      unfold cmdA at hla2
      have HOP := Lib.hid hop
      have hsr : ∀ W, Calls Tryd.prog 16 #[.string s, .int .u8 32] W fun e w' => SplitO s.data.toList 32 W e w' := fun W => split_ref s 32 W hs
      have HWL : Hid (∀ x ∈ splitF 32 s.data.toList, x.length ≤ 4194304) := Lib.hid (fun x hx => by
        have h1 := split_sub 32 _ x hx
        rw [ba_len] at h1
        omega)
      simp only [cmdCs, strV] at hbn HKN
      clear hsm hlv2 hlf2 hop hrf HRB HLR
      go_upto_region 9 with fail
      generalize w6.alloc (.cells #[.string ⟨d.verb.toArray⟩, .slice l6.no d.nums.length l6.nc, .int .i64 d.op.kind, .int .i64 d.op.reg, .int .i64 d.op.to, .int .i64 d.op.re, .int .i64 d.op.im, .slice l6.bo d.data.length l6.bc] 27) = w7 at *
      generalize hgs : w6.heap.size = g6 at *
      clear hgs
      have HBN := Lib.hid hbn
      obtain ⟨z0, z1, z2, z3, z4, z5, z6, z7⟩ := cells_8f hbn
      clear hbn
      go_wp2_with fail
      refine (hla2 _ (HC6.out.keep HKN.out) (HL.out.keep (HK6.out.trans HKN.out)).laid).mono ?_
      clear hla2 z0 z1 z2 z3 z4 z5 z6 z7
      rintro e w8 ⟨rfl, k8⟩
      have HK8 := Lib.hid ((HK6.out.trans HKN.out).trans k8)
      have hb8 := k8.heap HBN.out id
      obtain ⟨z0, z1, z2, z3, z4, z5, z6, z7⟩ := cells_8f hb8
      have HB8 := Lib.hid hb8
      have HSV : Hid ((⟨d.verb.toArray⟩ : ByteArray).data.toList = d.verb) := Lib.hid (by simp)
      clear k8 HBN hb8 z1 z2 z3 z4 z5 z6 z7
      generalize (⟨d.verb.toArray⟩ : ByteArray) = sw at *
      by_cases hask : d.verb = vAsk
      case neg =>
        have q1 : (sw.toList == [97, 115, 107]) = false := str_ne sw _ (by rw [HSV.out]; exact hask)
        clear hask
        go_wp2_with fail
        go_ret
        exact ⟨rfl, HK8.out⟩
      case pos =>
        have q1 : (sw.toList == [97, 115, 107]) = true := str_eq sw _ (by rw [HSV.out]; exact hask)
        have hop := HOP.out hask
        have hl3 : 3 ≤ (splitF 32 s.data.toList).length := by
          rcases Nat.lt_or_ge (splitF 32 s.data.toList).length 3 with h | h
          · exfalso
            have h2 := (words_opF hop).2
            have h3 := congrArg List.length h2
            rw [List.length_drop] at h3
            have h4 := wordsW_len2 d.op
            omega
          · exact h
        have HOP2 := Lib.hid hop
        clear hask HOP hop
        go_wp2_with fail
        refine (hsr _).mono ?_
        clear hsr
        rintro e w9 ⟨k9, ao9, cap9, rfl, hss⟩
        have HK9 := Lib.hid (HK8.out.trans k9)
        have HB9 := Lib.hid (k9.heap HB8.out id)
        clear k9 z0 q1
        have hwn : (splitF 32 s.data.toList).length ≤ 4194305 := by
          rw [split_len]
          have h1 := List.count_le_length (a := (32 : UInt8)) (l := s.data.toList)
          rw [ba_len] at h1
          omega
        generalize splitF 32 s.data.toList = ws at *
        have hcl := hss.le
        obtain ⟨b9, off9, rfl, -, -⟩ := hss.at (show 0 < ws.length by omega)
        have hsub := hss.sub 2 ws.length (by omega) (Nat.le_refl _)
        rw [if_neg (by omega), List.take_length] at hsub
        have HSUB : Hid (SS w9 (some ⟨b9, off9 + 2, none⟩) (ws.length - 2) (cap9 - 2) (ws.drop 2)) := Lib.hid hsub
        have hwl2 : ∀ x ∈ ws.drop 2, x.length ≤ 4194304 := fun x hx => HWL.out x (List.mem_of_mem_drop hx)
        have HW2 := Lib.hid hwl2
        obtain ⟨n, hn⟩ : ∃ n, ws.length = n := ⟨_, rfl⟩
        rw [hn] at HSUB hl3 hcl hwn ⊢
        have hc2 : ¬ cap9 = 2 := by omega
        have hn2 : 2 ≤ n := by omega
        have hn2z : (2 : Int) ≤ (n : Int) := by omega
        have hc2z : (2 : Int) ≤ (cap9 : Int) := by omega
        clear hss hsub hwl2 hn HWL
        generalize ws.drop 2 = ws2 at *
        go_upto_region 17 with fail
        have kE : Kp Noone w9 (w9.alloc (.cells #[] 9)) := (Kp.refl _ _).alloc _
        have KE := Lib.hid kE
        have HROW := Lib.hid (HSUB.out.keep kE).row
        have hsl2 : (sv ws2).length = (n - 2) * 1 := by unfold Go.Proofs.YtfinbppmkffbhaaDoor.sv; rw [List.length_map, HSUB.out.len, Nat.mul_one]
        clear kE
        go_wp2_with (at_builtin; refine wpList_append_gen _ rfl (.tmp 83) (.tmp 85) 41 rfl 9 i0 (.string .empty) 1 16 Tryd.underlying41 hi hz0 hz1 hz2 rfl _ 0 0 rfl (some ⟨b9, off9 + 2, none⟩) (n - 2) (cap9 - 2) (by rfl) Noone [] (Own.nil _ _ _ _ _) (sv ws2) hsl2 HROW.out (sv_one _) (by omega) (by unfold maxLen; omega) ?_)
        intro ao10 cap10 w10 ho10 hk10
        have HS10 : Hid (SS w10 ao10 (n - 2) cap10 ws2) := Lib.hid ho10.ss
        have HK10 := Lib.hid (HK9.out.trans (KE.out.trans hk10))
        have HB10 := Lib.hid ((KE.out.trans hk10).heap HB9.out id)
        have hoa := fun W hS hL => op_any ao10 (n - 2) cap10 ws2 W hS HW2.out hL
        clear ho10 hk10 HROW hsl2 KE HB9
        go_wp2_with fail
        refine (hoa _ HS10.out (HL.out.keep HK10.out).laid).mono ?_
        clear hoa
        rintro e w11 ⟨hto, k11⟩
        rw [HOP2.out] at hto
        have hto2 : e = .returned (.tuple #[.agg #[.int .i64 d.op.kind, .int .i64 d.op.reg, .int .i64 d.op.to, .int .i64 d.op.re, .int .i64 d.op.im], .int .i64 0]) := hto
        subst hto2
        have HK11 := Lib.hid (HK10.out.trans k11)
        have hb11 := k11.heap HB10.out id
        clear hto k11 HB10
        have hbn := heap_alloc_new w11 (.cells #[.int .i64 d.op.kind, .int .i64 d.op.reg, .int .i64 d.op.to, .int .i64 d.op.re, .int .i64 d.op.im] 24)
        have hkn : Kp Noone w11 (w11.alloc (.cells #[.int .i64 d.op.kind, .int .i64 d.op.reg, .int .i64 d.op.to, .int .i64 d.op.re, .int .i64 d.op.im] 24)) := (Kp.refl _ _).alloc _
        have HKL := Lib.hid hkn
        have hb12 := hkn.heap hb11 id
        clear hkn hb11
        go_upto_region 18 with fail
        generalize w11.alloc (.cells #[.int .i64 d.op.kind, .int .i64 d.op.reg, .int .i64 d.op.to, .int .i64 d.op.re, .int .i64 d.op.im] 24) = w12 at *
        generalize hgs : w11.heap.size = g11 at *
        clear hgs
        obtain ⟨x0, x1, x2, x3, x4, -⟩ := cells_5f hbn
        obtain ⟨y0, y1, y2, y3, y4, y5, y6, y7⟩ := cells_8f hb12
        clear hbn hb12 y0 y1 y7
        go_wp2_with fail
        go_ret
        exact ⟨rfl, HK11.out.trans HKL.out⟩)

end Go.Proofs.YtfinbppmkffbhaaDoor
