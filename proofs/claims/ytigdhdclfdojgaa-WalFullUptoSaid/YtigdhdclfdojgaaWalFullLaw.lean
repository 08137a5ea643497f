/-
  THE WALK of the law WalFull.
-/
import Derived.Test.YtigdhdclfdojgaaWalFullR
import Derived.Test.YtigdhdclfdojgaaRead
namespace Go.Proofs.Ytigdhdclfdojgaa
open Go.RowKit

theorem elem_le2 {ls : List (List UInt8)} {i : Nat} (h : i < ls.length) : ls[i].length ≤ ls.flatten.length :=
  (List.sublist_flatten_of_mem (List.getElem_mem h)).length_le
theorem info_bytesW : (Try.prog.info? 22).map (fun i => (i.zero, i.size, i.bytes)) = some (some (.slice none 0 0), 1, 24) := by kernel_rfl
/-- Between two rounds. -/
structure FulR (n : Nat) (W : World) (p q : Nat) (vs va vi : Value) (wr : World) : Prop where
  ex : ∃ (i k safe : Nat) (col : Nat → Nat) (ao : Option Addr) (cap : Nat) (R : List (List UInt8)) (s : DS) (l : LogP) (ps : List PcS) (pc : PcS) (j : Nat), vs = .int .i64 (safe : Int) ∧ va = .slice ao k cap ∧ vi = .int .i64 (i : Int) ∧ (i ≤ n ∧ i ≤ 50) ∧ R.length = k ∧
    Ext W.heap.size (fun c => c ≠ 0) (fun _ => 0) W col wr ∧ Lg 5 0 col wr p q s l ∧ AllAt W 8 col wr ao cap R ∧ FlS false i R safe s l ps pc j ∧ SmallD s
attribute [local irreducible] openF newF appendLF syncLF crashF

set_option maxHeartbeats 8000000 in
set_option maxRecDepth 100000 in
theorem walFull_walk (room : Int) (ao : Option Addr) (n cap : Nat) (ls : List (List UInt8)) (W : World) (hb : BSS W ao n cap ls) (hn : n ≤ 1048576) (hT : ls.flatten.length ≤ 1048576) :
    Calls Try.prog 8 #[.int .i64 room, .slice ao n cap] W fun e w' => e = .returned (.bool true) ∧ Kp Noone W w' := by
  obtain ⟨i1, hj, hy0, hy1, hy2⟩ := info_parts info_bytesW
  have HB := Lib.hid hb
  have HT := Lib.hid hT
  clear hb hT
  have HKW : Hid (∀ (w : World) (col : Nat → Nat), Ext W.heap.size (fun c => c ≠ 0) (fun _ => 0) W col w → Kp Noone W w) := Lib.hid (fun w col X => X.kp.mono (fun j hj c => absurd rfl c))
  go_enter Try.func8, Try.ntmps8
  go_wp2_with fail
  refine (head9_any _).mono ?_
  rintro e w1 ⟨rfl, k1⟩
  have HK1 := Lib.hid k1
  have hnw := new_dk W.heap.size (fun _ => 0) 0 room w1 (Cols.zero _ _) k1.size
  clear k1
  go_wp2_with fail
  refine hnw.mono ?_
  clear hnw
  rintro e w2 ⟨p, c2, rfl, x2, d2⟩
  have HX2 := Lib.hid ((Ext.quiet (S := fun c => c ≠ 0) (Cols.zero W.heap.size W) HK1.out).trans (x2.mono (T := fun c => c ≠ 0) (fun c h => by unfold S3 at h; omega)))
  have hst00 : (newF room).steps = 0 := by unfold newF; rfl
  have hop := open_l W.heap.size 5 0 c2 w2 p (newF room) 40 d2 x2.cols HX2.out.size (by omega) (by omega) (SmallD.new _).read
  have hsm0 := (SmallD.new room).open 40
  have HST := Lib.hid (full_start room)
  have HSM := Lib.hid hsm0
  clear hsm0 x2 d2 HK1 hst00
  go_wp2_with fail
  refine hop.mono ?_
  clear hop
  rintro e w3 hto
  obtain ⟨c3, x3, d3, hcase⟩ := hto.ex
  have HX3 := Lib.hid (HX2.out.trans (x3.mono (T := fun c => c ≠ 0) (fun c h => by unfold SL S3 at h; omega)))
  rcases HST.out with ⟨hst0, hls⟩ | ⟨l0, hst0, hfl0⟩
  · rw [hst0] at hcase d3
    rcases hcase with ⟨-, rfl⟩ | ⟨l', recs, q, ro, rc, rh, he, -⟩
    · have hli := list_dk c3 0 p _ w3 d3
      rw [hls] at hli
      simp only [List.length_nil] at hli
      clear hto x3 d3 HST HSM HX2 hst0 hls
      go_wp2_with fail
      refine hli.mono ?_
      rintro e w4 ⟨no, nc, rfl, -, k4⟩
      have HK4 := Lib.hid ((HKW.out _ _ HX3.out).trans k4)
      clear k4 hli
      go_wp2_with fail
      go_ret
      exact ⟨rfl, HK4.out⟩
    · cases he
  rw [hst0] at hcase d3
  have HSM' : Hid (SmallD (openF (newF room) 40).1) := HSM
  generalize (openF (newF room) 40).1 = s0 at *
  rcases hcase with ⟨h0, -⟩ | ⟨l', recs, q, ro, rc, rh, he, -, rfl, hq, hlg, -, -⟩
  · cases h0
  cases he
  simp only [List.length_nil]
  have kA : Kp Noone w3 (w3.alloc (.cells #[] 22)) := (Kp.refl _ _).alloc _
  have R0 : Hid (FulR n W p q (.int .i64 0) (.slice (some ⟨w3.heap.size, 0, none⟩) 0 0) (.int .i64 0) (w3.alloc (.cells #[] 22))) := Lib.hid ⟨⟨0, 0, 0, c3, _, 0, [], s0, l0, [], firstPc, 0, rfl, rfl, rfl, ⟨by omega, by omega⟩, rfl, HX3.out.trans (Ext.quiet HX3.out.cols kA), hlg.keep kA, AllAt.nil _, hfl0, HSM'.out⟩⟩
  clear hto x3 d3 hlg hq HST HSM HSM' HX2 hst0 hfl0 kA
  go_wp2_with fail
  clear HX3
  go_loopw [9, 10, 11] (fun vs va vi wr => FulR n W p q vs va vi wr) (fun _ _ vi _ => n - (intOf vi).toNat)
  case atStart => exact R0.out
  case round =>
    clear R0
    obtain ⟨i, k, safe, col, xo, xcap, R, s, l, ps, pc, j, rfl, rfl, rfl, ⟨hi, hi2⟩, hRk, X, hlg, hall, hfl, hsm⟩ := hrel.ex
    clear hrel
    have hbd := hfl.bounds (by omega)
    have hki := hfl.cnt
    have hki2 : k ≤ i := by omega
    have HX := Lib.hid X
    have HLG := Lib.hid hlg
    have HFL := Lib.hid hfl
    have HSM := Lib.hid hsm
    have HBD := Lib.hid hbd
    have HALL := Lib.hid hall
    have HRK := Lib.hid hRk
    clear X hlg hfl hsm hbd hall hRk hki
    by_cases hlt : i < n ∧ i < 50
    · obtain ⟨h1, h2⟩ := hlt
      have h2i : (i : Int) < 50 := by omega
      have h1i : (i : Int) < (n : Int) := by omega
      obtain ⟨b, off, bo, m, c, hl, rfl, _, hckW, hBW⟩ := HB.out.at h1
      have kW := HKW.out _ _ HX.out
      have hck := kW.cell hckW id
      have hB := hBW.keep kW
      have hm1 := elem_le2 hl
      have hm2 := hB.len
      have hm3 := HT.out
      generalize ls[i] = d at *
      have hm : m ≤ 1048576 := by omega
      have HM := Lib.hid hm2
      have HBW := Lib.hid hBW
      have HCK := Lib.hid hckW
      have hcp := copy_exact bo m c d wr hB (by omega)
      have hwi : IntKind.i64.wrap ((i : Int) + 1) = (i : Int) + 1 := IntWalk.i64_in _ (by omega)
      have happ := HFL.out.app h2 d
      have hsm2 := HSM.out.appendL l d
      clear hm1 hm2 hm3 hB hBW hckW kW
      go_wp2_with fail
      refine hcp.mono ?_
      clear hcp
      rintro e w4 ⟨rfl, hw4⟩
      obtain ⟨hb4, k4⟩ := copied2 hw4 HM.out (by unfold maxLen; omega)
      have hz4 : w4.heap.size = wr.heap.size + 1 := by rw [hw4]; exact alloc_size _ _
      have hD4 : DataP (fun j => col j = 0) w4 (some ⟨wr.heap.size, 0, none⟩) m m d :=
        ⟨hb4, fun _ a ha => by cases ha; exact ⟨cols_new HX.out.cols (Nat.le_refl _), by simp only []; omega⟩⟩
      obtain ⟨g1, g2, g3, g4, g5⟩ := HBD.out
      have hap := append_l W.heap.size 5 0 col w4 p q s l (some ⟨wr.heap.size, 0, none⟩) m m d (HLG.out.keep k4) g1 (HX.out.cols.keep k4.size) (Nat.le_trans HX.out.size k4.size) (by omega) hD4 (by omega) (by omega) g4 (by omega)
      have HX4 := Lib.hid (HX.out.trans (Ext.quiet HX.out.cols k4))
      have HALL4 := Lib.hid (HALL.out.keep k4)
      generalize appendLF s l d = r at *
      obtain ⟨s1, l1, ix, er⟩ := r
      simp only [] at hap happ hsm2
      have HSM2 := Lib.hid hsm2
      clear hw4 hb4 k4 hz4 hD4 g1 g2 g3 g4 g5 HX HLG hsm2 HALL HBD HSM
      rcases happ with ⟨he, ps', p', j', hfl'⟩ | ⟨he, j', hfl'⟩
      · cases he
        have HFL' := Lib.hid hfl'
        have hbd' := hfl'.bounds (by omega)
        have hsy' := hfl'.sync (by omega)
        clear hfl' HFL
        go_wp2_with fail
        refine hap.mono ?_
        clear hap
        rintro e w5 hto
        obtain ⟨c5, rfl, x5, h5⟩ := hto.ex
        have X5 := HX4.out.trans (x5.mono (T := fun c => c ≠ 0) (fun c h => by unfold SL S3 at h; omega))
        have hA5 := HALL4.out.ext x5 (by unfold SL S3; omega)
        have hck := (HKW.out _ _ X5).cell HCK.out id
        obtain ⟨hs, hP⟩ := hA5.ex
        have ho5 := hP.own
        rw [HRK.out] at ho5
        have kal : ∀ o : Obj, Kp Noone w5 (w5.alloc o) := fun o => (Kp.refl _ _).alloc o
        have HX5 := Lib.hid X5
        have HL5 := Lib.hid h5
        have HP := Lib.hid hP
        clear hto x5 h5 X5 hA5 HALL4 HX4 hP
        go_wp2_with (at_builtin; refine wpList_append_gen _ rfl (.tmp 79) (.tmp 84) 67 rfl 22 i1 (.slice none 0 0) 1 24 Try.underlying67 hj hy0 hy1 hy2 rfl xo k xcap rfl (some ⟨w5.heap.size, 0, none⟩) 1 1 rfl (Col c5 8) (hdrs hs) (ho5.keep (kal _)) [.slice bo m c] rfl (Row.ofHeap (heap_alloc_new w5 _)) (hdrs_one bo m c) (by omega) (by unfold maxLen; omega) ?_)
        intro yo yc w6 ho6 k6
        have kA := kal (.cells #[.slice bo m c] 22)
        have hcA := HX5.out.cols.keep kA.size
        have hsA := Nat.le_trans HX5.out.size kA.size
        have xp := Ext.paint (B := W.heap.size) hcA hsA k6
        have hL6 := (HL5.out.keep kA).ext hcA xp (fun c h => by unfold S3 at h; omega) (by omega) (by omega)
        have hX6 := (HX5.out.trans (Ext.quiet HX5.out.cols kA)).trans (xp.mono (T := fun c => c ≠ 0) (fun c h => by omega))
        have ho6' := ho6.painted
        rw [← HRK.out] at ho6'
        have hA6 := HP.out.snoc HBW.out ho6'
        generalize paint c5 (w5.alloc (.cells #[.slice bo m c] 22)) w6 8 = c6 at *
        have hsy := sync_l W.heap.size 5 0 c6 w6 p q s1 l1 hL6 hbd'.1 hX6.cols hX6.size (by omega) (by have := hbd'.2.1; omega)
        have hsm3 := HSM2.out.syncL l1
        generalize syncLF s1 l1 = Y at *
        obtain ⟨s2, l2, e2⟩ := Y
        simp only [] at hsy hsy' hsm3
        have HX6 := Lib.hid hX6
        have HA6 := Lib.hid hA6
        have HSM3 := Lib.hid hsm3
        clear xp hL6 hX6 ho6' hA6 hcA hsA kA k6 ho6 ho5 kal HX5 HL5 HP hbd' hck hsm3
        rcases hsy' with ⟨he, hfl'⟩ | ⟨he, hfl'⟩
        · cases he
          have HFL2 := Lib.hid hfl'
          clear hfl'
          go_wp2_with fail
          refine hsy.mono ?_
          clear hsy
          rintro e w7 hto
          obtain ⟨c7, rfl, x7, h7⟩ := hto.ex
          have RR : Hid (FulR n W p q (.int .i64 (safe : Int)) (.slice yo (k + 1) yc) (.int .i64 ((i : Int) + 1)) w7) := Lib.hid ⟨⟨i + 1, k + 1, safe, c7, yo, yc, R ++ [d], s2, l1, ps', p', j', rfl, rfl, rfl, ⟨by omega, by omega⟩, by rw [List.length_append, HRK.out]; rfl, HX6.out.trans (x7.mono (T := fun c => c ≠ 0) (fun c h => by unfold SL S3 at h; omega)), h7, HA6.out.ext x7 (by unfold SL S3; omega), HFL2.out, HSM3.out⟩⟩
          clear hto x7 h7
          go_wp2_with fail
          go_roundw
          case rel => exact RR.out
          case measure => simp [intOf]; omega
        · cases he
          have hlR : (R ++ [d]).length = k + 1 := by rw [List.length_append, HRK.out]; rfl
          rw [hlR] at hfl'
          have HFL2 := Lib.hid hfl'
          clear hfl' hlR
          go_wp2_with fail
          refine hsy.mono ?_
          clear hsy
          rintro e w7 hto
          obtain ⟨c7, rfl, x7, h7⟩ := hto.ex
          have RR : Hid (FulR n W p q (.int .i64 ((k : Int) + 1)) (.slice yo (k + 1) yc) (.int .i64 ((i : Int) + 1)) w7) := Lib.hid ⟨⟨i + 1, k + 1, k + 1, c7, yo, yc, R ++ [d], s2, l1, ps', p', p'.recs.length, rfl, rfl, rfl, ⟨by omega, by omega⟩, by rw [List.length_append, HRK.out]; rfl, HX6.out.trans (x7.mono (T := fun c => c ≠ 0) (fun c h => by unfold SL S3 at h; omega)), h7, HA6.out.ext x7 (by unfold SL S3; omega), HFL2.out, HSM3.out⟩⟩
          clear hto x7 h7
          go_wp2_with fail
          go_roundw
          case rel => exact RR.out
          case measure => simp [intOf]; omega
      · have HFL' := Lib.hid hfl'
        clear hfl' HFL
        rcases he with he | he
        all_goals (
          cases he
          go_wp2_with fail
          refine hap.mono ?_
          clear hap
          rintro e w5 hto
          obtain ⟨c5, rfl, x5, h5⟩ := hto.ex
          have RR : Hid (FulR n W p q (.int .i64 (safe : Int)) (.slice xo k xcap) (.int .i64 ((i : Int) + 1)) w5) := Lib.hid ⟨⟨i + 1, k, safe, c5, xo, xcap, R, s1, l1, ps, pc, j', rfl, rfl, rfl, ⟨by omega, by omega⟩, HRK.out, HX4.out.trans (x5.mono (T := fun c => c ≠ 0) (fun c h => by unfold SL S3 at h; omega)), h5, HALL4.out.ext x5 (by unfold SL S3; omega), HFL'.out, HSM2.out⟩⟩
          clear hto x5 h5
          go_wp2_with fail
          go_roundw
          case rel => exact RR.out
          case measure => simp [intOf]; omega)
    · have hcs : ¬ (i : Int) < (n : Int) ∨ ((i : Int) < (n : Int) ∧ ¬ (i : Int) < 50) := by omega
      obtain ⟨a1, a2, a3, s3, l3, recs, b1, b2, b3⟩ := HFL.out.end hi2 HSM.out
      have hcr := crash_dk W.heap.size col 0 p s none 0 0 [] wr HLG.out.dk HX.out.cols HX.out.size ⟨rfl, Nat.le_refl _, by simp [maxLen], Row.nil _ _⟩ (fun h => absurd rfl h)
      have A1 := Lib.hid a1
      have A2 := Lib.hid a2
      have B1 := Lib.hid b1
      have B3 := Lib.hid b3
      have hsk : safe ≤ k := by have := HRK.out; omega
      obtain ⟨rl, hrl⟩ : ∃ rl, Hid (recs.length = rl) := ⟨_, Lib.hid rfl⟩
      have hrs : rl = safe := by rw [← hrl.out]; exact b2
      subst hrs
      clear a1 a2 a3 b1 b2 b3 HFL HSM HBD HLG hlt
      rcases hcs with h1 | ⟨h1, h2⟩
      all_goals (
        go_wp2_with fail
        refine hcr.mono ?_
        clear hcr
        rintro e w4 ⟨rfl, c4, x4, d4⟩
        have HX4 := Lib.hid (HX.out.trans (x4.mono (T := fun c => c ≠ 0) (fun c h => by unfold S3 at h; omega)))
        have HA4 := Lib.hid (HALL.out.ext x4 (by unfold S3; omega))
        have hop := open_l W.heap.size 10 0 c4 w4 p (crashF s []) 40 d4 HX4.out.cols HX4.out.size (by omega) (by have := A2.out; omega) A1.out.read
        rw [B1.out] at hop
        clear x4 d4 HALL HX
        go_wp2_with fail
        refine hop.mono ?_
        clear hop
        rintro e w6 hto
        obtain ⟨c6, x6, d6, hcase⟩ := hto.ex
        rcases hcase with ⟨h0, -⟩ | ⟨l', recs', q6, ro, rc, rh, he, -, rfl, hq6, -, hro, hrd⟩
        · cases h0
        cases he
        have HX6 := Lib.hid (HX4.out.trans (x6.mono (T := fun c => c ≠ 0) (fun c h => by unfold SL S3 at h; omega)))
        have HA6 := Lib.hid (HA4.out.ext x6 (by unfold SL S3; omega))
        have HRO := Lib.hid (show RSl w6 ro rc recs from ⟨_, _, rh, hro, hrd⟩)
        rw [hrl.out]
        have hne : ((rl : Int) != (rl : Int)) = false := by simp
        clear hto x6 d6 hro hrd hq6 HX4 HA4
        go_wp2_with fail
        go_loopw [116] (fun v wq => ∃ j : Nat, v = .int .i64 (j : Int) ∧ j ≤ rl ∧ Kp Noone w6 wq) (fun v _ => rl - (intOf v).toNat)
        case atStart => exact ⟨0, by rfl, by omega, Kp.refl _ _⟩
        case round =>
          obtain ⟨j, rfl, hj, kr⟩ := hrel
          by_cases hlt : j < rl
          · have hjl : j < recs.length := by have := hrl.out; omega
            have hjR : j < R.length := by have := HRK.out; omega
            obtain ⟨g, goff, zo, zm, zc, rfl, e0, e1, hb1⟩ := HRO.out.at hjl
            obtain ⟨b, off, bo, m, c, rfl, hck, hBW⟩ := HA6.out.at hjR
            rw [B3.out j hjl hjR] at hb1
            have kW := (HKW.out _ _ HX6.out).trans kr
            have e1 := kr.cell e1 id
            have hck := kr.cell hck id
            generalize R[j] = d at *
            have C1 := Lib.hid (hb1.keep kr)
            have C2 := Lib.hid (hBW.keep kW)
            have hxm : zm ≤ 9223372036854775807 := by have e3 := hb1.max; have e4 := hb1.le; unfold maxLen at e3; omega
            have hwj : IntKind.i64.wrap ((j : Int) + 1) = (j : Int) + 1 := IntWalk.i64_in _ (by omega)
            have hjk : (j : Int) < (k : Int) := by omega
            have hdd : (d == d) = true := beq_self_eq_true _
            have hS : ∀ q, Calls Try.prog 14 #[.slice zo zm zc, .slice bo m c] (wr.drewN q) fun e w'' => e = .returned (.bool true) ∧ ∃ m, w'' = (wr.drewN q).drewN m := fun q => by
              have h := same_any zo bo zm zc m c _ _ (wr.drewN q) (C1.out.keep ((Kp.refl _ _).drewN q)) (C2.out.keep ((Kp.refl _ _).drewN q)) hxm
              rwa [hdd] at h
            clear hb1 hBW kW e0
            go_wp2_with fail
            go_quiet ((go_at_call 14; exact Calls.quiet_of (hS _)))
            have kq := kr.drewN nq
            go_wp2_with fail
            go_roundw
            case rel => exact ⟨j + 1, by rfl, by omega, kq⟩
            case measure => simp [intOf]; omega
          · obtain rfl : j = rl := by omega
            go_wp2_with fail
            go_ret
            exact ⟨rfl, (HKW.out _ _ HX6.out).trans kr⟩)

end Go.Proofs.Ytigdhdclfdojgaa
