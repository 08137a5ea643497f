/-
  THE WALK of the law WalTrims.
-/
import Derived.Test.YtigdhdclfdojgaaWalTrimsR
import Derived.Test.YtigdhdclfdojgaaRead
namespace Go.Proofs.Ytigdhdclfdojgaa
open Go.RowKit

theorem elem_le {ls : List (List UInt8)} {i : Nat} (h : i < ls.length) : ls[i].length ≤ ls.flatten.length :=
  (List.sublist_flatten_of_mem (List.getElem_mem h)).length_le
/-- Between two rounds. -/
structure TrmR (lim n : Nat) (ls : List (List UInt8)) (W : World) (p q : Nat) (vn vi : Value) (wr : World) : Prop where
  ex : ∃ (i k : Nat) (col : Nat → Nat) (R : List (List UInt8)) (s : DS) (l : LogP) (ps : List PcS) (pc : PcS) (sf : Int), vn = .int .i64 (k : Int) ∧ vi = .int .i64 (i : Int) ∧ (i ≤ n ∧ i ≤ 100) ∧ R.length = k ∧ (k = i → R = ls.take i) ∧
    Ext W.heap.size (fun c => c ≠ 0) (fun _ => 0) W col wr ∧ Lg 5 0 col wr p q s l ∧ TrS lim i R s l ps pc sf ∧ SmallD s
attribute [local irreducible] openF newF appendLF syncLF trimLF

set_option maxHeartbeats 8000000 in
set_option maxRecDepth 100000 in
theorem walTrims_walk (lim : Int) (ao : Option Addr) (n cap : Nat) (ls : List (List UInt8)) (idx : Int) (W : World) (hb : BSS W ao n cap ls) (hn : n ≤ 1048576) (hT : ls.flatten.length ≤ 1048576) :
    Calls Try.prog 9 #[.int .i64 lim, .slice ao n cap, .int .i64 idx] W fun e w' => e = .returned (.bool true) ∧ Kp Noone W w' := by
  have hln := hb.len
  have HB := Lib.hid hb
  have HLN := Lib.hid hln
  have HT := Lib.hid hT
  clear hb hT hln
  have HKW : Hid (∀ (w : World) (col : Nat → Nat), Ext W.heap.size (fun c => c ≠ 0) (fun _ => 0) W col w → Kp Noone W w) := Lib.hid (fun w col X => X.kp.mono (fun j hj c => absurd rfl c))
  go_enter Try.func9, Try.ntmps9
  go_wp2_with fail
  refine (head9_any _).mono ?_
  rintro e w1 ⟨rfl, k1⟩
  have HK1 := Lib.hid k1
  have hnw := new_dk W.heap.size (fun _ => 0) 0 4194304 w1 (Cols.zero _ _) k1.size
  clear k1
  go_wp2_with fail
  refine hnw.mono ?_
  clear hnw
  rintro e w2 ⟨p, c2, rfl, x2, d2⟩
  have HX2 := Lib.hid ((Ext.quiet (S := fun c => c ≠ 0) (Cols.zero W.heap.size W) HK1.out).trans (x2.mono (T := fun c => c ≠ 0) (fun c h => by unfold S3 at h; omega)))
  have hop := open_l W.heap.size 5 0 c2 w2 p (newF 4194304) lim d2 x2.cols HX2.out.size (by omega) (by decide +kernel) (SmallD.new _).read
  obtain ⟨l0, hst0, htr0⟩ := trims_start lim
  have hsm0 := (SmallD.new 4194304).open lim
  rw [hst0] at hop
  generalize (openF (newF 4194304) lim).1 = s0 at *
  have HTR := Lib.hid htr0
  have HSM := Lib.hid hsm0
  clear hst0 htr0 hsm0 x2 d2 HK1
  go_wp2_with fail
  refine hop.mono ?_
  clear hop
  rintro e w3 hto
  obtain ⟨c3, x3, d3, hcase⟩ := hto.ex
  rcases hcase with ⟨h0, -⟩ | ⟨l', recs, q, ro, rc, rh, he, -, rfl, hq, hlg, -, -⟩
  · cases h0
  cases he
  simp only [List.length_nil]
  have HX3 := Lib.hid (HX2.out.trans (x3.mono (T := fun c => c ≠ 0) (fun c h => by unfold SL S3 at h; omega)))
  have R0 : Hid (TrmR (limF lim) n ls W p q (.int .i64 0) (.int .i64 0) w3) := Lib.hid ⟨⟨0, 0, c3, [], s0, l0, [], firstPc, _, rfl, rfl, ⟨by omega, by omega⟩, rfl, fun _ => rfl, HX3.out, hlg, HTR.out, HSM.out⟩⟩
  clear hto x3 d3 hlg hq HTR HSM HX2 HX3
  go_wp2_with fail
  go_loopw [11, 12] (fun vn vi wr => TrmR (limF lim) n ls W p q vn vi wr) (fun _ vi _ => n - (intOf vi).toNat)
  case atStart => exact R0.out
  case round =>
    clear R0
    obtain ⟨i, k, col, R, s, l, ps, pc, sf, rfl, rfl, ⟨hi, hi2⟩, hRk, hRR, X, hlg, htr, hsm⟩ := hrel.ex
    clear hrel
    have hbd := htr.bounds (limF_le lim) hi2
    have hki := htr.cnt
    have HX := Lib.hid X
    have HLG := Lib.hid hlg
    have HTR := Lib.hid htr
    have HSM := Lib.hid hsm
    have HBD := Lib.hid hbd
    have HRR := Lib.hid hRR
    have HRK := Lib.hid hRk
    have hki2 : k ≤ i := by omega
    clear X hlg htr hsm hbd hRR hRk hki
    by_cases hlt : i < n ∧ i < 100
    · obtain ⟨h1, h2⟩ := hlt
      have h2i : (i : Int) < 100 := by omega
      have h1i : (i : Int) < (n : Int) := by omega
      obtain ⟨b, off, bo, m, c, hl, rfl, _, hck, hB⟩ := HB.out.at h1
      have kW := HKW.out _ _ HX.out
      have hck := kW.cell hck id
      have hB := hB.keep kW
      have hm1 := elem_le hl
      have hm2 := hB.len
      have hm3 := HT.out
      have HTK : Hid (ls.take (i + 1) = ls.take i ++ [ls[i]]) := Lib.hid (List.take_succ_eq_append_getElem hl)
      generalize ls[i] = d at *
      have hm : m ≤ 1048576 := by omega
      have HM := Lib.hid hm2
      have hcp := copy_exact bo m c d wr hB (by omega)
      have hwi : IntKind.i64.wrap ((i : Int) + 1) = (i : Int) + 1 := IntWalk.i64_in _ (by omega)
      have hwk : IntKind.i64.wrap ((k : Int) + 1) = (k : Int) + 1 := IntWalk.i64_in _ (by omega)
      have hnext := HTR.out.next h2 d
      have hsm2 := HSM.out.appendL l d
      clear hm1 hm2 hm3 hB kW
      go_wp2_with fail
      refine hcp.mono ?_
      clear hcp
      rintro e w4 ⟨rfl, hw4⟩
      obtain ⟨hb4, k4⟩ := copied2 hw4 HM.out (by unfold maxLen; omega)
      have hz4 : w4.heap.size = wr.heap.size + 1 := by rw [hw4]; exact alloc_size _ _
      have hD4 : DataP (fun j => col j = 0) w4 (some ⟨wr.heap.size, 0, none⟩) m m d :=
        ⟨hb4, fun _ a ha => by cases ha; exact ⟨cols_new HX.out.cols (Nat.le_refl _), by simp only []; omega⟩⟩
      obtain ⟨g1, -, g2, g3, g4, g5⟩ := HBD.out
      have hap := append_l W.heap.size 5 0 col w4 p q s l (some ⟨wr.heap.size, 0, none⟩) m m d (HLG.out.keep k4) g1 (HX.out.cols.keep k4.size) (Nat.le_trans HX.out.size k4.size) (by omega) hD4 (by omega) (by omega) g4 (by omega)
      have HX4 := Lib.hid (HX.out.trans (Ext.quiet HX.out.cols k4))
      generalize appendLF s l d = r at *
      obtain ⟨s1, l1, ix, er⟩ := r
      simp only [] at hap hnext hsm2
      have HSM2 := Lib.hid hsm2
      clear hw4 hb4 k4 hz4 hD4 g1 g2 g3 g4 g5 HX HLG hsm2
      rcases hnext with ⟨rfl, ps', p', sf', htr'⟩ | ⟨he, sf', htr'⟩
      · have HTR' := Lib.hid htr'
        clear htr'
        go_wp2_with fail
        refine hap.mono ?_
        clear hap
        rintro e w5 hto
        obtain ⟨c5, rfl, x5, h5⟩ := hto.ex
        have RR : Hid (TrmR (limF lim) n ls W p q (.int .i64 ((k : Int) + 1)) (.int .i64 ((i : Int) + 1)) w5) := Lib.hid ⟨⟨i + 1, k + 1, c5, R ++ [d], s1, l1, ps', p', sf', rfl, rfl, ⟨by omega, by omega⟩, by rw [List.length_append, HRK.out]; rfl, fun e => by rw [HTK.out, HRR.out (by omega)], HX4.out.trans (x5.mono (T := fun c => c ≠ 0) (fun c h => by unfold SL S3 at h; omega)), h5, HTR'.out, HSM2.out⟩⟩
        clear hto x5 h5
        go_wp2_with fail
        go_roundw
        case rel => exact RR.out
        case measure => simp [intOf]; omega
      · have HTR' := Lib.hid htr'
        clear htr'
        rcases he with rfl | rfl
        all_goals (
          go_wp2_with fail
          refine hap.mono ?_
          clear hap
          rintro e w5 hto
          obtain ⟨c5, rfl, x5, h5⟩ := hto.ex
          have RR : Hid (TrmR (limF lim) n ls W p q (.int .i64 (k : Int)) (.int .i64 ((i : Int) + 1)) w5) := Lib.hid ⟨⟨i + 1, k, c5, R, s1, l1, ps, pc, sf', rfl, rfl, ⟨by omega, by omega⟩, HRK.out, fun e => by omega, HX4.out.trans (x5.mono (T := fun c => c ≠ 0) (fun c h => by unfold SL S3 at h; omega)), h5, HTR'.out, HSM2.out⟩⟩
          clear hto x5 h5
          go_wp2_with fail
          go_roundw
          case rel => exact RR.out
          case measure => simp [intOf]; omega)
    · have hcs : ¬ (i : Int) < (n : Int) ∨ ((i : Int) < (n : Int) ∧ ¬ (i : Int) < 100) := by omega
      by_cases hkn : k = n
      case neg =>
        have hne : ((k : Int) != (n : Int)) = true := by simp; omega
        clear hlt
        rcases hcs with h1 | ⟨h1, h2⟩
        all_goals (
          go_wp2_with fail
          go_ret
          exact ⟨rfl, HKW.out _ _ HX.out⟩)
      obtain rfl : i = n := by omega
      subst hkn
      have hRls : R = ls := by
        rw [HRR.out rfl, ← HLN.out, List.take_length]
      obtain ⟨a1, a2, a3, a4, a5⟩ := HTR.out.end (idx := idx) hi2 HSM.out
      obtain ⟨g1, -, g2, g3, g4, g5⟩ := HBD.out
      have hsy := sync_l W.heap.size 5 0 col wr p q s l HLG.out g1 HX.out.cols HX.out.size (by omega) (by omega)
      generalize syncLF s l = Y at *
      obtain ⟨s1, l1, e1⟩ := Y
      simp only [] at a1 a2 a3 a4 a5 hsy
      cases a1
      have hnn : ¬ (k : Int) < (k : Int) := by omega
      have A2 := Lib.hid a2
      have A3 := Lib.hid a3
      have A4 := Lib.hid a4
      have A5 := Lib.hid a5
      have G1 := Lib.hid g1
      clear a2 a3 a4 a5 g1 g2 g3 g4 g5 hcs hlt HTR HSM HBD HRR HLG
      go_wp2_with fail
      refine hsy.mono ?_
      clear hsy
      rintro e w4 hto
      obtain ⟨c4, rfl, x4, h4⟩ := hto.ex
      have HX4 := Lib.hid (HX.out.trans (x4.mono (T := fun c => c ≠ 0) (fun c h => by unfold SL S3 at h; omega)))
      have HL4 := Lib.hid h4
      have hpi := pieces_l 5 0 c4 w4 p q s1 l h4
      have htm := trim_l W.heap.size 5 0 c4 w4 p q s1 l idx h4 G1.out HX4.out.cols HX4.out.size (by omega) (by have := A4.out; omega)
      generalize trimLF s1 l idx = T at *
      obtain ⟨s2, l2, e2⟩ := T
      have ht0 := A2.out
      simp only [] at ht0
      subst ht0
      simp only [] at htm
      have A5 : Hid (TrEnd lim idx R l.pieces.length s2 l2) := A5
      have A3 : Hid (SmallD s2) := A3
      generalize l.pieces.length = np at *
      clear hto x4 h4 A2 A4 HX
      go_wp2_with fail
      refine hpi.mono ?_
      clear hpi
      rintro e w' ⟨rfl, rfl⟩
      go_wp2_with fail
      refine htm.mono ?_
      clear htm
      rintro e w5 hto
      obtain ⟨c5, rfl, x5, h5⟩ := hto.ex
      have HX5 := Lib.hid (HX4.out.trans (x5.mono (T := fun c => c ≠ 0) (fun c h => by unfold SL S3 at h; omega)))
      have hE := A5.out
      have hf2 := first_l 5 0 c5 w5 p q s2 l2 h5 hE.ok
      have hn2 := next_l 5 0 c5 w5 p q s2 l2 h5
      have hp2 := pieces_l 5 0 c5 w5 p q s2 l2 h5
      have hmx := hE.le
      have hnx := hE.next
      have hpl := hE.pieces
      obtain ⟨s3, l3, recs, b1, b2, b3, b4, b5, b6, b7, b8, b9⟩ := hE.again
      have hop := open_l W.heap.size 7 0 c5 w5 p s2 lim h5.dk HX5.out.cols HX5.out.size (by omega) (by have := hE.steps; omega) A3.out.read
      rw [b1] at hop
      have hnx2 : (l2.next : Int) = (k : Int) + 1 := by rw [hnx, HRK.out]; omega
      rw [hnx2] at hn2
      have hrk := HRK.out
      have hml : firstP l2 ≤ k + 1 := by omega
      generalize firstP l2 = f at *
      generalize l2.pieces.length = np2 at *
      have hmx2 : ¬ max 1 idx < (f : Int) := by omega
      have hp3 : ¬ (np : Int) < (np2 : Int) := by omega
      have hp4 : ¬ (np2 : Int) < 1 := by omega
      have hwk : IntKind.i64.wrap ((k : Int) + 1) = (k : Int) + 1 := IntWalk.i64_in _ (by omega)
      have HB2 := Lib.hid b2
      have HB4 := Lib.hid b4
      have HB5 := Lib.hid (show (l3.next : Int) = (k : Int) + 1 by omega)
      have HB6 := Lib.hid b6
      have HB8 := Lib.hid b8
      have HB9 := Lib.hid b9
      have HB3 := Lib.hid b3
      have HF := Lib.hid b7
      have HFK := Lib.hid hml
      clear hto x5 h5 hE b1 b2 b3 b4 b5 b6 b7 b8 b9 hnx hnx2 hmx hpl hrk hml A5 A3 HX4 HL4
      go_wp2_with fail
      refine hf2.mono ?_
      rintro e w' ⟨rfl, rfl⟩
      go_wp2_with fail
      refine hn2.mono ?_
      rintro e w' ⟨rfl, rfl⟩
      go_wp2_with fail
      refine hp2.mono ?_
      rintro e w' ⟨rfl, rfl⟩
      go_wp2_with fail
      refine hp2.mono ?_
      rintro e w' ⟨rfl, rfl⟩
      go_wp2_with fail
      refine hf2.mono ?_
      rintro e w' ⟨rfl, rfl⟩
      clear hf2 hn2 hp2
      go_wp2_with fail
      refine hop.mono ?_
      clear hop
      rintro e w6 hto
      obtain ⟨c6, x6, d6, hcase⟩ := hto.ex
      rcases hcase with ⟨h0, -⟩ | ⟨l', recs', q6, ro, rc, rh, he, -, rfl, hq6, hlg6, hro, hrd⟩
      · cases h0
      cases he
      have HX6 := Lib.hid (HX5.out.trans (x6.mono (T := fun c => c ≠ 0) (fun c h => by unfold SL S3 at h; omega)))
      have HRO := Lib.hid (show RSl w6 ro rc recs from ⟨_, _, rh, hro, hrd⟩)
      have hf6 := first_l 7 0 c6 w6 p q6 s3 l3 hlg6 HB2.out
      rw [HB4.out] at hf6
      have hn6 := next_l 7 0 c6 w6 p q6 s3 l3 hlg6
      rw [HB5.out] at hn6
      have HL6 := Lib.hid hlg6
      have hlr := HB6.out
      have hrk := HRK.out
      obtain ⟨rl, hrl⟩ : ∃ rl, Hid (recs.length = rl) := ⟨_, Lib.hid rfl⟩
      rw [hrl.out] at hlr ⊢
      have hwr : IntKind.i64.wrap ((k : Int) + 1 - (f : Int)) = (rl : Int) := by rw [IntWalk.i64_in _ (by omega)]; omega
      have hrlk : rl ≤ k + 1 := by omega
      clear hto x6 d6 hlg6 hro hrd hlr hq6 hrk
      go_wp2_with fail
      refine hf6.mono ?_
      rintro e w' ⟨rfl, rfl⟩
      go_wp2_with fail
      refine hn6.mono ?_
      rintro e w' ⟨rfl, rfl⟩
      clear hn6
      go_wp2_with fail
      go_loopw [145] (fun v wq => ∃ j : Nat, v = .int .i64 (j : Int) ∧ j ≤ rl ∧ Kp Noone w6 wq) (fun v _ => rl - (intOf v).toNat)
      case atStart => exact ⟨0, by rfl, by omega, Kp.refl _ _⟩
      case round =>
        obtain ⟨j, rfl, hj, kr⟩ := hrel
        by_cases hlt : j < rl
        · have hjl : j < recs.length := by have := hrl.out; omega
          obtain ⟨t, ht⟩ : ∃ t, Hid (f + j = t + 1) := ⟨f + j - 1, Lib.hid (by have := HF.out; omega)⟩
          have htk : t < k := by have := HB6.out; have := ht.out; have := hrl.out; have := HRK.out; omega
          obtain ⟨g, goff, xo, xm, xc, rfl, e0, e1, hb1⟩ := HRO.out.at hjl
          have hrec := HB8.out j hjl (by rw [HRK.out]; have := ht.out; omega)
          rw [show recs[j].1 = t + 1 by rw [hrec]; simp only []; have := ht.out; omega] at e0
          obtain ⟨b, off, bo, m, c, hl, rfl, _, hck, hB⟩ := HB.out.at htk
          have hrec2 : recs[j].2 = ls[t] := by
            rw [hrec]
            simp only [hRls]
            congr 1
            have := ht.out
            omega
          rw [hrec2] at hb1
          generalize ls[t] = d at *
          have kW := (HKW.out _ _ HX6.out).trans kr
          have e0 := kr.cell e0 id
          have e1 := kr.cell e1 id
          have hck := kW.cell hck id
          rw [Int.natCast_add, Int.natCast_one] at e0
          have B1 := Lib.hid (hb1.keep kr)
          have B2 := Lib.hid (hB.keep kW)
          have hxm : xm ≤ 9223372036854775807 := by have e3 := hb1.max; have e4 := hb1.le; unfold maxLen at e3; omega
          have hw1 : IntKind.i64.wrap ((f : Int) + (j : Int)) = (t : Int) + 1 := by have := ht.out; rw [IntWalk.i64_in _ (by omega)]; omega
          have hw2 : IntKind.i64.wrap ((t : Int) + 1 - 1) = (t : Int) := by rw [IntWalk.i64_in _ (by omega)]; omega
          have hw3 : IntKind.i64.wrap (t : Int) = (t : Int) := IntWalk.i64_in _ (by omega)
          have hwj : IntKind.i64.wrap ((j : Int) + 1) = (j : Int) + 1 := IntWalk.i64_in _ (by omega)
          have hti : (t : Int) < (k : Int) := by omega
          have hdd : (d == d) = true := beq_self_eq_true _
          have hne : (((t : Int) + 1) != ((t : Int) + 1)) = false := by simp
          have hS : ∀ q, Calls Try.prog 14 #[.slice xo xm xc, .slice bo m c] (wr.drewN q) fun e w'' => e = .returned (.bool true) ∧ ∃ m, w'' = (wr.drewN q).drewN m := fun q => by
            have h := same_any xo bo xm xc m c _ _ (wr.drewN q) (B1.out.keep ((Kp.refl _ _).drewN q)) (B2.out.keep ((Kp.refl _ _).drewN q)) hxm
            rwa [hdd] at h
          clear hb1 hB hrec hrec2 kW
          go_wp2_with fail
          go_quiet ((go_at_call 14; exact Calls.quiet_of (hS _)))
          have kq := kr.drewN nq
          go_wp2_with fail
          go_roundw
          case rel => exact ⟨j + 1, by rfl, by omega, kq⟩
          case measure => simp [intOf]; omega
        · obtain rfl : j = rl := by omega
          have HL7 := Lib.hid (HL6.out.keep kr)
          have HX7 := Lib.hid (HX6.out.trans (Ext.quiet HX6.out.cols kr))
          have htm := trim_l W.heap.size 7 0 c6 _ p q6 s3 l3 idx HL7.out HB2.out HX7.out.cols HX7.out.size (by omega) (by have := HB3.out; omega)
          rw [HB9.out] at htm
          go_wp2_with fail
          refine htm.mono ?_
          clear htm
          rintro e w8 hto
          obtain ⟨c8, rfl, x8, h8⟩ := hto.ex
          have hf8 := first_l 7 0 c8 w8 p q6 s3 l3 h8 HB2.out
          rw [HB4.out] at hf8
          have HX8 := Lib.hid (HX7.out.trans (x8.mono (T := fun c => c ≠ 0) (fun c h => by unfold SL S3 at h; omega)))
          clear hto x8 h8
          go_wp2_with fail
          refine hf8.mono ?_
          rintro e w' ⟨rfl, rfl⟩
          go_wp2_with fail
          go_ret
          exact ⟨rfl, HKW.out _ _ HX8.out⟩

end Go.Proofs.Ytigdhdclfdojgaa
