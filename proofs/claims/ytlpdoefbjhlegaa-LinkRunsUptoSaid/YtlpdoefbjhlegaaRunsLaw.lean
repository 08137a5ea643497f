/-
  THE WALK of the law 'LinkRuns'.
-/
import Derived.Test.YtlpdoefbjhlegaaRunsSide
import Derived.Deep.CutBlock
namespace Go.Proofs.Ytlpdoefbjhlegaa
open Go.RowKit

attribute [local irreducible] parse numL inR lowR emitF inF sendF emitR sendR newLS newR

theorem RunV.start {W w : World} {pl : Nat} {col : Nat → Nat} {s : LS} {m : RL} {r : RR} (X : Ext W.heap.size (fun c => c ≠ 0) (fun _ => 0) W col w) (la : Lk col 0 w pl s) (h : RefAt Noone w m r) :
    ∃ col', RunV W pl w.heap.size col' s m r m r (w.alloc (.cells (linkC m r) 29)) := by
  have k : Kp Noone w (w.alloc (.cells (linkC m r) 29)) := (Kp.refl _ _).alloc _
  have hsz := X.size
  have hold : ∀ j, j < w.heap.size → paint col w (w.alloc (.cells (linkC m r) 29)) 41 j = col j := fun j hj => by unfold paint; rw [if_neg (by omega)]
  have e : Ext W.heap.size (fun c => c ≠ 0) col w (paint col w (w.alloc (.cells (linkC m r) 29)) 41) (w.alloc (.cells (linkC m r) 29)) := ⟨X.cols.paint hsz k.size 41, hold, fun j hj c => c, k.none⟩
  obtain ⟨⟨r1, h1⟩, hi⟩ := la
  refine ⟨_, ⟨⟨r1, (h1.recol hold).keep k⟩, hi⟩, heap_alloc_new _ _, ?_, (h.kp k (fun _ c => c.elim)).mono (fun _ _ c => c.elim), X.trans e⟩
  unfold paint
  rw [if_pos ⟨Nat.le_refl _, (Array.getElem?_eq_some_iff.1 (heap_alloc_new w _)).1⟩]

theorem refAt_nil (boot retry : Int) (w : World) : RefAt Noone w (newR boot retry) ⟨none, 0, none, 0, none, 0, []⟩ := by
  unfold newR
  exact ⟨RowP.nil _ _ _, rfl, fun j h => by simp at h, RowP.nil _ _ _, RowP.nil _ _ _⟩

set_option maxHeartbeats 4000000 in
set_option maxRecDepth 100000 in
theorem linkRuns_walk (boot retry : Int) (ao : Option Addr) (n cap : Nat) (ps : List OpL) (W : World) (hb : OS W ao n cap ps) (hn : n ≤ 1048576) (hT : (ps.map (·.2.2)).flatten.length ≤ 1048576) :
    Calls Try.prog 3 #[.int .i64 boot, .int .i64 retry, .slice ao n cap] W fun e w' => e = .returned (.bool true) ∧ Kp Noone W w' := by
  have HB := Lib.hid hb
  have hsz := hb.len
  clear hb
  go_enter Try.func3, Try.ntmps3
  go_wp2_with fail
  refine (head_any _).mono ?_
  rintro e w0 ⟨rfl, k0⟩
  go_wp2_with fail
  have X0 := Ext.quiet (S := fun c => c ≠ 0) (Cols.zero W.heap.size W) k0
  refine (new_lk W.heap.size _ 0 boot retry _ X0.cols X0.size).mono ?_
  rintro e w1 ⟨pl, c1, rfl, x1, a1⟩
  have X1 := X0.trans (x1.mono (T := fun c => c ≠ 0) (fun c h => by unfold S5 at h; omega))
  clear x1 X0 k0
  go_wp2_with fail
  refine (newR_any boot retry w1).mono ?_
  rintro e w2 ⟨rfl, k2⟩
  have a2 := a1.keep k2
  have X2 := X1.trans (Ext.quiet X1.cols k2)
  have hS := sim_new boot retry
  have hR0 := refAt_nil boot retry w2
  have hnx : (newR boot retry).next ≤ 0 + 1 := by unfold newR; simp
  have hcm : (newR boot retry).came.length ≤ 0 := by unfold newR; simp
  generalize newR boot retry = m0 at *
  generalize newLS boot retry = s0 at *
  generalize (⟨none, 0, none, 0, none, 0, []⟩ : RR) = r0 at *
  obtain ⟨col0, V0⟩ := RunV.start X2 a2 hR0
  have HR0 : Hid (RunR W pl w2.heap.size n (.int .i64 0) (w2.alloc (.cells (linkC m0 r0) 29))) := Lib.hid ⟨⟨0, col0, s0, m0, r0, by rfl, by omega, by omega, V0, hS, by simpa using hnx, hcm⟩⟩
  have hpm : Hid (W.heap.size ≤ w2.heap.size) := Lib.hid X2.size
  generalize hpmE : w2.heap.size = pm at *
  clear V0 hS hR0 hnx hcm X1 X2 a1 a2 k2
  unfold linkV
  unfold linkC at HR0
  go_wp2_with fail
  go_loopw [9] (fun iv wr => RunR W pl pm n iv wr) (fun v _ => n - (intOf v).toNat)
  case atStart => exact HR0.out
  case round =>
    clear HR0
    obtain ⟨i, col, s, m, r, rfl, hin, hi100, hV, hS, hnx, hcm⟩ := hrel.ex
    have HV := Lib.hid hV
    have HS := Lib.hid hS
    have HNX := Lib.hid hnx
    have HCM := Lib.hid hcm
    clear hV hS hnx hcm
    by_cases hgo : i < n ∧ i < 100
    · obtain ⟨hlt, h100⟩ := hgo
      obtain ⟨iK, iN, b, off, bo, bm, bc, rfl, hbl, h0, h1, h2, hbs⟩ := HB.out.get i (by omega)
      have hln := getElem_le_flatten (ps.map (·.2.2)) i (by rw [List.length_map]; omega)
      rw [List.getElem_map] at hln
      have kr := HV.out.kp
      have hc0 := kr.cell h0 id
      have hc1 := kr.cell h1 id
      have hc2 := kr.cell h2 id
      have hbA := hbs.keep kr
      have hbm : bm ≤ 1048576 := by have := hbs.len; omega
      generalize ps[i].2.2 = B at *
      generalize ps[i].2.1 = N at *
      generalize ps[i].1 = K at *
      have hI1 : -9223372036854775808 ≤ N ∧ N ≤ 9223372036854775807 := iN
      have kA : Kp Noone wr (wr.alloc (.cells #[.int .i64 K, .int .i64 N, .slice bo bm bc] 33)) := (Kp.refl _ _).alloc _
      have hOA := heap_alloc_new wr (.cells #[.int .i64 K, .int .i64 N, .slice bo bm bc] 33)
      have hbB := hbA.keep kA
      have VA := Lib.hid (HV.out.keep kA)
      have hsA := kA.size
      clear hbs h0 h1 h2 hln kr kA
      go_wp2_with fail
      refine (copy_exact bo bm bc B _ hbB (by omega)).mono ?_
      rintro e w6 ⟨rfl, hw6⟩
      have hgO : Hid (∀ j, wr.heap.size ≤ j → col j = 0) := Lib.hid (fun j hj => Classical.byContradiction fun d => by have := HV.out.X.cols j d; omega)
      have hpg : Hid (pm < wr.heap.size) := Lib.hid (Array.getElem?_eq_some_iff.1 HV.out.box).1
      have hsz0 : Hid (W.heap.size ≤ wr.heap.size) := Lib.hid HV.out.size
      have hgg : Hid (wr.heap.size < (wr.alloc (.cells #[.int .i64 K, .int .i64 N, .slice bo bm bc] 33)).heap.size) := Lib.hid (Array.getElem?_eq_some_iff.1 hOA).1
      generalize wr.alloc (.cells #[.int .i64 K, .int .i64 N, .slice bo bm bc] 33) = wA at *
      have own6 : Own (fun j => j = wA.heap.size) w6 5 1 (some ⟨wA.heap.size, 0, none⟩) bm bm (bv B) := by
        subst hw6
        exact Own.fresh rfl (heap_alloc_new _ _) (by rw [length_bv, hbA.len, Nat.mul_one]) (by unfold maxLen; omega)
      obtain ⟨hbC, k6⟩ := copied2 hw6 hbA.len (by unfold maxLen; omega)
      have hgw : Hid (wA.heap.size < w6.heap.size) := Lib.hid (by rw [hw6]; exact (Array.getElem?_eq_some_iff.1 (heap_alloc_new wA _)).1)
      have V6 := VA.out.keep k6
      have hO6 := k6.heap hOA id
      have hB6 := hbB.keep k6
      clear hw6 hbA hbB hOA k6 VA HV
      generalize wA.heap.size = gb at *
      generalize wr.heap.size = gO at *
      obtain ⟨p0, p1, p2, -, -, -⟩ := cells_three hO6
      have OWN6 := Lib.hid own6
      have HV6 := Lib.hid V6
      have HB6 := Lib.hid hB6
      have HO6 := Lib.hid hO6
      have HBC := Lib.hid hbC
      have hok : Hid (RefOk m) := Lib.hid (HS.out.ok V6.la.2 (by have := HCM.out; omega))
      have hsn : Hid (s.next < 1048576) := Lib.hid (by have h1 := HS.out.next; have h2 := HNX.out; omega)
      have hcG : Hid (col gb = 0 ∧ W.heap.size ≤ gb) := Lib.hid ⟨hgO.out gb (Nat.le_of_lt hgg.out), Nat.le_trans hsz0.out (Nat.le_of_lt hgg.out)⟩
      have hbox6 := V6.box
      unfold linkC at hbox6
      obtain ⟨⟨q0, q1, q2, q3⟩, ⟨q4, q5, q6, q7⟩, -⟩ := cells_eight hbox6
      clear own6 V6 hB6 hO6 hbC hbox6
      go_upto_block 2 with fail
      go_cut [12, 13, 14, 15, 16, 17, 18, 19, 20, 21, 22, 23, 24, 25, 26, 27] from 36 to 174 (fun _ _ _ _ _ _ _ _ _ _ _ _ _ _ _ _ wx => RunC W pl pm gb bm i wx)
      case first =>
        by_cases cK0 : K = 0
        · subst cK0
          obtain ⟨herr, hS7⟩ := HS.out.send B
          have HS7 := Lib.hid hS7
          have HN7 := Lib.hid (sendR_next m B)
          clear hS7
          go_wp2_with fail
          refine (sendR_any (Col col 40) m r bo bm bc B w6 HV6.out.ref hok.out HB6.out (by omega)).mono ?_
          rintro e w7 ⟨r7, rfl, ht⟩
          obtain ⟨col7, V7, old7, -⟩ := HV6.out.doc ht
          have k7 := ht.1
          have hcG7 : Hid (col7 gb = 0) := Lib.hid ((old7 gb hgw.out).trans hcG.out.1)
          generalize (sendR m B).1 = m7 at *
          generalize (sendR m B).2 = er at *
          have hne : (((sendF s B).2 : Int) != (er : Int)) = false := by rw [herr]; simp
          have k8 : Kp Noone w7 (w7.alloc (.cells (linkC m7 r7) 29)) := (Kp.refl _ _).alloc _
          have hn8 := heap_alloc_new w7 (.cells (linkC m7 r7) 29)
          obtain ⟨w8, hw8⟩ : ∃ x, w7.alloc (.cells #[.int .i64 m7.boot, .int .i64 m7.retry, .int .i64 m7.next, .slice r7.oo m7.out.length r7.oc, .slice r7.ko (m7.acks.length * 2) r7.kc, .int .i64 m7.peer, .int .i64 m7.below, .slice r7.co m7.came.length r7.cc] 29) = x := ⟨_, rfl⟩
          change Kp Noone w7 (w7.alloc (.cells #[.int .i64 m7.boot, .int .i64 m7.retry, .int .i64 m7.next, .slice r7.oo m7.out.length r7.oc, .slice r7.ko (m7.acks.length * 2) r7.kc, .int .i64 m7.peer, .int .i64 m7.below, .slice r7.co m7.came.length r7.cc] 29)) at k8
          change (w7.alloc (.cells #[.int .i64 m7.boot, .int .i64 m7.retry, .int .i64 m7.next, .slice r7.oo m7.out.length r7.oc, .slice r7.ko (m7.acks.length * 2) r7.kc, .int .i64 m7.peer, .int .i64 m7.below, .slice r7.co m7.came.length r7.cc] 29)).heap[w7.heap.size]? = _ at hn8
          rw [hw8] at k8 hn8
          have hbox8 := k8.heap V7.box id
          have K9 := putL_kp w8 pm m7 r7
          have V9 := (V7.keep k8).stored
          have own9 := ((OWN6.out.keep k7).keep k8).kp K9 (fun j hj c => by have := hpg.out; have := hgg.out; omega)
          have hz9 : Hid (gb < _) := Lib.hid (Nat.lt_of_lt_of_le hgw.out (Nat.le_trans k7.size (Nat.le_trans k8.size K9.size)))
          have HV9 := Lib.hid V9
          have HO9 := Lib.hid own9
          clear ht old7 herr V7 k7 k8 K9 V9 own9
          unfold linkV
          go_upto_region 13 with fail
          generalize w7.heap.size = g7 at *
          unfold linkC at hn8
          obtain ⟨⟨q0, q1, q2, q3⟩, ⟨q4, q5, q6, q7⟩, -⟩ := cells_eight hn8
          clear hn8
          iterate 4 go_step
          refine wpList_store_link (by dsimp only) (.tmp 8) (.tmp 64) (by dsimp only) pm m7 r7 (by rfl) (by rfl) hbox8 ?_
          clear q0 q1 q2 q3 q4 q5 q6 q7 hbox8
          go_wp2_with fail
          refine (send_lk W.heap.size col7 0 pl s _ bm bm B _ HV9.out.la HV9.out.X.cols HV9.out.size HO9.out.bs hsn.out).mono ?_
          rintro e w10 ⟨col10, rfl, x10, l10⟩
          have R := Lib.hid (RunC.mk (i := i) ⟨col10, _, m7, r7, B, HV9.out.call x10 l10, HS7.out, by have h1 := HN7.out.1; have h2 := HNX.out; omega, by have h1 := HN7.out.2; have h2 := HCM.out; rw [h1]; omega, HO9.out.kp x10.kp (fun j hj c => by subst hj; have := hcG7.out; rw [this] at c; unfold S5 at c; omega), (x10.old gb hz9.out).trans hcG7.out, hcG.out.2⟩)
          clear x10 l10 HV9 HO9
          go_wp2_with fail
          go_meet
          case rel => exact R.out
        · by_cases cK1 : K = 1
          · subst cK1
            obtain ⟨herr, hS7⟩ := HS.out.emit N
            have HS7 := Lib.hid hS7
            have HN7 := Lib.hid (emitR_next m N)
            clear hS7
            go_wp2_with fail
            refine (emitR_any (Col col 40) m r N w6 HV6.out.ref hok.out hI1).mono ?_
            rintro e w7 ⟨r7, fo, fcap, rfl, ht, hfr⟩
            obtain ⟨col7, V7, old7, new7⟩ := HV6.out.doc ht
            have k7 := ht.1
            have hcG7 : Hid (col7 gb = 0) := Lib.hid ((old7 gb hgw.out).trans hcG.out.1)
            have hfr7 : FrsP (fun j => col7 j = 40) w7 fo (emitR m N).2.length fcap (emitR m N).2 := FrsP.mono hfr (fun j h1 h2 => new7 j h2 h1)
            generalize (emitR m N).1 = m7 at *
            rw [herr] at hfr7 ⊢
            have k8 : Kp Noone w7 (w7.alloc (.cells (linkC m7 r7) 29)) := (Kp.refl _ _).alloc _
            have hn8 := heap_alloc_new w7 (.cells (linkC m7 r7) 29)
            obtain ⟨w8, hw8⟩ : ∃ x, w7.alloc (.cells #[.int .i64 m7.boot, .int .i64 m7.retry, .int .i64 m7.next, .slice r7.oo m7.out.length r7.oc, .slice r7.ko (m7.acks.length * 2) r7.kc, .int .i64 m7.peer, .int .i64 m7.below, .slice r7.co m7.came.length r7.cc] 29) = x := ⟨_, rfl⟩
            change Kp Noone w7 (w7.alloc (.cells #[.int .i64 m7.boot, .int .i64 m7.retry, .int .i64 m7.next, .slice r7.oo m7.out.length r7.oc, .slice r7.ko (m7.acks.length * 2) r7.kc, .int .i64 m7.peer, .int .i64 m7.below, .slice r7.co m7.came.length r7.cc] 29)) at k8
            change (w7.alloc (.cells #[.int .i64 m7.boot, .int .i64 m7.retry, .int .i64 m7.next, .slice r7.oo m7.out.length r7.oc, .slice r7.ko (m7.acks.length * 2) r7.kc, .int .i64 m7.peer, .int .i64 m7.below, .slice r7.co m7.came.length r7.cc] 29)).heap[w7.heap.size]? = _ at hn8
            rw [hw8] at k8 hn8
            have hbox8 := k8.heap V7.box id
            have K9 := putL_kp w8 pm m7 r7
            have hpc := V7.pmc
            have V9 := (V7.keep k8).stored
            have own9 := ((OWN6.out.keep k7).keep k8).kp K9 (fun j hj c => by have := hpg.out; have := hgg.out; omega)
            have hO9 := K9.heap (k8.heap (k7.heap HO6.out id) id) (fun c => by have := hpg.out; omega)
            have hfr9 := (hfr7.kp k8 (fun j c d => d)).kp K9 (fun j c d => by subst d; omega)
            have hz9 : Hid (gb < _) := Lib.hid (Nat.lt_of_lt_of_le hgw.out (Nat.le_trans k7.size (Nat.le_trans k8.size K9.size)))
            obtain ⟨p90, p91, p92, -, -, -⟩ := cells_three hO9
            have HV9 := Lib.hid V9
            have HO9 := Lib.hid own9
            have HF9 := Lib.hid hfr9
            clear ht old7 new7 herr V7 k7 k8 K9 V9 own9 hfr hfr7 hfr9 hO9
            obtain ⟨⟨r1, hl1⟩, hi1⟩ := HV9.out.la
            have HL1 := Lib.hid hl1
            have HI1 := Lib.hid hi1
            have hfl : (emitF s N).2.length ≤ 128 := by have h1 := emitF_len (s := s) N; have h2 := hi1.ok.outL; have h3 := hi1.ok.acksL; omega
            have HEI := Lib.hid (emitF_inv hi1 hI1)
            clear hl1 hi1
            unfold linkV
            go_upto_region 18 with fail
            generalize w7.heap.size = g7 at *
            unfold linkC at hn8
            obtain ⟨⟨q0, q1, q2, q3⟩, ⟨q4, q5, q6, q7⟩, -⟩ := cells_eight hn8
            clear hn8
            iterate 4 go_step
            refine wpList_store_link (by dsimp only) (.tmp 8) (.tmp 79) (by dsimp only) pm m7 r7 (by rfl) (by rfl) hbox8 ?_
            clear q0 q1 q2 q3 q4 q5 q6 q7 hbox8
            go_wp2_with fail
            refine (out_at W.heap.size col7 0 pl s r1 N _ HL1.out HV9.out.X.cols HI1.out.ok HV9.out.size hI1).mono ?_
            rintro e w10 ⟨yo, yc, rfl, hg, hl10, k10⟩
            have x10 : Ext W.heap.size (S5 0) col7 _ col7 w10 := ⟨HV9.out.X.cols.keep k10.size, fun _ _ => rfl, fun j hj hn => by have := HV9.out.X.cols j hn; omega, k10⟩
            have V10 := HV9.out.call x10 ⟨hl10, HEI.out⟩
            have O10 := HO9.out.kp k10 (fun j hj c => by subst hj; have := hcG7.out; omega)
            have hb2 := (HF9.out.kp k10 (fun j hj c => by omega)).bss
            have hb1 := hg.bss
            have R0 := fun (W' : World) (h : RunV W pl pm col7 (emitF s N).1 m7 r7 m7 r7 W') (o : Own (fun j => j = gb) W' 5 1 (some ⟨gb, 0, none⟩) bm bm (bv B)) =>
              RunC.mk (W := W) (pl := pl) (pm := pm) (gb := gb) (nb := bm) (i := i) ⟨col7, _, m7, r7, B, h, HS7.out, by have h1 := HN7.out.1; have h2 := HNX.out; omega, by have h1 := HN7.out.2; have h2 := HCM.out; rw [h1]; omega, o, hcG7.out, hcG.out.2⟩
            obtain ⟨hs, A, D, hA, hD, hAD, hfl2, hhl, hown, G, gD, gI, -, g4⟩ := hg
            have hDZ : Hid (∀ a, D a → col7 a = 0 ∧ W.heap.size ≤ a ∧ gb < a) := Lib.hid (fun a ha => by
              have h1 := hD a ha
              have h2 := HV9.out.size
              have h3 := hz9.out
              exact ⟨Classical.byContradiction fun d => by have := HV9.out.X.cols a d; omega, Nat.le_trans h2 h1, Nat.lt_of_lt_of_le h3 h1⟩)
            clear hA hD x10 k10 hl10 HV9 HO9 HF9 HL1 HI1 HEI hz9 HS7 HN7
            generalize (emitF s N).2 = fs at *
            generalize (emitF s N).1 = s10 at *
            have HR0 := Lib.hid R0
            have HB1 := Lib.hid hb1
            have HB2 := Lib.hid hb2
            have HV10 := Lib.hid V10
            have HO10 := Lib.hid O10
            have HOW := Lib.hid hown
            have HG4 := Lib.hid g4
            have HGD := Lib.hid gD
            have HGI := Lib.hid gI
            have HAD := Lib.hid hAD
            clear R0 hb1 hb2 V10 O10 hown g4 gD gI hAD
            go_wp2_with fail
            refine (frsSame_any yo fs.length yc fo fs.length fcap fs w10 HB1.out HB2.out (by omega)).mono ?_
            rintro e w11 ⟨rfl, k11⟩
            have HV11 := Lib.hid (HV10.out.keep k11)
            have HO11 := Lib.hid (HO10.out.keep k11)
            have HOW11 := Lib.hid (HOW.out.keep k11)
            have HG11 : Hid (∀ i (h : i < hs.length), ∃ l, Own (G i) w11 5 1 hs[i].1 hs[i].2.1 hs[i].2.2 (bv l)) := Lib.hid (fun i h => ⟨_, (HG4.out i h (by omega)).keep k11⟩)
            clear HB1 HB2 HV10 HO10 HOW HG4 k11
            generalize fs.length = fn at *
            go_wp2_with fail
            go_loopw [90] (fun jv wq => GotR A D G hs w11 yo fn yc jv wq) (fun v _ => fn - (intOf v).toNat)
            case atStart => exact GotR.mk ⟨0, by rfl, Nat.zero_le _, HOW11.out, HG11.out, Kp.refl _ _⟩
            case round =>
              obtain ⟨j, rfl, hj, hoA, hdat, kq⟩ := hrel.ex
              clear HOW11 HG11
              by_cases hlt2 : j < fn
              · have hjs : j < hs.length := by omega
                obtain ⟨g, off2, rfl, hAg, hgl, hcell, hfz⟩ := hoA.at (k := j) (by simp [headsL]; omega)
                obtain ⟨l, hol⟩ := hdat j hjs
                have hce : (headsL hs)[j]'(by simp [headsL]; omega) = .slice hs[j].1 hs[j].2.1 hs[j].2.2 := by simp [headsL]
                rw [hce] at hcell
                clear hce
                obtain ⟨xo, hxo⟩ : ∃ v, Hid (hs[j].1 = v) := ⟨_, Lib.hid rfl⟩
                obtain ⟨xn, hxn⟩ : ∃ v, Hid (hs[j].2.1 = v) := ⟨_, Lib.hid rfl⟩
                obtain ⟨xc, hxc⟩ : ∃ v, Hid (hs[j].2.2 = v) := ⟨_, Lib.hid rfl⟩
                rw [hxo.out, hxn.out, hxc.out] at hcell hol
                have hxm : xn ≤ 9223372036854775807 := by have h1 := hol.2.1; have h2 := hol.2.2.1; unfold maxLen at h2; omega
                have hwj : IntKind.i64.wrap ((j : Int) + 1) = (j : Int) + 1 := IntWalk.i64_in _ (by omega)
                have HOL := Lib.hid hol
                have HOA := Lib.hid hoA
                have HDT := Lib.hid hdat
                have HKQ := Lib.hid kq
                clear hol hoA hdat kq
                go_wp2_with fail
                go_loopw [98] (fun kv wp => FlipR (G j) wr xo xn xc kv wp) (fun v _ => xn - (intOf v).toNat)
                case atStart => exact FlipR.mk ⟨0, l, by rfl, Nat.zero_le _, HOL.out, Kp.refl _ _⟩
                case round =>
                  obtain ⟨k, ys, rfl, hk, hor, kp⟩ := hrel.ex
                  clear HOL
                  have hcp := kp.cell hcell (fun c => HAD.out g hAg (HGD.out j g c))
                  by_cases hlt3 : k < xn
                  · obtain ⟨g3, off3, hkl, rfl, hG3, hg3, hc3, hf3, hset⟩ := hor.byte hlt3
                    have hwk : IntKind.i64.wrap ((k : Int) + 1) = (k : Int) + 1 := IntWalk.i64_in _ (by omega)
                    have hfp := Lib.hid (flip_val ys[k])
                    have hst := Lib.hid (hset (ys[k] ^^^ 255))
                    have HKP := Lib.hid kp
                    generalize ys[k] = x at *
                    clear hset hor kp
                    go_wp2_with fail
                    go_roundw
                    case rel => exact FlipR.mk ⟨k + 1, _, by rfl, by omega, by rw [hfp.out]; exact hst.out, HKP.out.setCell (fun _ => hG3) _⟩
                    case measure => simp [intOf]; omega
                  · have R := Lib.hid (GotR.mk (A := A) (D := D) (G := G) (hs := hs) (w0 := w11) (go := some ⟨g, off2, none⟩) (n := fn) (gcap := yc) (jv := .int .i64 ((j + 1 : Nat) : Int)) ⟨j + 1, by rfl, by omega, HOA.out.kp kp (fun a ha c => HAD.out a ha (HGD.out j a c)), fun i2 h => by
                        by_cases hij : i2 = j
                        · subst hij
                          exact ⟨ys, by rw [hxo.out, hxn.out, hxc.out]; exact hor⟩
                        · obtain ⟨l2, h2⟩ := HDT.out i2 h
                          exact ⟨l2, h2.kp kp (fun a ha c => hij (HGI.out i2 j a ha c))⟩, HKQ.out.trans (kp.mono (fun a _ c => HGD.out j a c))⟩)
                    clear hor kp HOA HDT HKQ
                    go_wp2_with fail
                    go_roundw
                    case rel => exact R.out
                    case measure => simp [intOf]; omega
              · have R := Lib.hid (HR0.out wr (HV11.out.flip kq (fun a ha c => ⟨(hDZ.out a c).1, (hDZ.out a c).2.1⟩)) (HO11.out.kp kq (fun a ha c => by subst ha; have := (hDZ.out _ c).2.2; omega)))
                clear hoA hdat kq HV11 HO11 HR0
                go_wp2_with fail
                go_meet
                case rel => exact R.out
          · by_cases cK2 : K = 2
            · subst cK2
              obtain ⟨⟨m7, x, ok, er⟩, hR⟩ : ∃ q, inR m (parse B) = q := ⟨_, rfl⟩
              obtain ⟨hin, hS7⟩ := HS.out.inn HV6.out.la.2 (parse B) (by have := (parse_ok B).1.boot; omega) (by have := (parse_ok B).1.num; omega)
              have HN7 := inR_next m (parse B)
              rw [hR] at hin hS7 HN7
              have HS7 := Lib.hid hS7
              replace HN7 := Lib.hid HN7
              have hF : Hid (inF s (parse B) = ((inF s (parse B)).1, x, ok, er)) := Lib.hid (Prod.ext rfl hin.symm)
              generalize (inF s (parse B)).1 = s7 at *
              clear hin hS7
              go_wp2_with fail
              refine (inR_any (Col col 40) m r bo bm bc B w6 HV6.out.ref hok.out HB6.out (by omega) m7 x ok er hR).mono ?_
              rintro e w7 ⟨r7, xo, xc, rfl, ht, hx⟩
              obtain ⟨col7, V7, old7, new7⟩ := HV6.out.doc ht
              have k7 := ht.1
              have hcG7 : Hid (col7 gb = 0) := Lib.hid ((old7 gb hgw.out).trans hcG.out.1)
              have hx7 : DataAt (fun j => col7 j = 40) w7 (xo, x.length, xc) x := DataAt.mono hx (fun j h1 h2 => new7 j h2 h1)
              have k8 : Kp Noone w7 (w7.alloc (.cells (linkC m7 r7) 29)) := (Kp.refl _ _).alloc _
              have hn8 := heap_alloc_new w7 (.cells (linkC m7 r7) 29)
              obtain ⟨w8, hw8⟩ : ∃ x, w7.alloc (.cells #[.int .i64 m7.boot, .int .i64 m7.retry, .int .i64 m7.next, .slice r7.oo m7.out.length r7.oc, .slice r7.ko (m7.acks.length * 2) r7.kc, .int .i64 m7.peer, .int .i64 m7.below, .slice r7.co m7.came.length r7.cc] 29) = x := ⟨_, rfl⟩
              change Kp Noone w7 (w7.alloc (.cells #[.int .i64 m7.boot, .int .i64 m7.retry, .int .i64 m7.next, .slice r7.oo m7.out.length r7.oc, .slice r7.ko (m7.acks.length * 2) r7.kc, .int .i64 m7.peer, .int .i64 m7.below, .slice r7.co m7.came.length r7.cc] 29)) at k8
              change (w7.alloc (.cells #[.int .i64 m7.boot, .int .i64 m7.retry, .int .i64 m7.next, .slice r7.oo m7.out.length r7.oc, .slice r7.ko (m7.acks.length * 2) r7.kc, .int .i64 m7.peer, .int .i64 m7.below, .slice r7.co m7.came.length r7.cc] 29)).heap[w7.heap.size]? = _ at hn8
              rw [hw8] at k8 hn8
              have hbox8 := k8.heap V7.box id
              have K9 := putL_kp w8 pm m7 r7
              have hpc := V7.pmc
              have V9 := (V7.keep k8).stored
              have own9 := ((OWN6.out.keep k7).keep k8).kp K9 (fun j hj c => by have := hpg.out; have := hgg.out; omega)
              have hx9 := (hx7.kp k8 (fun j c d => d)).kp K9 (fun j c d => by subst d; omega)
              have hz9 : Hid (gb < _) := Lib.hid (Nat.lt_of_lt_of_le hgw.out (Nat.le_trans k7.size (Nat.le_trans k8.size K9.size)))
              have HV9 := Lib.hid V9
              have HO9 := Lib.hid own9
              have HX9 := Lib.hid hx9
              clear ht old7 new7 V7 k7 k8 K9 V9 own9 hx hx7 hx9 hR
              unfold linkV
              go_upto_region 33 with fail
              generalize w7.heap.size = g7 at *
              unfold linkC at hn8
              obtain ⟨⟨q0, q1, q2, q3⟩, ⟨q4, q5, q6, q7⟩, -⟩ := cells_eight hn8
              clear hn8
              iterate 4 go_step
              refine wpList_store_link (by dsimp only) (.tmp 8) (.tmp 123) (by dsimp only) pm m7 r7 (by rfl) (by rfl) hbox8 ?_
              clear q0 q1 q2 q3 q4 q5 q6 q7 hbox8
              go_wp2_with fail
              refine (in_lk W.heap.size col7 0 pl s _ bm bm B _ HV9.out.la HV9.out.X.cols HV9.out.size HO9.out.bs (by omega) s7 x ok er hF.out).mono ?_
              rintro e w10 ⟨yo, yc, col10, rfl, x10, l10, hy⟩
              have HV10 := Lib.hid (HV9.out.call x10 l10)
              have HO10 := Lib.hid (HO9.out.kp x10.kp (fun j hj c => by subst hj; have := hcG7.out; rw [this] at c; unfold S5 at c; omega))
              have HX10 := Lib.hid (HX9.out.kp x10.kp (fun j hj c => by rw [hj] at c; unfold S5 at c; omega))
              have hcG10 : Hid (col10 gb = 0) := Lib.hid ((x10.old gb hz9.out).trans hcG7.out)
              obtain ⟨F, hyf, hyF⟩ : ∃ F : Nat → Prop, Own F w10 5 1 yo x.length yc (bv x) ∧ Hid (∀ j, F j → gb < j ∧ col10 j = 0 ∧ W.heap.size ≤ j) := ⟨_, hy, Lib.hid (fun j h => ⟨Nat.lt_of_lt_of_le hz9.out h.1, h.2, Nat.le_trans HV9.out.size h.1⟩)⟩
              have HY := Lib.hid hyf
              have R0 := fun (W' : World) (h : RunV W pl pm col10 s7 m7 r7 m7 r7 W') (o : Own (fun j => j = gb) W' 5 1 (some ⟨gb, 0, none⟩) bm bm (bv B)) =>
                RunC.mk (W := W) (pl := pl) (pm := pm) (gb := gb) (nb := bm) (i := i) ⟨col10, _, m7, r7, B, h, HS7.out, by have h1 := HN7.out.1; have h2 := HNX.out; omega, by have h1 := HN7.out.2; have h2 := HCM.out; omega, o, hcG10.out, hcG.out.2⟩
              have HR0 := Lib.hid R0
              have hxl : x.length ≤ 9223372036854775807 := by have h1 := hy.2.1; have h2 := hy.2.2.1; unfold maxLen at h2; omega
              have hne : ((er : Int) != (er : Int)) = false := by simp
              have hno : (ok != ok) = false := by simp
              have hxx : (x == x) = true := beq_self_eq_true _
              clear x10 l10 HV9 HO9 HX9 hy hyf R0
              go_wp2_with fail
              refine (same_any yo xo x.length yc x.length xc x x w10 HY.out.bs HX10.out.1 hxl).mono ?_
              rw [hxx]
              rintro e w11 ⟨rfl, q, hw11⟩
              have k11 : Kp Noone w10 w11 := by rw [hw11]; exact (Kp.refl Noone w10).drewN q
              have HV11 := Lib.hid (HV10.out.keep k11)
              have HO11 := Lib.hid (HO10.out.keep k11)
              have HY11 := Lib.hid (HY.out.keep k11)
              clear HV10 HO10 HY HX10 k11 hw11 hxx hne hno
              generalize x.length = xn at *
              go_wp2_with fail
              go_loopw [147] (fun jv wq => FlipR F w11 yo xn yc jv wq) (fun v _ => xn - (intOf v).toNat)
              case atStart => exact FlipR.mk ⟨0, _, by rfl, Nat.zero_le _, HY11.out, Kp.refl _ _⟩
              case round =>
                obtain ⟨k, ys, rfl, hk, hor, kp⟩ := hrel.ex
                clear HY11
                by_cases hlt3 : k < xn
                · obtain ⟨g3, off3, hkl, rfl, hG3, hg3, hc3, hf3, hset⟩ := hor.byte hlt3
                  have hwk : IntKind.i64.wrap ((k : Int) + 1) = (k : Int) + 1 := IntWalk.i64_in _ (by omega)
                  have hfp := Lib.hid (flip_val ys[k])
                  have hst := Lib.hid (hset (ys[k] ^^^ 255))
                  have HKP := Lib.hid kp
                  generalize ys[k] = x2 at *
                  clear hset hor kp
                  go_wp2_with fail
                  go_roundw
                  case rel => exact FlipR.mk ⟨k + 1, _, by rfl, by omega, by rw [hfp.out]; exact hst.out, HKP.out.setCell (fun _ => hG3) _⟩
                  case measure => simp [intOf]; omega
                · have R := Lib.hid (HR0.out wr (HV11.out.flip kp (fun a ha c => ⟨(hyF.out a c).2.1, (hyF.out a c).2.2⟩)) (HO11.out.kp kp (fun a ha c => by subst ha; have := (hyF.out _ c).1; omega)))
                  clear hor kp HV11 HO11 HR0
                  go_wp2_with fail
                  go_meet
                  case rel => exact R.out
            · have e0 : (K == 0) = false := by simpa using cK0
              have e1 : (K == 1) = false := by simpa using cK1
              have e2 : (K == 2) = false := by simpa using cK2
              have R := Lib.hid (RunC.mk (i := i) ⟨col, s, m, r, B, HV6.out, HS.out, by have := HNX.out; omega, by have := HCM.out; omega, OWN6.out, hcG.out⟩)
              clear cK0 cK1 cK2
              go_wp2_with fail
              go_meet
              case rel => exact R.out
      case rest =>
        clear q0 q1 q2 q3 q4 q5 q6 q7 p0 p1 p2 HV6 HS HNX HCM OWN6 HO6 HB6 HBC hok hsn hcG
        obtain ⟨col2, s2, m2, r2, bs, V, hS2, hnx2, hcm2, hown, hcg, hWg⟩ := hcut.ex
        have HV2 := Lib.hid V
        have HOW := Lib.hid hown
        have HS2 := Lib.hid hS2
        have HN2 := Lib.hid hnx2
        have HC2 := Lib.hid hcm2
        have HCG := Lib.hid hcg
        have HWG := Lib.hid hWg
        clear hcut V hS2 hnx2 hcm2 hown hcg hWg
        go_wp2_with fail
        go_loopw [159] (fun jv wq => FlipR (fun j => j = gb) wc (some ⟨gb, 0, none⟩) bm bm jv wq) (fun v _ => bm - (intOf v).toNat)
        case atStart => exact FlipR.mk ⟨0, _, by rfl, Nat.zero_le _, HOW.out, Kp.refl _ _⟩
        case round =>
          obtain ⟨j, xs, rfl, hj, hor, kq⟩ := hrel.ex
          by_cases hlt2 : j < bm
          · obtain ⟨g, off2, hkl, hge, hFg, hg, hc, hf, hset⟩ := hor.byte hlt2
            cases hge
            simp only [Nat.zero_add] at hc hf hset
            have hwj : IntKind.i64.wrap ((j : Int) + 1) = (j : Int) + 1 := IntWalk.i64_in _ (by omega)
            have hfl := Lib.hid (flip_val xs[j])
            have hst := Lib.hid (hset (xs[j] ^^^ 255))
            have HKQ := Lib.hid kq
            generalize xs[j] = x at *
            clear hset hor kq
            go_wp2_with fail
            go_roundw
            case rel => exact FlipR.mk ⟨j + 1, _, by rfl, by omega, by rw [hfl.out]; exact hst.out, HKQ.out.setCell (fun _ => rfl) _⟩
            case measure => simp [intOf]; omega
          · have V3 := HV2.out.flip kq (fun j hj c => by subst c; exact ⟨HCG.out, HWG.out⟩)
            have HV3 := Lib.hid V3
            have hwi : IntKind.i64.wrap ((i : Int) + 1) = (i : Int) + 1 := IntWalk.i64_in _ (by omega)
            have hwt : ∀ q, Calls Try.prog 20 #[.pointer (some ⟨pl, 0, none⟩)] (wr.drewN q) fun e w' => e = .returned (.int .i64 (s2.out.length : Int)) ∧ wr.drewN q = w' := fun q => waiting_lk col2 0 pl s2 _ (HV3.out.la.keep ((Kp.refl Noone _).drewN q))
            have hbox3 := V3.box
            unfold linkC at hbox3
            obtain ⟨⟨-, -, -, q3⟩, -, -⟩ := cells_eight hbox3
            have hne : ((s2.out.length : Int) != (m2.out.length : Int)) = false := by rw [HS2.out.out]; simp
            clear hor kq V3 hbox3
            go_wp2_with fail
            go_quiet ((go_at_call 20; exact Calls.quiet_of_same ((hwt _).mono (fun e w' h => ⟨h.1, h.2.symm⟩))))
            have R := Lib.hid (RunR.mk (n := n) (iv := .int .i64 ((i + 1 : Nat) : Int)) ⟨i + 1, col2, s2, m2, r2, by rfl, by omega, by omega, HV3.out.keep ((Kp.refl Noone _).drewN nq), HS2.out, by have := HN2.out; omega, HC2.out⟩)
            go_wp2_with fail
            go_roundw
            case rel => exact R.out
            case measure => simp [intOf]; omega
    · by_cases hlt : i < n
      · have h100 : ¬ i < 100 := fun c => hgo ⟨hlt, c⟩
        have K := Lib.hid HV.out.kp
        go_wp2_with fail
        go_ret
        exact ⟨rfl, K.out⟩
      · have K := Lib.hid HV.out.kp
        go_wp2_with fail
        go_ret
        exact ⟨rfl, K.out⟩

/-- The law. -/
theorem linkRuns_core {H : Type} {enc : TypeId × Value → H} (W : World) (base : Nat) (v0 : Value) (d0 : DataW H) (p0 : List MemPlace) (v1 : Value) (d1 : DataW H) (p1 : List MemPlace) (v2 : Value) (d2 : DataW H) (p2 : List MemPlace)
    (h0 : DataW.Trod enc Try.prog W 0 (fun _ => true) true 3 v0 d0 p0) (h1 : DataW.Trod enc Try.prog W 0 (fun _ => true) true 3 v1 d1 p1) (h2 : DataW.Trod enc Try.prog W 0 (fun _ => true) true 22 v2 d2 p2)
    (g0 : Value.okWide Try.prog W .any base 3 v0) (g1 : Value.okWide Try.prog W .any base 3 v1) (g2 : Value.okWide Try.prog W .any base 22 v2) (hk : Rows.uptoBulkAll [d0, d1, d2] ≤ 1048576) :
    Calls Try.prog 3 #[v0, v1, v2] W fun e w' => e = .returned (.bool true) ∧ Kp Noone W w' := by
  obtain ⟨boot, rfl, -⟩ := arg_int h0 g0
  obtain ⟨retry, rfl, -⟩ := arg_int h1 g1
  obtain ⟨ao, n, cap, ps, rfl, hb, hc⟩ := arg_op h2 g2
  simp only [Rows.uptoBulkAll] at hk
  exact linkRuns_walk boot retry ao n cap ps W hb (by omega) (by omega)

end Go.Proofs.Ytlpdoefbjhlegaa
