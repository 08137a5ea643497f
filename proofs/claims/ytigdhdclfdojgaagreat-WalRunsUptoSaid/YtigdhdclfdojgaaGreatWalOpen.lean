/-
  wal: THE WALK of Open.
-/
import Derived.Test.YtigdhdclfdojgaaGreatWalOpenP
namespace Go.Proofs.YtigdhdclfdojgaaGreat
open Go.RowKit

/-- Between two strays. -/
structure OpR (B c i : Nat) (col : Nat → Nat) (w : World) (p q pv : Nat) (n : Int) (s0 : DS) (f : FoundS) (po : Option Addr) (pc : Nat) (ro : Option Addr) (rc : Nat) (so : Option Addr) (sc : Nat) (rh : RH) (T : DS × Nat) (v : Value) (wr : World) : Prop where
  ex : ∃ (j : Nat) (D : Nat → Nat) (s : DS), v = .int .i64 ((j : Int) - 1) ∧ j ≤ f.rest.length ∧ Ext B (SL i c) col w D wr ∧ OpAt c i D wr p q pv q n s f po pc ro rc so sc rh ∧ s.steps + j ≤ s0.steps + 64 ∧ dropAll (f.rest.take j).reverse s = T

theorem own0_ext {B c i q m : Nat} {D D' : Nat → Nat} {w w' : World} {e sz : Nat} {ao : Option Addr} {n cap : Nat} {xs : List Value} (hci : c ≠ 0 ∧ (c + 1 ≤ i ∨ i + 3 < c)) (h : Own (fun k => (D k = 0 ∧ q ≤ k) ∧ k < m) w e sz ao n cap xs) (hm : m ≤ w.heap.size) (x : Ext B (SL i c) D w D' w') : Own (fun k => (D' k = 0 ∧ q ≤ k) ∧ k < w'.heap.size) w' e sz ao n cap xs :=
  (h.kp x.kp (fun j d a => by rw [d.1.1] at a; unfold SL S3 at a; omega)).mono (fun j hj d => ⟨⟨(x.old j (by have := d.2; omega)).trans d.1.1, d.1.2⟩, hj⟩)
theorem recs0_ext {B c i q m : Nat} {D D' : Nat → Nat} {w w' : World} {rh : RH} {recs : Recs} (hci : c ≠ 0 ∧ (c + 1 ≤ i ∨ i + 3 < c)) (h : RecsAt (fun k => (D k = 0 ∧ q ≤ k) ∧ k < m) w rh recs) (hm : m ≤ w.heap.size) (x : Ext B (SL i c) D w D' w') : RecsAt (fun k => D' k = 0 ∧ q ≤ k) w' rh recs :=
  (h.kp x.kp (fun j _ d a => by rw [d.1.1] at a; unfold SL S3 at a; omega)).mono (fun j _ d => ⟨(x.old j (by have := d.2; omega)).trans d.1.1, d.1.2⟩)
attribute [local irreducible] dropF syncF cutF walName scanF beginF

set_option maxHeartbeats 8000000 in
set_option maxRecDepth 100000 in
theorem open_l (B c i : Nat) (col : Nat → Nat) (w : World) (p : Nat) (s : DS) (n : Int) (h : Dk col i w p s) (hc : Cols B w col) (hBw : B ≤ w.heap.size) (hci : c ≠ 0 ∧ (c + 1 ≤ i ∨ i + 3 < c)) (hst : s.steps < 4611686018420000000) (hsm : ∀ k, (readF s k).1.length ≤ 4194304) :
    Calls Tryz.prog 20 #[.pointer (some ⟨p, 0, none⟩), .int .i64 n] w fun e w' => OpTo B c i col w p (openF s n) e w' := by
  obtain ⟨RES, hRES⟩ : ∃ x, Hid (openF s n = x) := ⟨_, Lib.hid rfl⟩
  rw [hRES.out]
  have HR := hRES.out
  unfold openF at HR
  have hdn := down_dk col i p s w h
  by_cases hds : s.down = true
  · rw [if_pos hds] at HR
    subst HR
    rw [hds] at hdn
    have HD := Lib.hid h
    clear h hRES
    go_enter Tryz.func20, Tryz.ntmps20
    go_wp2_with fail
    refine hdn.mono ?_
    rintro e w' ⟨rfl, rfl⟩
    go_wp2_with fail
    go_ret3
    exact OpTo.fail (e := 2) (Ext.quiet hc (Kp.refl _ _)) HD.out
  rw [if_neg hds] at HR
  have hdf : s.down = false := by simpa using hds
  rw [hdf] at hdn
  have hmm := limF_int n
  have hkA : Kp Noone w (w.alloc (.cells (logC p (freshL n) none 0) 100)) := (Kp.refl _ _).alloc _
  have hscan := scan_w B col i p s _ (h.keep hkA) (hc.keep hkA.size) hsm
  have hbd := scanF_bd h.2 hsm
  generalize scanF s = f at *
  have HRR := Lib.hid HR
  have HD := Lib.hid h
  have HBD := Lib.hid hbd
  have HWA := Lib.hid hkA
  have eA : w.alloc (.cells (logC p (freshL n) none 0) 100) = w.alloc (.cells #[.pointer (some ⟨p, 0, none⟩), .int .i64 (limF n : Int), .slice none 0 0, .int .i64 0, .int .i64 0, .bool false] 100) := rfl
  clear HR hRES hds hdf h hsm hbd hkA
  go_enter Tryz.func20, Tryz.ntmps20
  go_wp2_with fail
  refine hdn.mono ?_
  clear hdn
  rintro e w' ⟨rfl, rfl⟩
  go_upto_region 6 with fail
  rw [← eA]
  clear eA
  generalize hwA : w.alloc (.cells (logC p (freshL n) none 0) 100) = wA at *
  have HEA := Lib.hid hwA.symm
  clear hwA
  go_wp2_with fail
  refine hscan.mono ?_
  clear hscan
  rintro e w2 hto
  obtain ⟨fcol, pf, po, pc, ro, rc, so, sc, rh, rfl, hpf, hF, k2⟩ := hto.ex
  obtain ⟨x0, at0⟩ := OpAt.start (i := i) (c := c) HD.out hc hBw HEA.out hpf hF k2 rfl
  have hv := hF.box
  clear hto hF
  unfold fndC at *
  generalize hqw : w.heap.size = q at *
  have HQW := Lib.hid hqw
  go_upto_region 7 with fail
  generalize w2.heap.size = pv at *
  generalize w2.alloc (.cells #[.slice po f.pieces.length pc, .slice ro f.recs.length rc, .int .i64 (f.next : Int), .int .i64 (f.good : Int), .bool f.whole, .slice so f.rest.length sc] 103) = w3 at *
  generalize opCol col fcol q c = D0 at *
  have hv3 := at0.var
  unfold fndC at hv3
  obtain ⟨⟨y0, y1, y2, y3, y4, y5⟩, -⟩ := cells_6f hv3
  have hrl := HBD.out.rest
  have hwr : IntKind.i64.wrap ((f.rest.length : Int) - 1) = (f.rest.length : Int) - 1 := IntWalk.i64_in _ (by omega)
  have HRL := Lib.hid hrl
  obtain ⟨T, hT⟩ : ∃ x, Hid (dropAll f.rest.reverse s = x) := ⟨_, Lib.hid rfl⟩
  have hR2 := HRR.out
  rw [hT.out] at hR2
  have HR2 := Lib.hid hR2
  have R0 : Hid (OpR B c i col w p q pv n s f po pc ro rc so sc rh T (.int .i64 ((f.rest.length : Int) - 1)) w3) := Lib.hid ⟨⟨f.rest.length, D0, s, rfl, Nat.le_refl _, x0, at0, by omega, by rw [List.take_length]; exact hT.out⟩⟩
  clear hR2 HRR hT hrl hv hv3 x0 at0 hqw hmm hpf k2
  go_wp2_with fail
  go_loopw [9] (fun v wr => OpR B c i col w p q pv n s f po pc ro rc so sc rh T v wr) (fun v _ => (intOf v + 1).toNat)
  case atStart => exact R0.out
  case round =>
    clear R0 y0 y1 y2 y3 y4 y5
    obtain ⟨j, D, s2, rfl, hj, X, at2, hst2, hfold⟩ := hrel.ex
    clear hrel
    have hv3 := at2.var
    unfold fndC at hv3
    obtain ⟨⟨y0, y1, y2, y3, y4, y5⟩, -⟩ := cells_6f hv3
    clear hv3
    cases j with
    | succ k =>
      rw [show ((k + 1 : Nat) : Int) - 1 = (k : Int) by omega]
      have hB2 : B ≤ wr.heap.size := by have := X.size; have := HQW.out; omega
      obtain ⟨g, off, hso, -, -, hcell, -⟩ := at2.rest.at (k := k) (by unfold restV; rw [List.length_map]; omega)
      subst hso
      have hkr : k < f.rest.length := by omega
      have hnum := HBD.out.rests f.rest[k] (List.getElem_mem hkr)
      have hcl : wr.cell? ⟨g, off + k, none⟩ = some (.int .i64 ((f.rest[k] : Nat) : Int)) := by
        rw [hcell]
        unfold restV
        rw [List.getElem_map]
      have htk : (f.rest.take (k + 1)).reverse = f.rest[k] :: (f.rest.take k).reverse := by rw [take_snocG _ _ hkr, List.reverse_append]; rfl
      rw [htk, dropAll_cons] at hfold
      generalize f.rest[k] = num at *
      have hki : (k : Int) < (f.rest.length : Int) := by omega
      have hk0 : (0 : Int) ≤ (k : Int) := by omega
      have hwk : IntKind.i64.wrap ((k : Int) - 1) = (k : Int) - 1 := IntWalk.i64_in _ (by have := HRL.out; omega)
      have har := area_w num wr hnum
      have hns := walName_size num
      have hst3 : s2.steps < 4611686018427387904 := by omega
      have hdr := fun W (K : Kp Noone wr W) => drop_dk B D i p s2 (walName num) W (at2.dk.keep K) (X.cols.keep K.size) (by rw [hns]; omega) hst3
      have hdq := dropF_steps s2 (walName num)
      generalize walName num = nm at *
      generalize dropF s2 nm = r2 at *
      obtain ⟨s3, e2⟩ := r2
      simp only [] at hfold hdr hdq
      have HAT := Lib.hid at2
      have HX := Lib.hid X
      have HF := Lib.hid hfold
      have HST := Lib.hid hst2
      have HDQ := Lib.hid hdq
      have HJ := Lib.hid hj
      clear hcell htk at2 X hfold hst2 hst3 hns hdq hj hnum
      go_wp2_with fail
      refine har.mono ?_
      clear har
      rintro e wa ⟨rfl, ka⟩
      have hdr := hdr wa ka
      go_wp2_with fail
      refine hdr.mono ?_
      clear hdr
      rintro e wb ⟨rfl, D2, x2, d2⟩
      have HX2 := Lib.hid (HX.out.trans ((Ext.quiet HX.out.cols ka).trans (x2.mono (fun x hx => Or.inl hx))))
      have HAT2 := Lib.hid ((HAT.out.keep ka).ext hci x2 d2)
      clear ka x2 d2 y0 y1 y2 y3 y4 y5 hcl
      by_cases he : e2 = 0
      case neg =>
        have h1 := HF.out
        rw [if_pos he] at h1
        have hR3 := HR2.out
        subst h1
        unfold openDrop at hR3
        simp only [] at hR3
        rw [if_pos he] at hR3
        subst hR3
        have n2 : ((e2 : Int) != 0) = true := by simpa using he
        clear he HF HR2
        go_wp2_with fail
        go_ret3
        exact OpTo.fail HX2.out HAT2.out.dk
      subst he
      have h1 := HF.out
      rw [if_neg (by simp)] at h1
      rw [Int.natCast_zero]
      have HH := Lib.hid h1
      clear h1 HF
      go_wp2_with fail
      refine ⟨⟨k, D2, s3, rfl, by have := HJ.out; omega, HX2.out, HAT2.out, by have := HST.out; have := HDQ.out; omega, HH.out⟩, ?_⟩
      unfold intOf
      simp only []
      omega
    | zero =>
      rw [show ((0 : Nat) : Int) - 1 = -1 by omega]
      have hB2 : B ≤ wr.heap.size := by have := X.size; have := HQW.out; omega
      have hT0 : dropAll (f.rest.take 0).reverse s2 = (s2, 0) := rfl
      rw [hT0] at hfold
      subst hfold
      have hR3 := HR2.out
      unfold openDrop at hR3
      simp only [] at hR3
      rw [if_neg (by simp)] at hR3
      have hst3 : s2.steps < 4611686018427000000 := by omega
      clear hT0 HR2 hst2
      by_cases hp : f.pieces = []
      case pos =>
        rw [if_pos hp] at hR3
        have hp0 : f.pieces.length = 0 := by rw [hp]; rfl
        rw [hp0] at y0
        have k1 : Kp Noone wr (wr.alloc (.cells #[.int .i64 1, .int .i64 1] 97)) := (Kp.refl _ _).alloc _
        have hg1 := heap_alloc_new wr (.cells #[.int .i64 1, .int .i64 1] 97)
        have at3 := at2.keep k1
        have hbg := begin_l B c i D _ p q s2 (freshL n) 1 1 ⟨at3.dk, none, 0, at3.box, at3.qc, Own.nil _ _ _ _ _⟩ (X.cols.keep k1.size) (Nat.le_trans hB2 k1.size) hci (by omega) (by omega) (by omega) (by unfold freshL; simp)
        rw [show ((1 : Nat) : Int) = 1 from rfl] at hbg
        generalize beginF s2 (freshL n) 1 1 = r3 at *
        obtain ⟨s4, l4, e4⟩ := r3
        simp only [] at hbg
        have HX1 := Lib.hid (X.trans (Ext.quiet X.cols k1))
        have HR4 := Lib.hid hR3
        clear hR3 at2 at3 X k1 hst3
        obtain ⟨z0, z1, -, -⟩ := cells_two hg1
        clear hg1
        generalize hwB : wr.alloc (.cells #[.int .i64 1, .int .i64 1] 97) = wB at *
        go_upto_region 15 with fail
        clear hwB
        go_wp2_with fail
        refine hbg.mono ?_
        clear hbg
        rintro e w5 hto
        obtain ⟨D5, rfl, x5, h5⟩ := hto.ex
        have HX5 := Lib.hid (HX1.out.trans x5)
        clear hto x5
        have hR5 := HR4.out
        unfold openNew at hR5
        simp only [] at hR5
        by_cases he : e4 = 0
        case neg =>
          rw [if_pos he] at hR5
          subst hR5
          have n2 : ((e4 : Int) != 0) = true := by simpa using he
          clear he HR4
          go_wp2_with fail
          go_ret3
          exact OpTo.fail HX5.out h5.dk
        subst he
        rw [if_neg (by simp)] at hR5
        subst hR5
        rw [Int.natCast_zero]
        clear HR4
        go_wp2_with fail
        go_ret3
        exact ⟨D5, HX5.out, h5.dk, Or.inr ⟨l4, [], q, none, 0, [], rfl, rfl, rfl, by have := HQW.out; omega, h5, Own.nil _ _ _ _ _, RecsAt.nil _ _⟩⟩
      rw [if_neg hp] at hR3
      obtain ⟨np, hnp⟩ : ∃ x, Hid (f.pieces.length = x) := ⟨_, Lib.hid rfl⟩
      have hnp0 : ((np : Int) == 0) = false := by
        have h0 := List.length_pos_iff.2 hp
        have := hnp.out
        simp
        omega
      rw [hnp.out] at y0
      have hbq : wr.heap[q]? = some (.cells #[.pointer (some ⟨p, 0, none⟩), .int .i64 (limF n : Int), .slice none 0 0, .int .i64 0, .int .i64 0, .bool false] 100 (0, 0)) := at2.box
      have hqp : ¬ q = pv := fun e => by have h1 := at2.qc; rw [e, at2.vc] at h1; exact hci.1 h1.symm
      have HAT := Lib.hid at2
      have HX := Lib.hid X
      have HR4 := Lib.hid hR3
      have HP := Lib.hid hp
      clear hp hR3 at2 X
      obtain ⟨⟨x0, x1, x2, x3, x4, x5⟩, xf⟩ := cells_6f hbq
      go_upto_region 19 with fail
      have xf2 := xf 2
      have xf3 := xf 3
      have xf4 := xf 4
      clear xf x0 x1 x5 hwr y1 y4 y5 hj
      have HNP := Lib.hid hnp0
      clear hnp0
      have kd : Kp (fun j => j = q) wr wr.drew := (Kp.refl _ _).drew
      have hbq' : wr.drew.heap[q]? = _ := hbq
      apply wp_region_zero (G := fun wz => wz.heap[q]? = some (.cells #[.pointer (some ⟨p, 0, none⟩), .int .i64 (limF n : Int), .slice po np pc, .int .i64 (f.next : Int), .int .i64 (f.good : Int), .bool false] 100 (0, 0)) ∧ Kp (fun j => j = q) wr wz)
      case h =>
        go_region
        refine NoPanic.normal ⟨rfl, rfl, ?_, ?_⟩
        · refine (heap_set_cell (heap_set_cell (heap_set_cell hbq'))).trans ?_
          simp
        · exact (((kd.setCell (p := ⟨q, 2, none⟩) (fun _ => rfl) _).setCell (p := ⟨q, 3, none⟩) (fun _ => rfl) _).setCell (p := ⟨q, 4, none⟩) (fun _ => rfl) _)
      case k =>
        intro wz hG
        obtain ⟨hbz, kz⟩ := hG
        have hatz := HAT.out
        have hbz2 : wz.heap[q]? = some (.cells (logC p (foundL f n) po pc) 100 (0, 0)) := by
          rw [hbz]
          unfold logC foundL
          simp only [hnp.out]
        have hvz := kz.heap hatz.var (fun e => hqp e.symm)
        have hcq := hatz.qc
        have hlz : LAt c D wz p q (foundL f n) po pc := ⟨hbz2, hcq, hatz.pieces.kp kz (fun j d e => by have d1 : D j = c + 1 := d; rw [e] at d1; omega)⟩
        have hxz : Ext B (SL i c) col w D wz := HX.out.trans (box_extS HX.out.cols (kz.mono (fun j _ e => by rw [e, hcq]; exact Or.inr (Or.inl rfl))))
        have hdz : Dk D i wz p s2 := by
          obtain ⟨⟨r7, hr7⟩, hi7⟩ := hatz.dk
          exact ⟨⟨r7, hr7.beside (S := fun x => x = c) (kz.mono (fun j _ e => by rw [e]; exact hcq)) (fun x a b => by unfold S3 at a; omega)⟩, hi7⟩
        have hrz := hatz.recs.kp kz (fun j d e => by have d1 := d.1.1; rw [e, hcq] at d1; exact hci.1 d1)
        have hrd := (hatz.rdat.mono (Q := fun k => (D k = 0 ∧ q ≤ k) ∧ k < wr.heap.size) (fun j hj d => ⟨d, hj⟩)).kp kz (fun j _ d e => by have d1 := d.1.1; rw [e, hcq] at d1; exact hci.1 d1)
        have hBz : B ≤ wz.heap.size := Nat.le_trans hB2 kz.size
        have hzs := kz.size
        have hok := foundL_ok HBD.out HP.out n
        have hlst := last_l c i D wz p q s2 (foundL f n) ⟨hdz, po, pc, hlz⟩ hok
        have hns := walName_size (lastP (foundL f n)).1
        have hR5 := HR4.out
        generalize walName (lastP (foundL f n)).1 = nm at *
        have hct := fun W (K : Kp Noone wz W) => cut_lg B c i D W p q s2 (foundL f n) nm (f.good : Int) (Lg.keep ⟨hdz, po, pc, hlz⟩ K) (hxz.cols.keep K.size) (Nat.le_trans hBz K.size) hci (by omega) (by omega)
        have hcs := cutF_steps s2 nm (f.good : Int)
        generalize cutF s2 nm (f.good : Int) = r3 at *
        obtain ⟨s3, e3⟩ := r3
        unfold openCut at hR5
        simp only [] at hR5 hct hcs
        have HR6 := Lib.hid hR5
        have HZX := Lib.hid hxz
        have HRZ := Lib.hid hrz
        have HRD := Lib.hid hrd
        have HVZ := Lib.hid hvz
        have hvc := hatz.vc
        unfold fndC at hvz
        obtain ⟨⟨v0, v1, v2, v3, v4, v5⟩, -⟩ := cells_6f hvz
        clear hR5 HR4 hbz kz hatz hbz2 hvz hlz hxz hdz hrz hrd hok hbq hbq' kd y0 y2 y3 x2 x3 x4 xf2 xf3 xf4 v0 v1 v2 v4 v5
        go_wp2_with fail
        refine hlst.mono ?_
        clear hlst
        rintro e w4 ⟨rfl, k4⟩
        have v3 := k4.cell v3 id
        have hct := hct w4 k4
        go_wp2_with fail
        refine hct.mono ?_
        clear hct
        rintro e w5 hto
        obtain ⟨D5, rfl, x5, h5⟩ := hto.ex
        have HX5 := Lib.hid ((Ext.quiet (S := SL i c) HZX.out.cols k4).trans x5)
        clear hto x5 k4 v3
        by_cases he : e3 = 0
        case neg =>
          have hR7 := HR6.out
          rw [if_pos he] at hR7
          subst hR7
          have n2 : ((e3 : Int) != 0) = true := by simpa using he
          clear he HR6
          go_wp2_with fail
          go_ret3
          exact OpTo.fail (HZX.out.trans HX5.out) h5.dk
        subst he
        have hR7 := HR6.out
        rw [if_neg (by simp)] at hR7
        rw [Int.natCast_zero]
        have hsy := sync_lg B c i D5 w5 p q s3 (foundL f n) nm h5 HX5.out.cols (by have := HX5.out.size; omega) hci (by omega) (by omega)
        generalize syncF s3 nm = r4 at *
        obtain ⟨s4, e4⟩ := r4
        unfold openSync at hR7
        simp only [] at hR7 hsy
        have HR7 := Lib.hid hR7
        clear hR7 HR6 h5
        go_wp2_with fail
        refine hsy.mono ?_
        clear hsy
        rintro e w6 hto
        obtain ⟨D6, rfl, x6, h6⟩ := hto.ex
        have HX6 := Lib.hid (HX5.out.trans x6)
        clear hto x6
        by_cases he : e4 = 0
        case neg =>
          have hR8 := HR7.out
          rw [if_pos he] at hR8
          subst hR8
          have n2 : ((e4 : Int) != 0) = true := by simpa using he
          clear he HR7
          go_wp2_with fail
          go_ret3
          exact OpTo.fail (HZX.out.trans HX6.out) h6.dk
        subst he
        have hR8 := HR7.out
        rw [if_neg (by simp)] at hR8
        subst hR8
        rw [Int.natCast_zero]
        have hv6 := HX6.out.kp.heap HVZ.out (by rw [hvc]; unfold SL S3; omega)
        unfold fndC at hv6
        obtain ⟨⟨v0, v1, v2, v3, v4, v5⟩, -⟩ := cells_6f hv6
        have HH6 := Lib.hid h6
        clear HR7 v0 v2 v3 v4 v5 hv6 h6
        go_upto_region 27 with fail
        go_quiet (fail)
        go_wp2_with fail
        go_ret3
        have hm := HQW.out
        refine ⟨D6, HZX.out.trans (HX6.out.drewN _), HH6.out.dk.keep ((Kp.refl _ _).drewN _), Or.inr ⟨foundL f n, f.recs, q, ro, rc, rh, rfl, rfl, rfl, by omega, HH6.out.keep ((Kp.refl _ _).drewN _), ?_, ?_⟩⟩
        · rw [hm]; exact own0_ext hci HRZ.out hzs (HX6.out.drewN _)
        · rw [hm]; exact recs0_ext hci HRD.out hzs (HX6.out.drewN _)

end Go.Proofs.YtigdhdclfdojgaaGreat
