/-
  THE WALK of the document's log: Append.
-/
import Derived.Test.YtigdhdclfdojgaaGreatWalRefN9
namespace Go.Proofs.YtigdhdclfdojgaaGreat
open Go.RowKit

attribute [local irreducible] putD doE putL9 stepR walName headerL begR

set_option maxHeartbeats 8000000 in
set_option maxRecDepth 100000 in
theorem appendD_ref (P : Nat → Prop) (ao : Option Addr) (cap : Nat) (po : Option Addr) (pc : Nat) (m : RLog) (s : DS) (l : LogP) (bo : Option Addr) (n c : Nat) (d : List UInt8) (w : World) (h : RA P w ao m.d.L.length cap m.d.L) (hps : RPs P w po m.ps.length pc m.ps) (hP : ∀ j, w.heap.size ≤ j → P j) (hs : SimW m s l) (hd : DOk s) (hbd : RBd m) (hnx : nextP9 m.ps < 4611686018427387904) (hb : BS w bo n c d) (hn : n ≤ 1048576) (hst : s.steps < 4611686018427000000) :
    Calls Tryz.prog 38 #[rlV ao cap po pc m, .slice bo n c] w fun e w' => ApTo P w (appendR m d) e w' := by
  obtain ⟨i0, qi, qz0, qz1, qz2⟩ := info_parts info_pieceD
  obtain ⟨i1, qj, qy0, qy1, qy2⟩ := info_parts info_bytesD
  obtain ⟨RES, hRES⟩ : ∃ x, Hid (appendR m d = x) := ⟨_, Lib.hid rfl⟩
  rw [hRES.out]
  have HR := hRES.out
  unfold appendR at HR
  have hlen := hbd.len
  have hbl := hb.len
  obtain ⟨hx, hr, kA, eA⟩ := two_new w (.cells (rlC ao cap po pc m) 37) (.cells rl0C 37)
  have HRR := Lib.hid HR
  clear hRES HR
  conv => unfold rlV
  simp only [rlC, rl0C] at hx hr kA eA ⊢
  have HH := Lib.hid (And.intro hs (And.intro hd (And.intro hbd (And.intro hst hnx))))
  have HB := Lib.hid hb
  have HBL := Lib.hid hbl
  clear hs hd hbd hst hlen hnx hb hbl
  go_enter Tryz.func38, Tryz.ntmps38
  go_upto_region 1 with fail
  generalize (w.alloc (.cells #[.slice ao m.d.L.length cap, .int .i64 m.d.room, .int .i64 m.d.steps, .int .i64 m.d.fuse, .bool m.d.down, .int .i64 (m.lim : Int), .slice po m.ps.length pc, .bool m.shut] 37)).alloc (.cells #[.slice none 0 0, .int .i64 0, .int .i64 0, .int .i64 0, .bool false, .int .i64 0, .slice none 0 0, .bool false] 37) = wA at *
  generalize hgr : w.heap.size + 1 = gr at *
  generalize hgx : w.heap.size = gx at *
  have HRA := Lib.hid ((h.mono (Q := fun j => P j ∧ j < gx) (fun j hj c => ⟨c, by omega⟩)).keep kA)
  have HPS := Lib.hid ((hps.mono (Q := fun j => P j ∧ j < gx) (fun j hj c => ⟨c, by omega⟩)).keep kA)
  have HKA := Lib.hid kA
  have HP := Lib.hid hP
  clear h hps kA hP
  have hcs : (m.shut = true ∨ (m.shut = false ∧ m.d.down = true)) ∨ (m.shut = false ∧ m.d.down = false) := by
    cases m.shut with
    | true => exact Or.inl (Or.inl rfl)
    | false =>
      cases m.d.down with
      | true => exact Or.inl (Or.inr ⟨rfl, rfl⟩)
      | false => exact Or.inr ⟨rfl, rfl⟩
  obtain ⟨⟨y0, y1, y2, y3⟩, ⟨y4, y5, y6, y7⟩, yf⟩ := cells_8 hx
  rcases hcs with hc | ⟨hc1, hc2⟩
  · have HR2 := HRR.out
    rw [if_pos (hc.elim Or.inl (fun c => Or.inr c.2))] at HR2
    subst HR2
    have k4 := (Kp.refl (fun j => j = gx) wA).setCell (p := ⟨gx, 7, none⟩) (fun _ => rfl) (.bool true)
    have hx4 : (wA.setCell ⟨gx, 7, none⟩ (.bool true)).heap[gx]? = some (.cells (rlC ao cap po pc (shutR m)) 37 (0, 0)) := (heap_set_cell hx).trans (by simp [rlC, shutR])
    have hr4 := k4.heap hr (by omega)
    have HRA4 := Lib.hid (HRA.out.kp k4 (fun j _ c e => by have := c.2; omega))
    have HPS4 := Lib.hid (HPS.out.kp k4 (fun j _ c e => by have := c.2; omega))
    have HK4 := Lib.hid (HKA.out.fin k4 (fun j e => Or.inr (by omega)))
    have yf7 := yf 7
    unfold rlC at hx4
    have HX4 := Lib.hid (cells_8 hx4)
    clear k4 hx4
    rcases hc with hc | ⟨hc1, hc2⟩
    case' inl =>
      go_upto_region 3 with fail
      clear hc
    case' inr =>
      go_upto_region 3 with fail
      clear hc1 hc2
    all_goals (
      clear y0 y1 y2 y3 y4 y5 y6 y7 yf yf7
      generalize wA.setCell ⟨gx, 7, none⟩ (.bool true) = w4 at *
      obtain ⟨⟨y0, y1, y2, y3⟩, ⟨y4, y5, y6, y7⟩, -⟩ := HX4.out
      have hput := putL9_heap ao cap po pc (shutR m) hr4
      have kL := putL9_kp w4 gr ao cap po pc (shutR m)
      go_wp2_with (refine wpList_store_rlog rfl (.tmp 4) (.tmp 21) rfl gr ao cap po pc (shutR m) (by rfl) (by rfl) hr4 ?_)
      refine bodyPost_ret (v := .tuple #[rlV ao cap po pc (shutR m), .int .i64 0, .int .i64 2]) (by rw [results_rlog_tmp2 rfl _ _ gr _ rfl hput rfl]; rfl) rfl ?_
      exact ⟨⟨ao, cap, po, pc, rfl, (HRA4.out.kp kL (fun j _ c e => by have := c.2; omega)).mono (fun j _ c => c.1), (HPS4.out.kp kL (fun j _ c e => by have := c.2; omega)).mono (fun j _ c => c.1), HK4.out.fin kL (fun j e => Or.inr (by omega))⟩⟩)
  have HR2 := HRR.out
  rw [if_neg (by rw [hc1, hc2]; simp)] at HR2
  have HR3 := Lib.hid HR2
  have hput := putL9_heap ao cap po pc m hr
  have HPUT := Lib.hid hput
  have HX := Lib.hid hx
  have HRE : Hid (∀ (e : Nat), ApTo P w (m, 0, e) (.returned (.tuple #[rlV ao cap po pc m, .int .i64 0, .int .i64 (e : Int)])) (putL9 wA gr ao cap po pc m)) := Lib.hid (fun e => ⟨⟨ao, cap, po, pc, rfl, (HRA.out.kp (putL9_kp wA gr ao cap po pc m) (fun j _ c e => by have := c.2; omega)).mono (fun j _ c => c.1), (HPS.out.kp (putL9_kp wA gr ao cap po pc m) (fun j _ c e => by have := c.2; omega)).mono (fun j _ c => c.1), HKA.out.fin (putL9_kp wA gr ao cap po pc m) (fun j e => Or.inr (by omega))⟩⟩)
  rw [hc1] at y7
  rw [hc2] at y4
  clear HR2 HRR hput yf hx
  go_upto_region 4 with fail
  clear y0 y1 y2 y3 y4 y5 y6 y7 hc1 hc2
  have hx := HX.out
  obtain ⟨⟨y0, y1, y2, y3⟩, ⟨y4, y5, y6, y7⟩, yf⟩ := cells_8 hx
  by_cases hbig : 8192 < n
  · have HR2 := HR3.out
    rw [if_pos (by rw [HBL.out]; exact hbig)] at HR2
    subst HR2
    have hbi : (8192 : Int) < (n : Int) := by omega
    have HQ := Lib.hid (HRE.out 12)
    clear hbig HRE HR3
    go_wp2_with (refine wpList_store_rlog rfl (.tmp 4) (.tmp 25) rfl gr ao cap po pc m (by rfl) (by rfl) hr ?_)
    refine bodyPost_ret (v := .tuple #[rlV ao cap po pc m, .int .i64 0, .int .i64 12]) (by rw [results_rlog_tmp2 rfl _ _ gr _ rfl HPUT.out rfl]; rfl) rfl ?_
    exact HQ.out
  have hr4 := HR3.out
  rw [if_neg (by rw [HBL.out]; exact hbig)] at hr4
  have HR4 := Lib.hid hr4
  have hbi : ¬ (8192 : Int) < (n : Int) := by omega
  have HBI := Lib.hid (show n ≤ 8192 by omega)
  clear hr4 HR3
  have HTL := tail_ex (fun j => P j ∧ j < gx) ao cap po pc m wA HPS.out HH.out.2.2.1.ne (by have := HH.out.2.2.1.len; omega)
  obtain ⟨t, ht⟩ : ∃ x, Hid (tailP m.ps = x) := ⟨_, Lib.hid rfl⟩
  rw [ht.out] at HTL
  go_wp2_with fail
  refine HTL.mono ?_
  clear HTL
  rintro e w3 ⟨ro, rc, rfl, hrr, k3⟩
  have hx3 := k3.heap hx id
  have hr3 := k3.heap hr id
  have hs3 := k3.size
  have hy := heap_alloc_new w3 (.cells #[.int .i64 (t.num : Int), .int .i64 (t.first : Int), .slice ro t.recs.length rc] 57)
  have kN : Kp Noone w3 (w3.alloc (.cells #[.int .i64 (t.num : Int), .int .i64 (t.first : Int), .slice ro t.recs.length rc] 57)) := (Kp.refl _ _).alloc _
  have hxN := kN.heap hx3 id
  have hrN := kN.heap hr3 id
  have HKN := Lib.hid (HKA.out.trans (k3.trans kN))
  have HRAN := Lib.hid ((HRA.out.keep (k3.trans kN)).mono (Q := fun j => P j ∧ j < gx) (fun j _ c => c))
  have HPSN := Lib.hid (HPS.out.keep (k3.trans kN))
  have HRRN := Lib.hid (hrr.keep kN)
  have HPTN : Hid (putL9 wA gr ao cap po pc m = putL9 wA gr ao cap po pc m) := Lib.hid rfl
  have hzN := kN.size
  have eN := alloc_size w3 (.cells #[.int .i64 (t.num : Int), .int .i64 (t.first : Int), .slice ro t.recs.length rc] 57)
  clear hrr y0 y1 y2 y3 y4 y5 y6 y7 yf k3 kN hx hr hx3 hr3 HRE HPUT HX HPTN hbi
  go_upto_region 7 with fail
  generalize w3.alloc (.cells #[.int .i64 (t.num : Int), .int .i64 (t.first : Int), .slice ro t.recs.length rc] 57) = wN at *
  generalize hg7 : w3.heap.size = g7 at *
  obtain ⟨⟨y0, y1, y2, y3⟩, ⟨y4, y5, y6, y7⟩, -⟩ := cells_8 hxN
  obtain ⟨gb, hcd⟩ : ∃ gb : Bool, Hid (decide (t.recs ≠ [] ∧ m.lim ≤ (pieceD t).length) = gb) := ⟨_, Lib.hid rfl⟩
  clear y0 y1 y2 y3 y4 y5 y6 y7
  go_cut [39] from 28 (fun v wx => v = .bool gb ∧ Kp Noone wN wx)
  case first =>
    have htm := tailP_mem HH.out.2.2.1.ne
    rw [ht.out] at htm
    have hnum := HH.out.2.2.1.nums t htm
    have hfir := HH.out.2.2.1.firsts t htm
    have hsiz := HH.out.2.2.1.size t htm
    have k0 : Kp Noone wN wN.drew := (Kp.refl _ _).drew
    obtain ⟨z0, z1, z2, -, -, -⟩ := cells_three (k0.heap hy id)
    by_cases hrec : t.recs = []
    · have hc : Hid (gb = false) := Lib.hid (by rw [← hcd.out]; simp [hrec])
      have hl0 : t.recs.length = 0 := by rw [hrec]; rfl
      clear hrec htm hnum hfir hsiz hcd z0 z1 z2
      obtain ⟨z0, z1, z2, -, -, -⟩ := cells_three hy
      go_quiet (fail)
      go_wp2_with fail
      go_meet
      case rel => exact ⟨by rw [hc.out], (Kp.refl _ _).drewN _⟩
    · have hl1 : (0 : Int) < (t.recs.length : Int) := by have := List.length_pos_iff.2 hrec; omega
      have hl1n : 0 < t.recs.length := by omega
      have hc : Hid (gb = decide (m.lim ≤ (pieceD t).length)) := Lib.hid (by rw [← hcd.out]; simp [hrec])
      have hby := fun (W : World) (hq : RRec (fun j => P j ∧ j < gx) W ro t.recs.length rc t.recs) => bytes_ref (fun j => P j ∧ j < gx) ro rc t W hq hnum (by omega) (by omega)
      obtain ⟨⟨y0, y1, y2, y3⟩, ⟨y4, y5, y6, y7⟩, -⟩ := cells_8 (k0.heap hxN id)
      obtain ⟨pl, hpl⟩ : ∃ x, Hid ((pieceD t).length = x) := ⟨_, Lib.hid rfl⟩
      unfold NewB at hby
      rw [hpl.out] at hc hby
      have hlc : m.lim ≤ pl ∨ ¬ m.lim ≤ pl := Classical.em _
      rcases hlc with hlim | hlim
      case' inl =>
        have hli : (m.lim : Int) ≤ (pl : Int) := by omega
        have HV : Hid (gb = true) := Lib.hid (by rw [hc.out]; simp [hlim])
      case' inr =>
        have hli : ¬ (m.lim : Int) ≤ (pl : Int) := by omega
        have HV : Hid (gb = false) := Lib.hid (by rw [hc.out]; simp [hlim])
      all_goals (
        clear hrec htm hnum hfir hsiz hcd hlim hc
        apply wp_region_two (G := fun _ _ wz => Kp Noone wN wz)
        case h =>
          first
            | (go_region_law (go_simp; go_at_call 63; refine (hby _ (HRRN.out.keep k0)).mono ?_; rintro e wb ⟨xo, xc, rfl, -, kb⟩; have k0 := k0.trans kb; obtain ⟨⟨y0, y1, y2, y3⟩, ⟨y4, y5, y6, y7⟩, -⟩ := cells_8 (k0.heap hxN id); obtain ⟨z0, z1, z2, -, -, -⟩ := cells_three (k0.heap hy id)))
            | fail
          all_goals (
            refine NoPanic.normal ⟨rfl, xo, xc, rfl, ?_⟩
            exact k0)
        case k =>
          intro xo xc wz kz
          have HKZ := Lib.hid kz
          clear kz k0 z0 z1 z2 y0 y1 y2 y3 y4 y5 y6 y7 hby
          go_wp2_with fail
          go_meet
          case rel => exact ⟨by rw [HV.out], HKZ.out⟩)
  case rest =>
  obtain ⟨rfl, kc⟩ := id hcut
  clear hcut
  have hxC := kc.heap hxN id
  have hrC := kc.heap hrN id
  have hyC := kc.heap hy id
  have HKC := Lib.hid (HKN.out.trans kc)
  have h7x : gx < g7 := by omega
  have h7r : gr < g7 := by omega
  have HRAC := Lib.hid ((HRAN.out.keep kc).mono (Q := fun j => P j ∧ j ≠ gx ∧ j ≠ gr ∧ j ≠ g7) (fun j _ c => ⟨c.1, by omega, by omega, by omega⟩))
  have HPSC := Lib.hid ((HPSN.out.keep kc).mono (Q := fun j => P j ∧ j ≠ gx ∧ j ≠ gr ∧ j ≠ g7) (fun j _ c => ⟨c.1, by omega, by omega, by omega⟩))
  have HRRC := Lib.hid ((HRRN.out.keep kc).mono (Q := fun j => P j ∧ j ≠ gx ∧ j ≠ gr ∧ j ≠ g7) (fun j _ c => ⟨c.1, by omega, by omega, by omega⟩))
  have hzC := kc.size
  have HP4 : Hid (∀ j, wc.heap.size ≤ j → P j ∧ j ≠ gx ∧ j ≠ gr ∧ j ≠ g7) := Lib.hid (fun j hj => ⟨HP.out j (by omega), by omega, by omega, by omega⟩)
  clear kc hxN hrN hy HKN HRAN HPSN HRRN HKA HRA HPS
  go_upto_if 39 with fail
  go_cut [] from 8 (fun wx => ApS P w gx gr g7 s d RES wx)
  case first =>
    obtain ⟨hs, hd, hbd, hst, hnx⟩ := HH.out
    have htm := tailP_mem hbd.ne
    have hnum := hbd.nums _ htm
    have hrl := recs_le (tailP m.ps)
    have hsz := hbd.size _ htm
    have hln := hbd.len
    cases gb with
    | false =>
      have hE := HR4.out
      rw [ht.out, if_neg (by simpa using hcd.out)] at hE
      have R : Hid (ApS P w gx gr g7 s d RES wc) := Lib.hid ⟨⟨ao, cap, po, pc, ro, rc, m, s, l, hxC, hrC, by rw [ht.out]; exact hyC, by rw [ht.out]; exact HRRC.out, HRAC.out, HPSC.out, HKC.out, hs, hd, by omega, ⟨hbd.ne, by omega, hnum, hnx, by omega⟩, hE⟩⟩
      clear hE hs hd hbd hst hnx htm hnum hrl hsz hln
      go_wp2_with fail
      go_meet
      case rel => exact R.out
    | true =>
      have hE := HR4.out
      rw [ht.out] at hE hnum
      rw [if_pos (by simpa using hcd.out)] at hE
      obtain ⟨z0, z1, z2, -, -, -⟩ := cells_three hyC
      by_cases hn9 : 999999 ≤ t.num
      · rw [if_pos hn9] at hE
        subst hE
        have hn9i : (999999 : Int) ≤ (t.num : Int) := by omega
        obtain ⟨⟨y0, y1, y2, y3⟩, ⟨y4, y5, y6, y7⟩, -⟩ := cells_8 hxC
        have hput := putL9_heap ao cap po pc m hrC
        have kL := putL9_kp wc gr ao cap po pc m
        have HQ : Hid (ApTo P w (m, 0, 43) (.returned (.tuple #[rlV ao cap po pc m, .int .i64 0, .int .i64 43])) (putL9 wc gr ao cap po pc m)) := Lib.hid ⟨⟨ao, cap, po, pc, rfl, (HRAC.out.kp kL (fun j _ c e => c.2.2.1 e)).mono (fun j _ c => c.1), (HPSC.out.kp kL (fun j _ c e => c.2.2.1 e)).mono (fun j _ c => c.1), HKC.out.fin kL (fun j e => Or.inr (by omega))⟩⟩
        have HPU := Lib.hid hput
        clear hput kL hn9 hs hd hbd hst hnx htm hnum hrl hsz hln HR4
        go_wp2_with (refine wpList_store_rlog rfl (.tmp 4) (.tmp 43) rfl gr ao cap po pc m (by rfl) (by rfl) hrC ?_)
        refine bodyPost_ret (v := .tuple #[rlV ao cap po pc m, .int .i64 0, .int .i64 43]) (by rw [results_rlog_tmp2 rfl _ _ gr _ rfl HPU.out rfl]; rfl) rfl ?_
        exact HQ.out
      rw [if_neg hn9] at hE
      have hn9i : ¬ (999999 : Int) ≤ (t.num : Int) := by omega
      have hnm := fun W => name_ref t.num W hnum
      have a1 := sim_sync hs.d hd (walName t.num)
      have d1 := syncF_ok hd (walName t.num) (by omega)
      have s1 := syncF_steps s (walName t.num)
      have b1 := step_sim hs a1
      have b10 := step_zero hs a1
      have HS1 := fun (P' : Nat → Prop) (W : World) (hr : RA P' W ao m.d.L.length cap m.d.L) (hp : ∀ j, W.heap.size ≤ j → P' j) => step_ex P' ao cap po pc m s (oSync (walName t.num)) none 0 0 W hr hp hs.d hd (op_sync (walName_le t.num)) (BS.nil _ _) rfl (by omega)
      have hps1 : (stepR m (oSync (walName t.num))).1.ps = m.ps := by unfold stepR; rfl
      generalize stepR m (oSync (walName t.num)) = r1 at *
      generalize (syncF s (walName t.num)).1 = t1 at *
      generalize (syncF s (walName t.num)).2 = f1 at *
      obtain ⟨m1, e1⟩ := r1
      unfold rollR at hE
      simp only [] at hps1 HS1 b1 b10 hE
      have HPE1 := Lib.hid hps1
      have HB1 := Lib.hid (And.intro b1 (And.intro b10 (And.intro d1 s1)))
      have HE1 := Lib.hid hE
      have HN9 := Lib.hid hn9
      clear hps1 b1 b10 d1 s1 a1 hE hs hd hbd hst hnx htm hnum hrl hsz hln HR4 hn9
      have k0 : Kp Noone wc wc.drew := (Kp.refl _ _).drew
      have q0 := k0.cell z0 id
      have qv : ∀ o, (wc.alloc o).drew.cell? ⟨g7, 0, none⟩ = some (.int .i64 (t.num : Int)) := fun o => (((Kp.refl Noone wc).alloc o).drew).cell z0 id
      go_upto_region 10 with fail
      clear hn9i z0 z1 z2
      obtain ⟨⟨y0, y1, y2, y3⟩, ⟨y4, y5, y6, y7⟩, -⟩ := cells_8 (k0.heap hxC id)
      obtain ⟨v0, v1, v2, v3, v4, v5, v6, v7⟩ := cells_8d hxC
      apply wp_region_3 (G := fun q o3 c3 wz => wz.heap[q]? = some (.cells (rlC o3 c3 po pc m1) 37 (0, 0)) ∧ wc.heap.size ≤ q ∧ RA (fun j => P j ∧ j ≠ gx ∧ j ≠ gr ∧ j ≠ g7 ∧ j ≠ q) wz o3 m1.d.L.length c3 m1.d.L ∧ Kp Noone wc wz)
      case h =>
        go_region_law (first
            | (go_simp; go_at_call 58; refine (hnm _).mono ?_; rintro e wn ⟨rfl, kn⟩; (try (have hZ := kn.heap (show (wc.alloc (.cells #[.slice none 0 0, .int .i64 0, .int .i64 0, .int .i64 0, .bool false, .int .i64 0, .slice none 0 0, .bool false] 37)).drew.heap[wc.heap.size]? = some (.cells #[.slice none 0 0, .int .i64 0, .int .i64 0, .int .i64 0, .bool false, .int .i64 0, .slice none 0 0, .bool false] 37) from heap_alloc_new wc (.cells #[.slice none 0 0, .int .i64 0, .int .i64 0, .int .i64 0, .bool false, .int .i64 0, .slice none 0 0, .bool false] 37)) id)); (first | have k0 := k0.trans kn | have k0 := (((Kp.refl Noone wc).alloc _).drew).trans kn); obtain ⟨⟨y0, y1, y2, y3⟩, ⟨y4, y5, y6, y7⟩, -⟩ := cells_8 (k0.heap hxC id); obtain ⟨v0, v1, v2, v3, v4, v5, v6, v7⟩ := cells_8o hxC k0)
            | (go_simp; go_at_call 57; first
              | (have hzl := (Array.getElem?_eq_some_iff.1 hZ).1; refine (HS1 (fun j => P j ∧ j ≠ gx ∧ j ≠ gr ∧ j ≠ g7 ∧ j ≠ wc.heap.size) _ ((HRAC.out.mono (fun j hj c => ⟨c.1, c.2.1, c.2.2.1, c.2.2.2, by omega⟩)).keep k0) (fun j hj => ⟨(HP4.out j (by have := k0.size; omega)).1, (HP4.out j (by have := k0.size; omega)).2.1, (HP4.out j (by have := k0.size; omega)).2.2.1, (HP4.out j (by have := k0.size; omega)).2.2.2, by have h : wc.heap.size < wn.heap.size := hzl; omega⟩)).mono ?_; rintro e w4 ⟨o3, c3, rfl, hra4, k4⟩; have k0 := k0.trans k4; have hZ4 : w4.heap[wc.heap.size]? = some (.cells #[.slice none 0 0, .int .i64 0, .int .i64 0, .int .i64 0, .bool false, .int .i64 0, .slice none 0 0, .bool false] 37 (0, 0)) := k4.heap hZ id; obtain ⟨⟨u0, u1, u2, u3⟩, ⟨u4, u5, u6, u7⟩, uf⟩ := cells_8 hZ4; have uf0 := uf 0; have uf1 := uf 1; have uf2 := uf 2; have uf3 := uf 3; have uf4 := uf 4; have uf5 := uf 5; have uf6 := uf 6; have uf7 := uf 7)
              | (refine (HS1 (fun j => P j ∧ j ≠ gx ∧ j ≠ gr ∧ j ≠ g7 ∧ j ≠ wn.heap.size) (wn.alloc (.cells #[.slice none 0 0, .int .i64 0, .int .i64 0, .int .i64 0, .bool false, .int .i64 0, .slice none 0 0, .bool false] 37)) ((HRAC.out.mono (fun j hj c => ⟨c.1, c.2.1, c.2.2.1, c.2.2.2, by have := k0.size; omega⟩)).keep (k0.alloc _)) (fun j hj => by rw [alloc_size] at hj; exact ⟨(HP4.out j (by have := k0.size; omega)).1, (HP4.out j (by have := k0.size; omega)).2.1, (HP4.out j (by have := k0.size; omega)).2.2.1, (HP4.out j (by have := k0.size; omega)).2.2.2, by omega⟩)).mono ?_; rintro e w4 ⟨o3, c3, rfl, hra4, k4⟩; have hZ5 := k4.heap (heap_alloc_new wn (.cells #[.slice none 0 0, .int .i64 0, .int .i64 0, .int .i64 0, .bool false, .int .i64 0, .slice none 0 0, .bool false] 37)) id; have hzn := k0.size; have k0 := (k0.alloc (.cells #[.slice none 0 0, .int .i64 0, .int .i64 0, .int .i64 0, .bool false, .int .i64 0, .slice none 0 0, .bool false] 37)).trans k4; obtain ⟨⟨u0, u1, u2, u3⟩, ⟨u4, u5, u6, u7⟩, uf⟩ := cells_8 hZ5; have uf0 := uf 0; have uf1 := uf 1; have uf2 := uf 2; have uf3 := uf 3; have uf4 := uf 4; have uf5 := uf 5; have uf6 := uf 6; have uf7 := uf 7)
              | (refine (HS1 (fun j => P j ∧ j ≠ gx ∧ j ≠ gr ∧ j ≠ g7) wn (HRAC.out.keep k0) (fun j hj => HP4.out j (by have := k0.size; omega))).mono ?_; rintro e w4 ⟨o3, c3, rfl, hra4, k4⟩; have k0 := k0.trans k4; have hC6 : True := trivial)))
        all_goals (first
          | (have hz := hZ4
             have hk := k0
             generalize hn : wc.heap.size = n at *
             refine NoPanic.normal ⟨rfl, n, o3, c3, rfl, ?_⟩
             exact ⟨set8_heap hz _ _ _ _ _ _ _ _, Nat.le_refl _, hra4.kp (set8_kp (Kp.refl (fun j => j = n) w4) (g := n) rfl _ _ _ _ _ _ _ _) (fun j _ c e => c.2.2.2.2 e), hk.fin (set8_kp (Kp.refl (fun j => j = n) w4) (g := n) rfl _ _ _ _ _ _ _ _) (fun j e => Or.inr (by omega))⟩)
          | (have hz := hZ5
             have hk := k0
             have hz2 := hzn
             generalize hn : wn.heap.size = n at *
             refine NoPanic.normal ⟨rfl, n, o3, c3, rfl, ?_⟩
             exact ⟨set8_heap hz _ _ _ _ _ _ _ _, hz2, hra4.kp (set8_kp (Kp.refl (fun j => j = n) w4) (g := n) rfl _ _ _ _ _ _ _ _) (fun j _ c e => c.2.2.2.2 e), hk.fin (set8_kp (Kp.refl (fun j => j = n) w4) (g := n) rfl _ _ _ _ _ _ _ _) (fun j e => Or.inr (by omega))⟩)
          | (have hc := hC6
             have hk := k0
             have hs4 := k0.size
             have hn4 := fun o => heap_alloc_new w4 o
             generalize hn : w4.heap.size = n at *
             refine NoPanic.normal ⟨rfl, n, o3, c3, rfl, ?_⟩
             exact ⟨hn4 _, hs4, (hra4.mono (fun j hj c => ⟨c.1, c.2.1, c.2.2.1, c.2.2.2, by omega⟩)).keep ((Kp.refl _ _).alloc _), hk.alloc _⟩)
          | trace_state)
      case k =>
        intro q o3 c3 w4 hG
        obtain ⟨hy4, hn4, hra4, k4⟩ := hG
        have HQ4 := Lib.hid hy4
        unfold rlC at hy4
        have hx4 := k4.heap hxC id
        have hr4 := k4.heap hrC id
        have hp4 := k4.heap hyC id
        have HPS4 := Lib.hid ((HPSC.out.mono (Q := fun j => P j ∧ j ≠ gx ∧ j ≠ gr ∧ j ≠ g7 ∧ j ≠ q) (fun j hj c => ⟨c.1, c.2.1, c.2.2.1, c.2.2.2, by omega⟩)).keep k4)
        have HRA4 := Lib.hid hra4
        have hgq : g7 < q := by have := (Array.getElem?_eq_some_iff.1 hyC).1; omega
        have HK4 := Lib.hid (HKC.out.trans k4)
        clear HS1 hra4 k4 k0 y0 y1 y2 y3 y4 y5 y6 y7 v0 v1 v2 v3 v4 v5 v6 v7 hxC hrC hyC HRAC HPSC HRRC HKC q0 qv
        obtain ⟨⟨y0, y1, y2, y3⟩, ⟨y4, y5, y6, y7⟩, -⟩ := cells_8 hy4
        have hx5 := putL9_heap o3 c3 po pc m1 hx4
        have k5 := putL9_kp w4 gx o3 c3 po pc m1
        have hr5 := k5.heap hr4 (by omega)
        have hp5 := k5.heap hp4 (by omega)
        have hq5 := k5.heap hy4 (by omega)
        have HRA5 := Lib.hid (HRA4.out.kp k5 (fun j _ c e => c.2.1 e))
        have HPS5 := Lib.hid (HPS4.out.kp k5 (fun j _ c e => c.2.1 e))
        have HK5 := Lib.hid (HK4.out.fin k5 (fun j e => Or.inr (by omega)))
        go_upto_region 12 with (refine wpList_store_rlog rfl (.tmp 2) (.tmp 53) rfl gx o3 c3 po pc m1 (by rfl) (by rfl) hx4 ?_)
        clear y0 y1 y2 y3 y4 y5 y6 y7 k5 hx4 hr4 hp4 hy4 HRA4 HPS4 HK4 HQ4
        have hz5 : wc.heap.size ≤ (putL9 w4 gx o3 c3 po pc m1).heap.size := Nat.le_trans (Kp.refl Noone wc).size (by have := (putL9_kp w4 gx o3 c3 po pc m1).size; have := (Array.getElem?_eq_some_iff.1 hq5).1; omega)
        generalize putL9 w4 gx o3 c3 po pc m1 = w5 at *
        unfold rlC at hx5
        obtain ⟨⟨y0, y1, y2, y3⟩, ⟨y4, y5, y6, y7⟩, -⟩ := cells_8 hx5
        by_cases he1 : e1 = 0
        case neg =>
          have hE := HE1.out
          rw [if_pos he1] at hE
          subst hE
          have n0 : ((e1 : Int) == 0) = false := by simpa using he1
          have n1 : ((e1 : Int) != 0) = true := by simpa using he1
          clear he1 HE1
          go_wp2_with (refine wpList_store_rlog rfl (.tmp 4) (.tmp 69) rfl gr o3 c3 po pc m1 (by rfl) (by rfl) hr5 ?_)
          refine bodyPost_ret (v := .tuple #[rlV o3 c3 po pc m1, .int .i64 0, .int .i64 (e1 : Int)]) (by rw [results_rlog_tmp2 rfl _ _ gr _ rfl (putL9_heap o3 c3 po pc m1 hr5) rfl]; rfl) rfl ?_
          have kL := putL9_kp w5 gr o3 c3 po pc m1
          refine ⟨⟨o3, c3, po, pc, rfl, (HRA5.out.kp kL (fun j _ c e => c.2.2.1 e)).mono (fun j _ c => c.1), ?_, HK5.out.fin kL (fun j e => Or.inr (by omega))⟩⟩
          simp only [HPE1.out]
          exact (HPS5.out.kp kL (fun j _ c e => c.2.2.1 e)).mono (fun j _ c => c.1)
        have hE := HE1.out
        rw [if_neg (by simpa using he1), HPE1.out, ht.out] at hE
        have HE2 := Lib.hid hE
        have n0 : ((e1 : Int) == 0) = true := by simpa using he1
        clear hE HE1 y0 y1 y2 y3 y4 y5 y6 y7
        obtain ⟨-, -, hbd, hst, hnx⟩ := HH.out
        obtain ⟨b1, b10, d1, s1⟩ := HB1.out
        have hsw := b10 (by rw [← b1.2, he1]; simp)
        have hnum2 : t.num + 1 ≤ 999999 := by have := HN9.out; omega
        have hlen2 := hbd.len
        obtain ⟨nn, hnn⟩ : ∃ x, Hid (t.num + 1 = x) := ⟨_, Lib.hid rfl⟩
        obtain ⟨nx, hnxe⟩ : ∃ x, Hid (nextP9 m.ps = x) := ⟨_, Lib.hid rfl⟩
        have hwn : IntKind.i64.wrap ((t.num : Int) + 1) = (nn : Int) := by rw [IntWalk.i64_in _ (by omega), ← hnn.out]; omega
        rw [hnn.out] at hnum2
        rw [hnxe.out] at hnx
        have HP5 : Hid (∀ j, w5.heap.size ≤ j → P j ∧ j ≠ gx ∧ j ≠ gr ∧ j ≠ g7 ∧ j ≠ q) := Lib.hid (fun j hj => by
          have h1 := HP4.out j (by omega)
          have h2 := (Array.getElem?_eq_some_iff.1 hq5).1
          exact ⟨h1.1, h1.2.1, h1.2.2.1, h1.2.2.2, by omega⟩)
        have HPM : Hid (RPs (fun j => P j ∧ j ≠ gx ∧ j ≠ gr ∧ j ≠ g7 ∧ j ≠ q) w5 po m1.ps.length pc m1.ps) := Lib.hid (by rw [HPE1.out]; exact HPS5.out)
        have HNX := Lib.hid (fun (W : World) (hq : RPs (fun j => P j ∧ j ≠ gx ∧ j ≠ gr ∧ j ≠ g7 ∧ j ≠ q) W po m1.ps.length pc m1.ps) => (show Calls Tryz.prog 17 #[.agg #[.slice o3 m1.d.L.length c3, .int .i64 m1.d.room, .int .i64 m1.d.steps, .int .i64 m1.d.fuse, .bool m1.d.down, .int .i64 (m1.lim : Int), .slice po m1.ps.length pc, .bool m1.shut]] W (fun e w' => e = .returned (.int .i64 (nx : Int)) ∧ Kp Noone W w') from by
          have h := next_ref _ o3 c3 po pc m1 W hq (by rw [HPE1.out]; exact hbd.ne) (by rw [HPE1.out]; omega) (by rw [HPE1.out, hnxe.out]; omega)
          rw [HPE1.out, hnxe.out] at h
          rw [HPE1.out]
          exact h))
        have a2 := begin_sim hsw d1 (by omega) nn nx
        have d2 := begin_ok d1 l nn nx (by omega)
        have s2 := beginF_steps t1 l nn nx
        have p2 := begR_new (m := m1) (num := nn) (first := nx)
        have hE3 := HE2.out
        rw [hnn.out, hnxe.out] at hE3
        have hl1 : m1.ps.length = m.ps.length := by rw [HPE1.out]
        have hBG := fun (W : World) (hr : RA (fun j => P j ∧ j ≠ gx ∧ j ≠ gr ∧ j ≠ g7 ∧ j ≠ q) W o3 m1.d.L.length c3 m1.d.L) (hq : RPs (fun j => P j ∧ j ≠ gx ∧ j ≠ gr ∧ j ≠ g7 ∧ j ≠ q) W po m1.ps.length pc m1.ps) (hp : ∀ j, W.heap.size ≤ j → P j ∧ j ≠ gx ∧ j ≠ gr ∧ j ≠ g7 ∧ j ≠ q) => begin_ex (fun j => P j ∧ j ≠ gx ∧ j ≠ gr ∧ j ≠ g7 ∧ j ≠ q) o3 c3 po pc m1 t1 l nn nx W hr hq hp hsw d1 hnum2 (by omega) (by rw [hl1]; exact hlen2) (by omega)
        generalize begR m1 nn nx = r2 at *
        generalize beginF t1 l nn nx = b2 at *
        obtain ⟨m2, e2⟩ := r2
        obtain ⟨t2, l2, f2⟩ := b2
        simp only [] at a2 d2 s2 p2 hBG hE3
        have HA2 := Lib.hid (And.intro a2 (And.intro d2 (And.intro s2 (And.intro s1 (And.intro p2 (And.intro hnum2 (And.intro hlen2 hnx)))))))
        have HE3 := Lib.hid hE3
        have HBG := Lib.hid hBG
        clear a2 d2 s2 p2 hBG hE3 HE2 HB1 b1 b10 d1 s1 hsw hnum2 hlen2 hst hnx hbd hl1
        -- region 13 is drawn: arms for Next (HNX) and begin (HBG), store into q
        go_upto_region 13 with fail
        have k0 : Kp Noone w5 w5.drew := (Kp.refl _ _).drew
        obtain ⟨⟨y0, y1, y2, y3⟩, ⟨y4, y5, y6, y7⟩, -⟩ := cells_8 (k0.heap hx5 id)
        obtain ⟨⟨u0, u1, u2, u3⟩, ⟨u4, u5, u6, u7⟩, uf⟩ := cells_8 (k0.heap hq5 id)
        have uf0 := uf 0; have uf1 := uf 1; have uf2 := uf 2; have uf3 := uf 3; have uf4 := uf 4; have uf5 := uf 5; have uf6 := uf 6; have uf7 := uf 7
        obtain ⟨z0, z1, z2, -, -, -⟩ := cells_three (k0.heap hp5 id)
        apply wp_region_four (G := fun o6 c6 p6 q6 wz => wz.heap[q]? = some (.cells (rlC o6 c6 p6 q6 m2) 37 (0, 0)) ∧ RA (fun j => P j ∧ j ≠ gx ∧ j ≠ gr ∧ j ≠ g7 ∧ j ≠ q) wz o6 m2.d.L.length c6 m2.d.L ∧ RPs (fun j => P j ∧ j ≠ gx ∧ j ≠ gr ∧ j ≠ g7 ∧ j ≠ q) wz p6 m2.ps.length q6 m2.ps ∧ Kp (fun j => j = q) w5 wz)
        case h =>
          (go_region_law (first
                | (go_simp; go_at_call 17; refine (HNX.out _ (HPM.out.keep k0)).mono ?_; rintro e wx ⟨rfl, kx⟩; have k0 := k0.trans kx; obtain ⟨⟨y0, y1, y2, y3⟩, ⟨y4, y5, y6, y7⟩, -⟩ := cells_8 (k0.heap hx5 id); obtain ⟨⟨u0, u1, u2, u3⟩, ⟨u4, u5, u6, u7⟩, uf⟩ := cells_8 (k0.heap hq5 id); have uf0 := uf 0; have uf1 := uf 1; have uf2 := uf 2; have uf3 := uf 3; have uf4 := uf 4; have uf5 := uf 5; have uf6 := uf 6; have uf7 := uf 7; obtain ⟨z0, z1, z2, -, -, -⟩ := cells_three (k0.heap hp5 id))
                | (go_simp; go_at_call 59; refine (HBG.out _ (HRA5.out.keep k0) (HPM.out.keep k0) (fun j hj => HP5.out j (Nat.le_trans k0.size hj))).mono ?_; rintro e w6 ⟨o6, c6, p6, q6, rfl, hra6, hps6, k6⟩; have k0 := k0.trans k6; obtain ⟨⟨u0, u1, u2, u3⟩, ⟨u4, u5, u6, u7⟩, uf⟩ := cells_8 (k0.heap hq5 id); have uf0 := uf 0; have uf1 := uf 1; have uf2 := uf 2; have uf3 := uf 3; have uf4 := uf 4; have uf5 := uf 5; have uf6 := uf 6; have uf7 := uf 7)))
          all_goals (
            refine NoPanic.normal ⟨rfl, o6, c6, p6, q6, rfl, ?_⟩
            exact ⟨set8_heap (k0.heap hq5 id) _ _ _ _ _ _ _ _, hra6.kp (set8_kp (Kp.refl (fun j => j = q) w6) (g := q) rfl _ _ _ _ _ _ _ _) (fun j _ c e => c.2.2.2.2 e), hps6.kp (set8_kp (Kp.refl (fun j => j = q) w6) (g := q) rfl _ _ _ _ _ _ _ _) (fun j _ c e => c.2.2.2.2 e), set8_kp (Kp.none (S := fun j => j = q) k0) (g := q) rfl _ _ _ _ _ _ _ _⟩)
        case k =>
          intro o6 c6 p6 q6 w6 hG
          obtain ⟨hq6, hra6, hps6, k6⟩ := hG
          unfold rlC at hq6
          have hx6 := k6.heap hx5 (by omega)
          have hr6 := k6.heap hr5 (by omega)
          have hp6 := k6.heap hp5 (by omega)
          have HK6 := Lib.hid (HK5.out.fin k6 (fun j e => Or.inr (by omega)))
          have HRA6 := Lib.hid hra6
          have HPS6 := Lib.hid hps6
          have hz6 := k6.size
          clear hra6 hps6 k6 k0 y0 y1 y2 y3 y4 y5 y6 y7 u0 u1 u2 u3 u4 u5 u6 u7 uf uf0 uf1 uf2 uf3 uf4 uf5 uf6 uf7 z0 z1 z2 hx5 hr5 hp5 hq5 HRA5 HPS5 HPM HK5 HNX HBG hwn
          obtain ⟨⟨y0, y1, y2, y3⟩, ⟨y4, y5, y6, y7⟩, -⟩ := cells_8 hq6
          have hx7 := putL9_heap o6 c6 p6 q6 m2 hx6
          have k7 := putL9_kp w6 gx o6 c6 p6 q6 m2
          have hr7 := k7.heap hr6 (by omega)
          have hp7 := k7.heap hp6 (by omega)
          have hz7 := k7.size
          have HRA7 := Lib.hid (HRA6.out.kp k7 (fun j _ c e => c.2.1 e))
          have HPS7 := Lib.hid (HPS6.out.kp k7 (fun j _ c e => c.2.1 e))
          have HK7 := Lib.hid (HK6.out.fin k7 (fun j e => Or.inr (by omega)))
          go_upto_region 15 with (refine wpList_store_rlog rfl (.tmp 2) (.tmp 66) rfl gx o6 c6 p6 q6 m2 (by rfl) (by rfl) hx6 ?_)
          clear y0 y1 y2 y3 y4 y5 y6 y7 k7 hx6 hr6 hp6 hq6 HRA6 HPS6 HK6
          generalize putL9 w6 gx o6 c6 p6 q6 m2 = w7 at *
          unfold rlC at hx7
          obtain ⟨⟨y0, y1, y2, y3⟩, ⟨y4, y5, y6, y7⟩, -⟩ := cells_8 hx7
          by_cases he2 : e2 = 0
          case neg =>
            have hE := HE3.out
            unfold rollR2 at hE
            rw [if_pos he2] at hE
            subst hE
            have n2 : ((e2 : Int) != 0) = true := by simpa using he2
            clear he2 HE3
            go_wp2_with (refine wpList_store_rlog rfl (.tmp 4) (.tmp 69) rfl gr o6 c6 p6 q6 m2 (by rfl) (by rfl) hr7 ?_)
            refine bodyPost_ret (v := .tuple #[rlV o6 c6 p6 q6 m2, .int .i64 0, .int .i64 (e2 : Int)]) (by rw [results_rlog_tmp2 rfl _ _ gr _ rfl (putL9_heap o6 c6 p6 q6 m2 hr7) rfl]; rfl) rfl ?_
            have kL := putL9_kp w7 gr o6 c6 p6 q6 m2
            exact ⟨⟨o6, c6, p6, q6, rfl, (HRA7.out.kp kL (fun j _ c e => c.2.2.1 e)).mono (fun j _ c => c.1), (HPS7.out.kp kL (fun j _ c e => c.2.2.1 e)).mono (fun j _ c => c.1), HK7.out.fin kL (fun j e => Or.inr (by omega))⟩⟩
          have hE := HE3.out
          unfold rollR2 at hE
          rw [if_neg (by simpa using he2)] at hE
          have HE4 : Hid (tailR m2 d = RES) := Lib.hid hE
          have n2 : ((e2 : Int) != 0) = false := by subst he2; rfl
          obtain ⟨⟨hsim2, -⟩, d2, s2, s1, p2, hnum2, hlen2, hnx⟩ := HA2.out
          have hp2 := p2 he2
          rw [HPE1.out] at hp2
          have ht2 : tailP m2.ps = ⟨nn, nx, []⟩ := by rw [hp2]; exact tailP_snoc _ _
          have hl2 : m2.ps.length = m.ps.length + 1 := by rw [hp2, List.length_append]; rfl
          have hne2 : m2.ps ≠ [] := by rw [hp2]; simp
          have HTL2 := tail_ex (fun j => P j ∧ j ≠ gx ∧ j ≠ gr ∧ j ≠ g7 ∧ j ≠ q) o6 c6 p6 q6 m2 w7 HPS7.out hne2 (by omega)
          rw [ht2] at HTL2
          dsimp only at HTL2
          have HA4 := Lib.hid (And.intro hsim2 (And.intro d2 (And.intro (show t2.steps ≤ s.steps + 8 by omega) (show m2.ps ≠ [] ∧ m2.ps.length ≤ 200000 ∧ (tailP m2.ps).num ≤ 999999 ∧ nextP9 m2.ps < 4611686018427387904 ∧ (tailP m2.ps).recs.length ≤ 28147497 from by
            refine ⟨hne2, by omega, by rw [ht2]; exact hnum2, ?_, by rw [ht2]; simp⟩
            unfold nextP9
            rw [ht2]
            exact hnx))))
          have HT2 := Lib.hid ht2
          clear hE HE3 he2 hsim2 d2 s2 s1 p2 hp2 ht2 hl2 hne2 hnum2 hlen2 hnx HA2
          go_wp2_with fail
          refine HTL2.mono ?_
          clear HTL2
          rintro e w8 ⟨ro3, rc3, rfl, hrr8, k8⟩
          have hp8 := k8.heap hp7 id
          have hx8 := k8.heap hx7 id
          have hr8 := k8.heap hr7 id
          have k9 : Kp (fun j => j = g7) w8 (((w8.setCell ⟨g7, 0, none⟩ (.int .i64 (nn : Int))).setCell ⟨g7, 1, none⟩ (.int .i64 (nx : Int))).setCell ⟨g7, 2, none⟩ (.slice ro3 0 rc3)) :=
            (((Kp.refl (fun j => j = g7) w8).setCell (p := ⟨g7, 0, none⟩) (fun _ => rfl) (.int .i64 (nn : Int))).setCell (p := ⟨g7, 1, none⟩) (fun _ => rfl) (.int .i64 (nx : Int))).setCell (p := ⟨g7, 2, none⟩) (fun _ => rfl) (.slice ro3 0 rc3)
          have hp9 : (((w8.setCell ⟨g7, 0, none⟩ (.int .i64 (nn : Int))).setCell ⟨g7, 1, none⟩ (.int .i64 (nx : Int))).setCell ⟨g7, 2, none⟩ (.slice ro3 0 rc3)).heap[g7]? = some (.cells #[.int .i64 (nn : Int), .int .i64 (nx : Int), .slice ro3 0 rc3] 57 (0, 0)) := (heap_set_cell (heap_set_cell (heap_set_cell hp8))).trans (by simp)
          have R : Hid (ApS P w gx gr g7 s d RES (((w8.setCell ⟨g7, 0, none⟩ (.int .i64 (nn : Int))).setCell ⟨g7, 1, none⟩ (.int .i64 (nx : Int))).setCell ⟨g7, 2, none⟩ (.slice ro3 0 rc3))) := Lib.hid ⟨⟨o6, c6, p6, q6, ro3, rc3, m2, t2, l2, k9.heap hx8 (by omega), k9.heap hr8 (by omega), by rw [HT2.out]; exact hp9,
            by rw [HT2.out]; exact (hrr8.kp k9 (fun j _ c e => c.2.2.2.1 e)).mono (fun j _ c => ⟨c.1, c.2.1, c.2.2.1, c.2.2.2.1⟩),
            ((HRA7.out.keep k8).kp k9 (fun j _ c e => c.2.2.2.1 e)).mono (fun j _ c => ⟨c.1, c.2.1, c.2.2.1, c.2.2.2.1⟩),
            ((HPS7.out.keep k8).kp k9 (fun j _ c e => c.2.2.2.1 e)).mono (fun j _ c => ⟨c.1, c.2.1, c.2.2.1, c.2.2.2.1⟩),
            (HK7.out.trans k8).fin k9 (fun j e => Or.inr (by omega)), HA4.out.1, HA4.out.2.1, HA4.out.2.2.1, HA4.out.2.2.2, HE4.out⟩⟩
          obtain ⟨z0, z1, z2, u0, u1, u2⟩ := cells_three hp8
          clear k9 hp9 hrr8 k8 y0 y1 y2 y3 y4 y5 y6 y7 hx7 hr7 hp7 HRA7 HPS7 HK7 HA4 HE4 HT2 hx8 hr8
          go_wp2_with fail
          go_meet
          case rel => exact R.out
  case rest =>
  clear hxC hrC hyC HKC HRAC HPSC HRRC hcd HR4
  obtain ⟨ao2, cap2, po2, pc2, ro2, rc2, m2, s2, l2, hx2, hr2, hp2, hrr2, hra2, hps2, k2, hs2, hd2, hst2, hbs2, hres2⟩ := hcut.ex
  clear hcut
  obtain ⟨hne2, hlen2, hnum2, hnx2, hrn2⟩ := hbs2
  have hst := HH.out.2.2.2.1
  have hn8 := HBI.out
  have hdl := HBL.out
  have hfl := frameL_le d
  have hfr := fun (W : World) (hb : BS W bo n c d) => frame_ref bo n c d W hb (by omega)
  obtain ⟨T, hT⟩ : ∃ x, Hid (tailP m2.ps = x) := ⟨_, Lib.hid rfl⟩
  rw [hT.out] at hp2 hrr2 hnum2 hrn2
  unfold tailR at hres2
  rw [hT.out] at hres2
  have hnm := fun W => name_ref T.num W hnum2
  have HS1 := fun (P' : Nat → Prop) (xo : Option Addr) (xc : Nat) (W : World) (hr : RA P' W ao2 m2.d.L.length cap2 m2.d.L) (hp : ∀ j, W.heap.size ≤ j → P' j) (hb : BS W xo (frameL d).length xc (frameL d)) => step_ex P' ao2 cap2 po2 pc2 m2 s2 (oApp (walName T.num) (frameL d)) xo (frameL d).length xc W hr hp hs2.d hd2 (op_app (walName_le T.num) (by omega)) hb rfl (by omega)
  have hps1 : (stepR m2 (oApp (walName T.num) (frameL d))).1.ps = m2.ps := by unfold stepR; rfl
  have hlm1 : (stepR m2 (oApp (walName T.num) (frameL d))).1.lim = m2.lim := by unfold stepR; rfl
  generalize stepR m2 (oApp (walName T.num) (frameL d)) = r1 at *
  obtain ⟨m3, e3⟩ := r1
  simp only [] at hps1 hlm1 HS1 hres2
  obtain ⟨N, hN⟩ : ∃ N, m2.ps.length = N + 1 := ⟨m2.ps.length - 1, by have := List.length_pos_iff.2 hne2; omega⟩
  have HPE3 := Lib.hid hps1
  have HLM3 := Lib.hid hlm1
  have HRS := Lib.hid hres2
  have HBD2 := Lib.hid (And.intro hne2 (And.intro hlen2 (And.intro hnx2 (And.intro hrn2 hN))))
  have HBX := Lib.hid (HB.out.keep k2)
  have HK2 := Lib.hid k2
  have HRA2 := Lib.hid hra2
  have HPS2 := Lib.hid hps2
  have HRR2 := Lib.hid hrr2
  have hz2 := k2.size
  clear hps1 hlm1 hres2 hne2 hlen2 hnx2 hrn2 hN k2 hra2 hps2 hrr2 hs2 hd2 hst2 hst hn8 hdl hnum2 HP4
  simp only [rlC, rl0C] at hx2 hr2
  have HP5 : Hid (∀ j, wc.heap.size ≤ j → P j ∧ j ≠ gx ∧ j ≠ gr ∧ j ≠ g7) := Lib.hid (fun j hj => by
    have h1 := (Array.getElem?_eq_some_iff.1 hx2).1
    have h2 := (Array.getElem?_eq_some_iff.1 hr2).1
    have h3 := (Array.getElem?_eq_some_iff.1 hp2).1
    exact ⟨HP.out j (by omega), by omega, by omega, by omega⟩)
  have k0 : Kp Noone wc wc.drew := (Kp.refl _ _).drew
  obtain ⟨⟨y0, y1, y2, y3⟩, ⟨y4, y5, y6, y7⟩, -⟩ := cells_8 (k0.heap hx2 id)
  obtain ⟨z0, z1, z2, -, -, -⟩ := cells_three (k0.heap hp2 id)
  go_upto_region 18 with fail
  apply wp_region_four (G := fun _ _ o1 c1 wz => wz.heap[gx]? = some (.cells (rlC o1 c1 po2 pc2 m3) 37 (0, 0)) ∧ RA (fun j => P j ∧ j ≠ gx ∧ j ≠ gr ∧ j ≠ g7) wz o1 m3.d.L.length c1 m3.d.L ∧ Kp (fun j => j = gx) wc wz)
  case h =>
    first
      | (go_region_law (first
          | (go_simp; go_at_call 58; refine (hnm _).mono ?_; rintro e wn ⟨rfl, kn⟩; have k0 := k0.trans kn; obtain ⟨⟨y0, y1, y2, y3⟩, ⟨y4, y5, y6, y7⟩, -⟩ := cells_8 (k0.heap hx2 id); obtain ⟨z0, z1, z2, -, -, -⟩ := cells_three (k0.heap hp2 id); (try have HHB := HHB.keep kn))
          | (go_simp; go_at_call 64; refine (hfr _ (HBX.out.keep k0)).mono ?_; rintro e wh ⟨ho, hc, rfl, hho, kh⟩; have k0 := k0.trans kh; obtain ⟨⟨y0, y1, y2, y3⟩, ⟨y4, y5, y6, y7⟩, -⟩ := cells_8 (k0.heap hx2 id); obtain ⟨z0, z1, z2, -, -, -⟩ := cells_three (k0.heap hp2 id); have HHB := hho.bs)
          | (go_simp; go_at_call 57; refine (HS1 (fun j => P j ∧ j ≠ gx ∧ j ≠ gr ∧ j ≠ g7) ho hc _ (HRA2.out.keep k0) (fun j hj => HP5.out j (Nat.le_trans k0.size hj)) HHB).mono ?_; rintro e w4 ⟨o1, c1, rfl, hra4, k4⟩; have k0 := k0.trans k4; obtain ⟨⟨y0, y1, y2, y3⟩, ⟨y4, y5, y6, y7⟩, yf⟩ := cells_8 (k0.heap hx2 id); have yf0 := yf 0; have yf1 := yf 1; have yf2 := yf 2; have yf3 := yf 3; have yf4 := yf 4; have yf5 := yf 5; have yf6 := yf 6; have yf7 := yf 7)))
      | fail
    all_goals (
      refine NoPanic.normal ⟨rfl, ho, hc, o1, c1, rfl, ?_⟩
      exact ⟨set8_heap (k0.heap hx2 id) _ _ _ _ _ _ _ _, hra4.kp (set8_kp (Kp.refl (fun j => j = gx) w4) (g := gx) rfl _ _ _ _ _ _ _ _) (fun j _ c e => c.2.1 e), set8_kp (Kp.none (S := fun j => j = gx) k0) (g := gx) rfl _ _ _ _ _ _ _ _⟩)
  case k =>
    intro ho hc o1 c1 w3 hG
    obtain ⟨hx3, hra3, k3⟩ := hG
    unfold rlC at hx3
    have hgx2 := (Array.getElem?_eq_some_iff.1 hx2).1
    have hgr2 := (Array.getElem?_eq_some_iff.1 hr2).1
    have hg72 := (Array.getElem?_eq_some_iff.1 hp2).1
    have hr3 := k3.heap hr2 (by omega)
    have hp3 := k3.heap hp2 (by omega)
    have HRA3 := Lib.hid hra3
    have HPS3 := Lib.hid (HPS2.out.kp k3 (fun j _ c e => c.2.1 e))
    have HRR3 := Lib.hid (HRR2.out.kp k3 (fun j _ c e => c.2.1 e))
    have HBX3 := Lib.hid (HB.out.keep (HK2.out.fin k3 (fun j e => Or.inr (by omega))))
    have HK3 := Lib.hid (HK2.out.fin k3 (fun j e => Or.inr (by omega)))
    have hz3 : wc.heap.size ≤ w3.heap.size := k3.size
    clear HS1 hnm hfr hra3 k3 k0 y0 y1 y2 y3 y4 y5 y6 y7 z0 z1 z2 hx2 hr2 hp2 HRA2 HPS2 HRR2 HK2 HBX HB
    by_cases he3 : e3 = 0
    case neg =>
      have hE := HRS.out
      rw [if_pos he3] at hE
      subst hE
      have n0 : ((e3 : Int) != 0) = true := by simpa using he3
      obtain ⟨⟨y0, y1, y2, y3⟩, ⟨y4, y5, y6, y7⟩, -⟩ := cells_8 hx3
      clear he3
      go_wp2_with (refine wpList_store_rlog rfl (.tmp 4) (.tmp 86) rfl gr o1 c1 po2 pc2 m3 (by rfl) (by rfl) hr3 ?_)
      refine bodyPost_ret (v := .tuple #[rlV o1 c1 po2 pc2 m3, .int .i64 0, .int .i64 (e3 : Int)]) (by rw [results_rlog_tmp2 rfl _ _ gr _ rfl (putL9_heap o1 c1 po2 pc2 m3 hr3) rfl]; rfl) rfl ?_
      have kL := putL9_kp w3 gr o1 c1 po2 pc2 m3
      refine ⟨⟨o1, c1, po2, pc2, rfl, (HRA3.out.kp kL (fun j _ c e => c.2.2.1 e)).mono (fun j _ c => c.1), ?_, HK3.out.fin kL (fun j e => Or.inr (by omega))⟩⟩
      simp only [HPE3.out]
      exact (HPS3.out.kp kL (fun j _ c e => c.2.2.1 e)).mono (fun j _ c => c.1)
    have hE := HRS.out
    rw [if_neg (by simpa using he3)] at hE
    have HE := Lib.hid hE
    have n0 : ((e3 : Int) != 0) = false := by subst he3; rfl
    clear hE HRS he3
    obtain ⟨hne, hlen, hnx, hrn, hN⟩ := HBD2.out
    have hps3 := HPS3.out
    rw [← HPE3.out] at hps3
    have hN3 : m3.ps.length = N + 1 := by rw [HPE3.out]; exact hN
    obtain ⟨hs9, hl9, hrow9, hrec9⟩ := hps3.row
    have hlv := pcsV_length m3.ps hs9 hl9
    have hpc := hps3.max
    rw [hN3] at hlv
    simp only [hN3] at hx3
    obtain ⟨hsR, hlR, hrowR, hdatR⟩ := HRR3.out.row
    have hpcR := HRR3.out.max
    have hlvR : (hdrs9 hsR).length = T.recs.length * 1 := by simp [hdrs9, hlR]
    have HREC := Lib.hid hrec9
    have HDAT := Lib.hid hdatR
    clear hps3 hrec9 hdatR HPS3 HRR3
    have kB : Kp Noone w3 (w3.alloc (.cells #[] 57)) := (Kp.refl _ _).alloc _
    have hown0 : Own (fun j => w3.heap.size ≤ j) (w3.alloc (.cells #[] 57)) 57 3 (some ⟨w3.heap.size, 0, none⟩) 0 0 [] := Own.fresh (xs := []) (Nat.le_refl _) (heap_alloc_new w3 (.cells #[] 57)) rfl (by simp [maxLen])
    have hrowB := hrow9.keep kB
    obtain ⟨⟨y0, y1, y2, y3⟩, ⟨y4, y5, y6, y7⟩, -⟩ := cells_8 (kB.heap hx3 id)
    have HL9 := Lib.hid hl9
    have HLV := Lib.hid hlv
    have HLR := Lib.hid hlR
    have HLVR := Lib.hid hlvR
    have HROWR := Lib.hid hrowR
    have HN := Lib.hid hN3
    have HBD3 := Lib.hid (And.intro hne (And.intro hlen (And.intro hnx hrn)))
    have hNl : N + 1 ≤ 200000 := by omega
    clear hl9 hlv hlR hlvR hrowR hN3 hN hne hlen hnx hrow9
    go_wp2_with (at_builtin; refine wpList_append_gen _ rfl (.tmp 88) (.tmp 90) 35 rfl 57 i0 (.agg #[.int .i64 0, .int .i64 0, .slice none 0 0]) 3 40 Tryz.underlying35 qi qz0 qz1 qz2 rfl (some ⟨w3.heap.size, 0, none⟩) 0 0 rfl po2 (N + 1) pc2 rfl (fun j => w3.heap.size ≤ j) [] hown0 (pcsV m3.ps hs9) HLV.out hrowB (pcsV_one _ _) (by omega) (by unfold maxLen; omega) ?_)
    intro xo xc w4 ho4 k4
    have k34 : Kp Noone w3 w4 := kB.fin k4 (fun j c => Or.inr c)
    have ho4' := ho4.mono (G := fun j => w3.heap.size ≤ j ∧ j < w4.heap.size) (fun j hj c => ⟨c.elim id (fun c => by have := kB.size; omega), hj⟩)
    have HO4 := Lib.hid ho4'
    have HK34 := Lib.hid k34
    have hp4 := k34.heap hp3 id
    have hx4 := k34.heap hx3 id
    have kC : Kp Noone w4 (w4.alloc (.cells #[] 42)) := (Kp.refl _ _).alloc _
    have hownC : Own (fun j => w4.heap.size ≤ j) (w4.alloc (.cells #[] 42)) 42 1 (some ⟨w4.heap.size, 0, none⟩) 0 0 [] := Own.fresh (xs := []) (Nat.le_refl _) (heap_alloc_new w4 (.cells #[] 42)) rfl (by simp [maxLen])
    have hrowC := HROWR.out.keep (k34.trans kC)
    obtain ⟨z0, z1, z2, -, -, -⟩ := cells_three (kC.heap hp4 id)
    clear ho4 ho4' k4 kB hown0 hrowB y0 y1 y2 y3 y4 y5 y6 y7 k34
    go_wp2_with (at_builtin; refine wpList_append_gen _ rfl (.tmp 92) (.tmp 94) 55 rfl 42 i1 (.slice none 0 0) 1 24 Tryz.underlying55 qj qy0 qy1 qy2 rfl (some ⟨w4.heap.size, 0, none⟩) 0 0 rfl ro2 T.recs.length rc2 rfl (fun j => w4.heap.size ≤ j) [] hownC (hdrs9 hsR) HLVR.out hrowC (hdrs9_all _) (by omega) (by unfold maxLen; omega) ?_)
    intro zo zc w5 ho5 k5
    have k45 : Kp Noone w4 w5 := kC.fin k5 (fun j c => Or.inr c)
    have ho5' := ho5.mono (G := fun j => w4.heap.size ≤ j ∧ j < w5.heap.size) (fun j hj c => ⟨c.elim id (fun c => by have := kC.size; omega), hj⟩)
    have HO5 := Lib.hid ho5'
    have HO45 := Lib.hid (HO4.out.keep k45)
    have HK35 := Lib.hid (HK34.out.trans k45)
    have hz45 := k45.size
    have hx5 := k45.heap hx4 id
    have hz34 := HK34.out.size
    clear ho5 ho5' k5 kC hownC hrowC z0 z1 z2 hp4 hx4 HO4 HK34 k45
    have hw23 : IntKind.i64.wrap (((N + 1 : Nat) : Int) - 1) = (N : Int) := by rw [IntWalk.i64_in _ (by omega)]; omega
    have hNi : (N : Int) < ((N + 1 : Nat) : Int) := by omega
    have HBY := Lib.hid (fun (W : World) (hb : BS W bo n c d) => copy_exact bo n c d W hb (by have := HBI.out; omega))
    go_wp2_with fail
    refine (HBY.out _ (HBX3.out.keep HK35.out)).mono ?_
    rintro e w6 ⟨rfl, hw6⟩
    have k56 : Kp Noone w5 w6 := by rw [hw6]; exact (Kp.refl _ _).alloc _
    have hoB : Own (fun j => j = w5.heap.size) w6 5 1 (some ⟨w5.heap.size, 0, none⟩) n n (bv d) := by rw [hw6]; exact Own.fresh rfl (heap_alloc_new w5 _) (by rw [length_bv, HBL.out, Nat.mul_one]) (by have := HBI.out; unfold maxLen; omega)
    have hgb : w5.heap.size < w6.heap.size := by rw [hw6, alloc_size]; omega
    have hz35 := HK35.out.size
    have HK36 := Lib.hid (HK35.out.trans k56)
    have HO6 := Lib.hid (HO5.out.keep k56)
    have HO46 := Lib.hid (HO45.out.keep k56)
    have HOB := Lib.hid hoB
    have hx6 := k56.heap hx5 id
    clear hw6 k56 hoB HBY HBX3 HO5 HO45 HK35 hx5
    generalize w5.heap.size = gb at *
    have kD : Kp Noone w6 (w6.alloc (.cells #[.slice (some ⟨gb, 0, none⟩) n n] 42)) := (Kp.refl _ _).alloc _
    have hownD := HO6.out.keep kD
    clear HO6
    go_wp2_with (at_builtin; refine wpList_append_gen _ rfl (.tmp 100) (.tmp 103) 55 rfl 42 i1 (.slice none 0 0) 1 24 Tryz.underlying55 qj qy0 qy1 qy2 rfl zo T.recs.length zc rfl (some ⟨w6.heap.size, 0, none⟩) 1 1 rfl (fun j => w4.heap.size ≤ j ∧ j < gb) (hdrs9 hsR) hownD [.slice (some ⟨gb, 0, none⟩) n n] rfl (Row.ofHeap (heap_alloc_new w6 _)) (hdrs9_one _ _ _) (by omega) (by unfold maxLen; omega) ?_)
    intro yo yc w7 ho7 k7
    have k67 : Kp (fun j => w4.heap.size ≤ j ∧ j < gb) w6 w7 := Kp.trans (Kp.none kD) k7
    have ho7' := ho7.mono (G := fun j => w4.heap.size ≤ j ∧ j ≠ gb) (fun j hj c => c.elim (fun c => ⟨c.1, by omega⟩) (fun c => by have := kD.size; exact ⟨by omega, by omega⟩))
    rw [← hdrs9_snoc hsR (some ⟨gb, 0, none⟩, n, n)] at ho7'
    have hoP7 := HO46.out.kp k67 (fun j c e => by omega)
    have hoB7 := HOB.out.kp k67 (fun j c e => by omega)
    have HK37 := Lib.hid (HK36.out.fin k67 (fun j c => Or.inr (by omega)))
    have hx7 := HK37.out.heap hx3 id
    obtain ⟨gp, off, rfl, hFp, hgp, hcp, hfp⟩ := hoP7.at (k := N * 3 + 2) (by have := HLV.out; omega)
    rw [← Nat.add_assoc] at hcp hfp
    have hset := hoP7.set (k := N * 3 + 2) (by have := HLV.out; omega) (.slice yo (T.recs.length + 1) yc)
    rw [← Nat.add_assoc] at hset
    have HO7 := Lib.hid ho7'
    have HSET := Lib.hid hset
    have HOB7 := Lib.hid hoB7
    clear ho7 ho7' k7 kD hownD hoP7 hset hoB7 k67 HO46 HOB hx6
    go_upto_region 24 with fail
    clear hcp hfp
    have k78 : Kp (fun j => j = gp) w7 (w7.setCell ⟨gp, off + N * 3 + 2, none⟩ (.slice yo (T.recs.length + 1) yc)) := (Kp.refl (fun j => j = gp) w7).setCell (p := ⟨gp, off + N * 3 + 2, none⟩) (fun _ => rfl) _
    have HK38 := Lib.hid (HK37.out.fin k78 (fun j e => Or.inr (by omega)))
    have HO8 := Lib.hid (HO7.out.kp k78 (fun j c e => by omega))
    have HOB8 := Lib.hid (HOB7.out.kp k78 (fun j c e => by omega))
    clear k78 HO7 HOB7 hx7
    generalize w7.setCell ⟨gp, off + N * 3 + 2, none⟩ (.slice yo (T.recs.length + 1) yc) = w8 at *
    have hx8 := HK38.out.heap hx3 id
    have hr8 := HK38.out.heap hr3 id
    obtain ⟨-, ⟨-, -, y6, -⟩, yf⟩ := cells_8 hx8
    have yf6 := yf 6
    have k9 := (Kp.refl (fun j => j = gx) w8).setCell (p := ⟨gx, 6, none⟩) (fun _ => rfl) (.slice (some ⟨gp, off, none⟩) (N + 1) xc)
    have hx9 : (w8.setCell ⟨gx, 6, none⟩ (.slice (some ⟨gp, off, none⟩) (N + 1) xc)).heap[gx]? = some (.cells #[.slice o1 m3.d.L.length c1, .int .i64 m3.d.room, .int .i64 m3.d.steps, .int .i64 m3.d.fuse, .bool m3.d.down, .int .i64 (m3.lim : Int), .slice (some ⟨gp, off, none⟩) (N + 1) xc, .bool m3.shut] 37 (0, 0)) := (heap_set_cell hx8).trans (by simp)
    have hr9 := k9.heap hr8 (by omega)
    have hgx3 : gx < w3.heap.size := by omega
    have HRA9 := Lib.hid ((HRA3.out.keep HK38.out).kp k9 (fun j _ c e => c.2.1 e))
    have HK9 := Lib.hid ((HK3.out.trans HK38.out).fin k9 (fun j e => Or.inr (by omega)))
    have HPQ := HP5.out
    have hO9 := HSET.out.kp k9 (fun j c e => by omega)
    have hmm := pcsV_more (ps := m3.ps) (hs := hs9) (by rw [HPE3.out]; exact HBD3.out.1) HL9.out d yo yc
    rw [HN.out, Nat.add_sub_cancel, HPE3.out, hT.out] at hmm
    have hml : (moreP m2.ps d).length = N + 1 := by
      have h1 := HN.out
      rw [HPE3.out] at h1
      have h2 := snoc_tail HBD3.out.1
      rw [h2, List.length_append] at h1
      unfold moreP
      rw [List.length_append]
      simpa using h1
    rw [HPE3.out] at hO9
    rw [hmm] at hO9
    have hrt : RRec (fun j => P j ∧ j ≠ gx ∧ j ≠ gr ∧ j ≠ g7) (w8.setCell ⟨gx, 6, none⟩ (.slice (some ⟨gp, off, none⟩) (N + 1) xc)) yo (T.recs.length + 1) yc (T.recs ++ [d]) := RRec.ofOwn (HO8.out.kp k9 (fun j c e => by omega)) (by rw [List.length_append]; rfl) (by rw [List.length_append, List.length_append, HLR.out]; rfl) (fun j _ c => HPQ j (by omega)) (fun i h1 h2 => by
      by_cases hi : i < hsR.length
      · have hi2 : i < T.recs.length := by rw [← HLR.out]; exact hi
        have e1 : (hsR ++ [(some ⟨gb, 0, none⟩, n, n)])[i] = hsR[i] := List.getElem_append_left hi
        have e2 : (T.recs ++ [d])[i] = T.recs[i] := List.getElem_append_left hi2
        rw [e1, e2]
        exact ((HDAT.out i hi hi2).keep HK38.out).kp k9 (fun j _ c e => c.2.1 e)
      · have hi1 : i = hsR.length := by rw [List.length_append] at h1; simp at h1; omega
        have e1 : (hsR ++ [(some ⟨gb, 0, none⟩, n, n)])[i] = (some ⟨gb, 0, none⟩, n, n) := by subst hi1; simp
        have e2 : (T.recs ++ [d])[i] = d := by
          have : i = T.recs.length := by rw [← HLR.out]; exact hi1
          subst this
          simp
        rw [e1, e2]
        exact ((HOB8.out.kp k9 (fun j c e => by omega)).dataP).mono (fun j _ c => HPQ j (by omega)))
    have hrp : RPs (fun j => P j ∧ j ≠ gx ∧ j ≠ gr ∧ j ≠ g7) (w8.setCell ⟨gx, 6, none⟩ (.slice (some ⟨gp, off, none⟩) (N + 1) xc)) (some ⟨gp, off, none⟩) (N + 1) xc (moreP m2.ps d) := RPs.ofOwn hO9 hml (by
        have h1 := HL9.out
        rw [HPE3.out] at h1
        have h2 := hml
        rw [h2, List.length_append, List.length_dropLast]
        rw [HPE3.out] at HN
        have := HN.out
        simp only [List.length_cons, List.length_nil]
        omega) (fun j _ c => HPQ j (by omega)) (fun i h1 h2 => by
      have hl9 := HL9.out
      have hn9 := HN.out
      by_cases hi : i < N
      · have hi1 : i < hs9.dropLast.length := by rw [List.length_dropLast]; omega
        have hi3 : i < hs9.length := by omega
        have hi4 : i < m3.ps.length := by omega
        have hi5 : i < m2.ps.length := by rw [← HPE3.out]; exact hi4
        have hi2 : i < m2.ps.dropLast.length := by rw [List.length_dropLast]; rw [HPE3.out] at hn9; omega
        have e1 : (hs9.dropLast ++ [(yo, yc)])[i] = hs9[i] := by rw [List.getElem_append_left hi1, List.getElem_dropLast]
        have e2 : (moreP m2.ps d)[i] = m3.ps[i] := by
          have : (moreP m2.ps d)[i] = m2.ps[i] := moreP_lt (by rw [← HPE3.out]; omega) _ _
          rw [this]
          simp only [HPE3.out]
        rw [e1, e2]
        exact ((HREC.out i hi3 hi4).keep HK38.out).kp k9 (fun j _ c e => c.2.1 e)
      · have hiN : i = N := by omega
        have e1 : (hs9.dropLast ++ [(yo, yc)])[i] = (yo, yc) := by
          have : i = hs9.dropLast.length := by rw [List.length_dropLast]; omega
          subst this
          simp
        have e2 : (moreP m2.ps d)[i] = ⟨T.num, T.first, T.recs ++ [d]⟩ := by
          have h5 : m2.ps.length = N + 1 := by rw [← HPE3.out]; exact hn9
          rw [moreP_last (by omega) _, hT.out]
        rw [e1, e2]
        show RRec _ _ yo (T.recs ++ [d]).length yc (T.recs ++ [d])
        rw [List.length_append]
        exact hrt)
    have HRT := Lib.hid hrt
    have HPS9 := Lib.hid hrp
    have HML := Lib.hid hml
    have hnx9 := HBD3.out.2.2.1
    obtain ⟨nx, hnxe⟩ : ∃ x, Hid (nextP9 m2.ps = x) := ⟨_, Lib.hid rfl⟩
    rw [hnxe.out] at hnx9
    have hnm9 : nextP9 (moreP m2.ps d) = nx + 1 := by
      rw [← hnxe.out]
      unfold nextP9
      rw [moreP_tail]
      simp only [List.length_append, List.length_cons, List.length_nil]
      omega
    have HNX := Lib.hid (fun (W : World) (hq : RPs (fun j => P j ∧ j ≠ gx ∧ j ≠ gr ∧ j ≠ g7) W (some ⟨gp, off, none⟩) (N + 1) xc (moreP m2.ps d)) => (show Calls Tryz.prog 17 #[.agg #[.slice o1 m3.d.L.length c1, .int .i64 m3.d.room, .int .i64 m3.d.steps, .int .i64 m3.d.fuse, .bool m3.d.down, .int .i64 (m3.lim : Int), .slice (some ⟨gp, off, none⟩) (N + 1) xc, .bool m3.shut]] W (fun e w' => e = .returned (.int .i64 ((nx + 1 : Nat) : Int)) ∧ Kp Noone W w') from by
      have h := next_ref (fun j => P j ∧ j ≠ gx ∧ j ≠ gr ∧ j ≠ g7) o1 c1 (some ⟨gp, off, none⟩) xc ⟨m3.d, m3.lim, moreP m2.ps d, m3.shut⟩ W (by rw [HML.out]; exact hq) (fun c => by have h1 := HML.out; simp only [] at c; rw [c] at h1; simp at h1) (by rw [HML.out]; omega) (by rw [hnm9]; omega)
      simp only [HML.out, hnm9] at h
      exact h))
    have hwn9 : IntKind.i64.wrap (((nx + 1 : Nat) : Int) - 1) = (nx : Int) := by rw [IntWalk.i64_in _ (by omega)]; omega
    have hwn8 : IntKind.i64.wrap (nx : Int) = (nx : Int) := IntWalk.i64_in _ (by omega)
    clear hrt hrp hml hnm9 hmm hO9 HPQ hnx9
    go_upto_region 25 with fail
    clear y6 yf yf6 k9 hx8 hr8 HO8 HOB8 HSET HK38 hx3 hr3 hp3
    generalize w8.setCell ⟨gx, 6, none⟩ (.slice (some ⟨gp, off, none⟩) (N + 1) xc) = w9 at *
    have k0 : Kp Noone w9 w9.drew := (Kp.refl _ _).drew
    obtain ⟨⟨y0, y1, y2, y3⟩, ⟨y4, y5, y6, y7⟩, -⟩ := cells_8 (k0.heap hx9 id)
    obtain ⟨⟨u0, u1, u2, u3⟩, ⟨u4, u5, u6, u7⟩, uf⟩ := cells_8 (k0.heap hr9 id)
    have uf0 := uf 0; have uf1 := uf 1; have uf2 := uf 2; have uf3 := uf 3; have uf4 := uf 4; have uf5 := uf 5; have uf6 := uf 6; have uf7 := uf 7
    apply wp_region_0 (G := fun wz => wz.heap[gr]? = some (.cells #[.slice o1 m3.d.L.length c1, .int .i64 m3.d.room, .int .i64 m3.d.steps, .int .i64 m3.d.fuse, .bool m3.d.down, .int .i64 (m3.lim : Int), .slice (some ⟨gp, off, none⟩) (N + 1) xc, .bool m3.shut] 37 (0, 0)) ∧ Kp (fun j => j = gr) w9 wz)
    case h =>
      first
        | (go_region_law (go_simp; go_at_call 17; refine (HNX.out _ (HPS9.out.keep k0)).mono ?_; rintro e wq ⟨rfl, kq⟩; have k0 := k0.trans kq; obtain ⟨⟨y0, y1, y2, y3⟩, ⟨y4, y5, y6, y7⟩, -⟩ := cells_8 (k0.heap hx9 id); obtain ⟨⟨u0, u1, u2, u3⟩, ⟨u4, u5, u6, u7⟩, uf⟩ := cells_8 (k0.heap hr9 id); have uf0 := uf 0; have uf1 := uf 1; have uf2 := uf 2; have uf3 := uf 3; have uf4 := uf 4; have uf5 := uf 5; have uf6 := uf 6; have uf7 := uf 7))
        | fail
      all_goals (
        refine NoPanic.normal ⟨rfl, rfl, ?_⟩
        exact ⟨set8_heap (k0.heap hr9 id) _ _ _ _ _ _ _ _, set8_kp (Kp.none (S := fun j => j = gr) k0) (g := gr) rfl _ _ _ _ _ _ _ _⟩)
    case k =>
      intro wz hG
      obtain ⟨hz, kz⟩ := hG
      have hra := HRA9.out.kp kz (fun j _ c e => c.2.2.1 e)
      have hrp := HPS9.out.kp kz (fun j _ c e => c.2.2.1 e)
      have HQ : Hid (ApTo P w RES (.returned (.tuple #[.agg #[.slice o1 m3.d.L.length c1, .int .i64 m3.d.room, .int .i64 m3.d.steps, .int .i64 m3.d.fuse, .bool m3.d.down, .int .i64 (m3.lim : Int), .slice (some ⟨gp, off, none⟩) (N + 1) xc, .bool m3.shut], .int .i64 (nx : Int), .int .i64 0])) wz) := Lib.hid (by
        rw [← HE.out]
        refine ⟨⟨o1, c1, some ⟨gp, off, none⟩, xc, ?_, hra.mono (fun j _ c => c.1), ?_, HK9.out.fin kz (fun j e => Or.inr (by omega))⟩⟩
        · unfold rlV rlC
          simp only [HML.out, HLM3.out, hnxe.out]
          rfl
        · show RPs P wz (some ⟨gp, off, none⟩) (moreP m2.ps d).length xc (moreP m2.ps d)
          rw [HML.out]
          exact hrp.mono (fun j _ c => c.1))
      clear hra hrp kz k0 y0 y1 y2 y3 y4 y5 y6 y7 u0 u1 u2 u3 u4 u5 u6 u7 uf uf0 uf1 uf2 uf3 uf4 uf5 uf6 uf7
      go_wp2_with fail
      refine bodyPost_ret (v := .tuple #[.agg #[.slice o1 m3.d.L.length c1, .int .i64 m3.d.room, .int .i64 m3.d.steps, .int .i64 m3.d.fuse, .bool m3.d.down, .int .i64 (m3.lim : Int), .slice (some ⟨gp, off, none⟩) (N + 1) xc, .bool m3.shut], .int .i64 (nx : Int), .int .i64 0]) (by rw [results_rlog_tmp2 rfl _ _ gr _ rfl hz rfl]; rfl) rfl ?_
      exact HQ.out


end Go.Proofs.YtigdhdclfdojgaaGreat
