/-
  WalRunsC, WalRunsO in one text.
-/
import Derived.Test.YtigdhdclfdojgaaGreatWalRefJ
import Derived.Test.YtigdhdclfdojgaaGreatWalRefN
import Derived.Test.YtigdhdclfdojgaaGreatWalRunsPK
import Derived.Test.YtigdhdclfdojgaaGreatWalRefM
import Derived.Test.YtigdhdclfdojgaaGreatWalHeadSame
import Derived.Test.YtigdhdclfdojgaaGreatWalRefN9
/-
  THE WALK of the law's own call: an Append, Sync or Trim on both sides.
-/
namespace Go.Proofs.YtigdhdclfdojgaaGreat
open Go.RowKit

/-- What the law's call answers. -/
structure CallTo (P : Nat → Prop) (B : Nat) (col : Nat → Nat) (w : World) (p q : Nat) (M : RLog) (R : DS × LogP) (e : Ending) (w' : World) : Prop where
  ex : ∃ col' ao cap po pc, e = .returned (.tuple #[rlV ao cap po pc M, .bool true]) ∧ Ext B (SL 0 4) col w col' w' ∧ Lg 4 0 col' w' p q R.1 R.2 ∧ RA (fun j => P j ∧ col' j = 0) w' ao M.d.L.length cap M.d.L ∧ RPs (fun j => P j ∧ col' j = 0) w' po M.ps.length pc M.ps
theorem cells_4 {w : World} {p e : Nat} {a b c d : Value} (h : w.heap[p]? = some (.cells #[a, b, c, d] e (0, 0))) :
    w.cell? ⟨p, 0, none⟩ = some a ∧ w.cell? ⟨p, 1, none⟩ = some b ∧ w.cell? ⟨p, 2, none⟩ = some c ∧ w.cell? ⟨p, 3, none⟩ = some d := by
  refine ⟨?_, ?_, ?_, ?_⟩
  all_goals (rw [cell_of_row w p _ _ e (0, 0) h]; rfl)
theorem nsl {col : Nat → Nat} {j : Nat} (c : col j = 0) : ¬ SL 0 4 (col j) := by rw [c]; unfold SL S3; omega
theorem RA.past {P Z : Nat → Prop} {B : Nat} {col col' : Nat → Nat} {w w' : World} {ao : Option Addr} {n cap : Nat} {L : Img} (h : RA (fun j => (P j ∧ col j = 0) ∧ Z j) w ao n cap L) (x : Ext B (SL 0 4) col w col' w') : RA (fun j => (P j ∧ col' j = 0) ∧ Z j) w' ao n cap L :=
  ((h.mono (Q := fun j => ((P j ∧ col j = 0) ∧ Z j) ∧ j < w.heap.size) (fun _j hj c => ⟨c, hj⟩)).kp x.kp (fun _j _ c => nsl c.1.1.2)).mono (fun j _ c => ⟨⟨c.1.1.1, (x.old j c.2).trans c.1.1.2⟩, c.1.2⟩)
theorem RPs.past {P Z : Nat → Prop} {B : Nat} {col col' : Nat → Nat} {w w' : World} {ao : Option Addr} {n cap : Nat} {ps : List PcS} (h : RPs (fun j => (P j ∧ col j = 0) ∧ Z j) w ao n cap ps) (x : Ext B (SL 0 4) col w col' w') : RPs (fun j => (P j ∧ col' j = 0) ∧ Z j) w' ao n cap ps :=
  ((h.mono (Q := fun j => ((P j ∧ col j = 0) ∧ Z j) ∧ j < w.heap.size) (fun _j hj c => ⟨c, hj⟩)).kp x.kp (fun _j _ c => nsl c.1.1.2)).mono (fun j _ c => ⟨⟨c.1.1.1, (x.old j c.2).trans c.1.1.2⟩, c.1.2⟩)
theorem CallTo.fin {P Z : Nat → Prop} {B gr : Nat} {col col' : Nat → Nat} {w w5 wz : World} {p q : Nat} {M : RLog} {s : DS} {l : LogP} {ao : Option Addr} {cap : Nat} {po : Option Addr} {pc : Nat} (x : Ext B (SL 0 4) col w col' w5) (hl : Lg 4 0 col' w5 p q s l) (hra : RA (fun j => (P j ∧ col' j = 0) ∧ Z j) w5 ao M.d.L.length cap M.d.L) (hps : RPs (fun j => (P j ∧ col' j = 0) ∧ Z j) w5 po M.ps.length pc M.ps) (hZ : ∀ j, Z j → j ≠ gr) (hg : col' gr = 0) (hgr : w.heap.size ≤ gr) (k : Kp (fun j => j = gr) w5 wz) :
    CallTo P B col w p q M (s, l) (.returned (.tuple #[rlV ao cap po pc M, .bool true])) wz :=
  ⟨⟨col', ao, cap, po, pc, rfl, x.flip k (fun j c => by subst c; exact hgr), hl.free k (by omega) (fun j c => by subst c; exact hg), (hra.kp k (fun j _ c e => hZ j c.2 e)).mono (fun j _ c => c.1), (hps.kp k (fun j _ c e => hZ j c.2 e)).mono (fun j _ c => c.1)⟩⟩
attribute [local irreducible] putD doE putL9 stepR appendR syncR trimR appendLF syncLF trimLF

set_option maxHeartbeats 8000000 in
set_option maxRecDepth 100000 in
theorem lawCall_any (P : Nat → Prop) (B i : Nat) (col : Nat → Nat) (ao : Option Addr) (cap : Nat) (po : Option Addr) (pc : Nat) (m : RLog) (s : DS) (l : LogP) (p q : Nat) (o : OpW) (bo : Option Addr) (bm bc : Nat) (ko : Option Addr) (km kc : Nat) (w : World) (h : RA (fun j => P j ∧ col j = 0) w ao m.d.L.length cap m.d.L) (hps : RPs (fun j => P j ∧ col j = 0) w po m.ps.length pc m.ps) (hP : ∀ j, w.heap.size ≤ j → P j) (hlg : Lg 4 0 col w p q s l) (hc : Cols B w col) (hB : B ≤ w.heap.size) (hs : SimW m s l) (hrb : RB i m) (hi : i ≤ 99) (hb : BS w bo bm bc o.b) (hbm : bm + 1 ≤ 1048576) (hn : -9223372036854775808 ≤ o.n ∧ o.n ≤ 9223372036854775807) (hst : s.steps < 4611686018420000000) :
    Calls Tryz.prog 14 #[.pointer (some ⟨q, 0, none⟩), rlV ao cap po pc m, .agg #[.int .i64 o.k, .slice bo bm bc, .int .i64 o.n, .slice ko km kc]] w fun e w' => CallTo P B col w p q (callR m o) (callF s l o) e w' := by
  obtain ⟨MR, hMR⟩ : ∃ x, Hid (callR m o = x) := ⟨_, Lib.hid rfl⟩
  obtain ⟨FR, hFR⟩ : ∃ x, Hid (callF s l o = x) := ⟨_, Lib.hid rfl⟩
  rw [hMR.out, hFR.out]
  obtain ⟨hx, ho, hr, kA, eA⟩ := three_new w (.cells (rlC ao cap po pc m) 37) (.cells #[.int .i64 o.k, .slice bo bm bc, .int .i64 o.n, .slice ko km kc] 45) (.cells rl0C 37)
  have HH := Lib.hid (And.intro hs (And.intro hrb (And.intro hlg (And.intro hc (And.intro hB (And.intro hst hn))))))
  have hbl := hb.len
  conv => unfold rlV
  simp only [rlC, rl0C] at hx ho hr kA eA ⊢
  go_enter Tryz.func14, Tryz.ntmps14
  go_upto_region 1 with fail
  generalize ((w.alloc (.cells #[.slice ao m.d.L.length cap, .int .i64 m.d.room, .int .i64 m.d.steps, .int .i64 m.d.fuse, .bool m.d.down, .int .i64 (m.lim : Int), .slice po m.ps.length pc, .bool m.shut] 37)).alloc (.cells #[.int .i64 o.k, .slice bo bm bc, .int .i64 o.n, .slice ko km kc] 45)).alloc (.cells #[.slice none 0 0, .int .i64 0, .int .i64 0, .int .i64 0, .bool false, .int .i64 0, .slice none 0 0, .bool false] 37) = wA at *
  generalize hgr : w.heap.size + 1 + 1 = gr at *
  generalize hgo : w.heap.size + 1 = go at *
  generalize hgx : w.heap.size = gx at *
  have HKA := Lib.hid kA
  have HRA := Lib.hid ((h.mono (Q := fun j => (P j ∧ col j = 0) ∧ j ≠ gr) (fun j hj c => ⟨c, by omega⟩)).keep kA)
  have HPS := Lib.hid ((hps.mono (Q := fun j => (P j ∧ col j = 0) ∧ j ≠ gr) (fun j hj c => ⟨c, by omega⟩)).keep kA)
  have HPA : Hid (∀ j, wA.heap.size ≤ j → (P j ∧ col j = 0) ∧ j ≠ gr) := Lib.hid (fun j hj => ⟨⟨hP j (by omega), cols_new hc (by omega)⟩, by omega⟩)
  have HBA := Lib.hid (hb.keep kA)
  have HLG := Lib.hid (hlg.keep kA)
  have HCA := Lib.hid (And.intro (hc.keep kA.size) (Nat.le_trans hB (Nat.le_trans (by omega) kA.size)))
  have HBL := Lib.hid hbl
  have HC0 := Lib.hid hc
  have hcr : col gr = 0 := cols_new hc (by omega)
  have hcx : col gx = 0 := cols_new hc (by omega)
  have hco : col go = 0 := cols_new hc (by omega)
  have hgrA := (Array.getElem?_eq_some_iff.1 hr).1
  clear h hps hP hlg hc hB hs hrb hb hst hn kA hbl eA
  obtain ⟨z0, z1, z2, z3⟩ := cells_4 ho
  obtain ⟨⟨y0, y1, y2, y3⟩, ⟨y4, y5, y6, y7⟩, -⟩ := cells_8 hx
  rcases (show o.k = 0 ∨ o.k = 1 ∨ o.k = 2 ∨ (o.k ≠ 0 ∧ o.k ≠ 1 ∧ o.k ≠ 2) by omega) with cK | cK | cK | ⟨c0, c1, c2⟩
  case inl =>
    rw [cK] at z0
    obtain ⟨hs, hrb, -, -, -, hst, -⟩ := HH.out
    obtain ⟨hn1, hn2⟩ := hs.last hrb.ne
    have hnx := hrb.next (by omega)
    have hsz := hrb.size (by omega)
    have hok := hrb.lok (by omega) hs
    have hlp : l.pieces.length ≤ 1000000 := by rw [← hs.ps]; unfold heads; rw [List.length_map]; have := hrb.len; omega
    have e1 : MR = (appendR m o.b).1 := by rw [← hMR.out]; unfold callR; rw [if_pos cK]
    have e2 : FR = ((appendLF s l o.b).1, (appendLF s l o.b).2.1) := by rw [← hFR.out]; unfold callF; rw [if_pos cK]
    have a1 := append_sim hs hrb.ne HLG.out.dk.2 (by omega) o.b
    have hap := fun (P' : Nat → Prop) (W : World) (hr : RA P' W ao m.d.L.length cap m.d.L) (hq : RPs P' W po m.ps.length pc m.ps) (hp : ∀ j, W.heap.size ≤ j → P' j) (hb : BS W bo bm bc o.b) => appendD_ref P' ao cap po pc m s l bo bm bc o.b W hr hq hp hs HLG.out.dk.2 (hrb.rbd (by omega)) (by omega) hb (by omega) (by omega)
    have hop := fun (W : World) (k : Kp Noone wA W) (fo : Option Addr) (hb : DataP (fun j => col j = 0) W fo bm bm o.b) => append_l B 4 0 col W p q s l fo bm bm o.b (HLG.out.keep k) hok (HCA.out.1.keep k.size) (Nat.le_trans HCA.out.2 k.size) (by omega) hb (by omega) (by omega) (by omega) hlp
    generalize appendR m o.b = M at *
    generalize appendLF s l o.b = F at *
    obtain ⟨M1, r1, r2⟩ := M
    obtain ⟨s1, l1, f1, f2⟩ := F
    obtain ⟨a1, a2⟩ := a1
    simp only [] at a2 e1 e2
    obtain ⟨rfl, rfl⟩ := Prod.mk.inj a2
    have e1 := e1.symm
    subst e1
    subst e2
    have HAP := Lib.hid hap
    have HOP := Lib.hid hop
    have hcp := copy_exact bo bm bc o.b wA HBA.out (by omega)
    clear hs hrb hst hn1 hn2 hnx hsz hok hlp a1 a2 hap hop HH
    go_wp2_with fail
    refine hcp.mono ?_
    clear hcp
    rintro e w2 ⟨rfl, hw2⟩
    have k2 : Kp Noone wA w2 := by rw [hw2]; exact (Kp.refl _ _).alloc _
    have ho2 : Own (fun j => j = wA.heap.size) w2 5 1 (some ⟨wA.heap.size, 0, none⟩) bm bm (bv o.b) := by rw [hw2]; exact Own.fresh rfl (heap_alloc_new wA _) (by rw [length_bv, HBL.out, Nat.mul_one]) (by unfold maxLen; omega)
    have hcb : col wA.heap.size = 0 := cols_new HCA.out.1 (Nat.le_refl _)
    have hgb2 : wA.heap.size < w2.heap.size := by rw [hw2, alloc_size]; omega
    have hx2 := k2.heap hx id
    have hr2 := k2.heap hr id
    have hoo2 := k2.heap ho id
    have HRA2 := Lib.hid ((HRA.out.mono (Q := fun j => (P j ∧ col j = 0) ∧ j ≠ gr ∧ j ≠ wA.heap.size) (fun j hj c => ⟨c.1, c.2, by omega⟩)).keep k2)
    have HPS2 := Lib.hid ((HPS.out.mono (Q := fun j => (P j ∧ col j = 0) ∧ j ≠ gr ∧ j ≠ wA.heap.size) (fun j hj c => ⟨c.1, c.2, by omega⟩)).keep k2)
    have HP2 : Hid (∀ j, w2.heap.size ≤ j → (P j ∧ col j = 0) ∧ j ≠ gr ∧ j ≠ wA.heap.size) := Lib.hid (fun j hj => by have h := HPA.out j (by omega); exact ⟨h.1, h.2, by omega⟩)
    have HB2 := Lib.hid (HBA.out.keep k2)
    have HK2 := Lib.hid k2
    have HO2 := Lib.hid ho2
    clear hw2 z0 z1 z2 z3 y0 y1 y2 y3 y4 y5 y6 y7 hx ho hr HRA HPS HPA HBA k2 ho2
    generalize hgb : wA.heap.size = gb at *
    obtain ⟨z0, z1, z2, z3⟩ := cells_4 hoo2
    obtain ⟨⟨y0, y1, y2, y3⟩, ⟨y4, y5, y6, y7⟩, -⟩ := cells_8 hx2
    go_wp2_with fail
    refine (HAP.out _ _ HRA2.out HPS2.out HP2.out HB2.out).mono ?_
    clear HAP
    rintro e w3 hto
    obtain ⟨o1, c1, p1, q1, rfl, hra3, hps3, k3⟩ := hto.ex
    simp only [] at hra3 hps3 ⊢
    have hy := heap_alloc_new w3 (.cells #[.slice none 0 0, .int .i64 0, .int .i64 0, .int .i64 0, .bool false, .int .i64 0, .slice none 0 0, .bool false] 37)
    have kN : Kp Noone w3 (w3.alloc (.cells #[.slice none 0 0, .int .i64 0, .int .i64 0, .int .i64 0, .bool false, .int .i64 0, .slice none 0 0, .bool false] 37)) := (Kp.refl _ _).alloc _
    have hx4 := putL9_heap o1 c1 p1 q1 M1 hy
    have k4 := kN.fin (putL9_kp (w3.alloc (.cells #[.slice none 0 0, .int .i64 0, .int .i64 0, .int .i64 0, .bool false, .int .i64 0, .slice none 0 0, .bool false] 37)) w3.heap.size o1 c1 p1 q1 M1) (fun j e => Or.inr (by omega))
    have k24 := k3.trans k4
    have hr4 := k24.heap hr2 id
    have HRA4 := Lib.hid (hra3.keep k4)
    have HPS4 := Lib.hid (hps3.keep k4)
    have HO4 := Lib.hid (HO2.out.keep k24)
    have HK4 := Lib.hid (HK2.out.trans k24)
    have hz3 := k3.size
    clear hto hra3 hps3 k3 k4 kN k24 z0 z1 z2 z3 y0 y1 y2 y3 y4 y5 y6 y7 hx2 hr2 hoo2 HRA2 HPS2 HP2 HB2 HK2 HO2
    go_upto_region 5 with (refine wpList_store_rlog rfl (.tmp 9) (.tmp 31) rfl w3.heap.size o1 c1 p1 q1 M1 (by rfl) (by rfl) hy ?_)
    clear hy
    generalize putL9 (w3.alloc (.cells #[.slice none 0 0, .int .i64 0, .int .i64 0, .int .i64 0, .bool false, .int .i64 0, .slice none 0 0, .bool false] 37)) w3.heap.size o1 c1 p1 q1 M1 = w4 at *
    generalize w3.heap.size = g9 at *
    have hg94 := (Array.getElem?_eq_some_iff.1 hx4).1
    have hgr4 := (Array.getElem?_eq_some_iff.1 hr4).1
    have hc9 : col g9 = 0 := cols_new HCA.out.1 (by omega)
    unfold rlC at hx4
    go_wp2_with fail
    refine (HOP.out w4 HK4.out _ (HO4.out.dataP.mono (fun j _ c => by subst c; exact hcb))).mono ?_
    clear HOP
    rintro e w5 hto
    obtain ⟨col', rfl, x, hlg5⟩ := hto.ex
    clear hto
    have hx5 := x.kp.heap hx4 (nsl hc9)
    have hr5 := x.kp.heap hr4 (nsl hcr)
    have HO5 := Lib.hid (HO4.out.kp x.kp (fun j c => by subst c; exact nsl hcb))
    have HRA5 := Lib.hid (HRA4.out.past x)
    have HPS5 := Lib.hid (HPS4.out.past x)
    have hcr5 : col' gr = 0 := (x.old gr hgr4).trans hcr
    have hcb5 : col' gb = 0 := (x.old gb (by omega)).trans hcb
    have HX5 := Lib.hid ((Ext.quiet (S := SL 0 4) HC0.out (HKA.out.trans HK4.out)).trans x)
    have HLG5 := Lib.hid hlg5
    have hgb9 : g9 ≠ gb := by omega
    have hgbr : gr ≠ gb := by omega
    clear x hlg5 hx4 hr4 HO4 HRA4 HPS4 HK4
    go_wp2_with fail
    go_loopw [42, 14] (fun i _ w' => ∃ (j : Nat) (xs : List UInt8), j ≤ bm ∧ i = .int .i64 (j : Int) ∧ Own (fun j => j = gb) w' 5 1 (some ⟨gb, 0, none⟩) bm bm (bv xs) ∧ Kp (fun j => j = gb) w5 w') (fun i _ _ => bm - (intOf i).toNat)
    case atStart => exact ⟨0, _, Nat.zero_le _, rfl, HO5.out, Kp.refl _ _⟩
    case round =>
      obtain ⟨j, xs, hj, rfl, hor, kq⟩ := hrel
      by_cases hlt2 : j < bm
      case pos =>
        obtain ⟨g, off', hkl, hgo, hFg, hg, hc, hf, hset⟩ := hor.byte hlt2
        cases hgo
        have hfl := Lib.hid (flip_val xs[j])
        have hst := Lib.hid (hset (xs[j] ^^^ 255))
        generalize xs[j] = x at *
        clear hset hor
        rw [Nat.zero_add] at hc hf hst
        go_wp2_with fail
        go_roundw
        case rel => exact ⟨j + 1, _, by omega, by go_num, by rw [hfl.out]; exact hst.out, Kp.setCell (S := fun j => j = gb) (p := ⟨gb, j, none⟩) kq (fun _ => rfl) _⟩
        case measure => simp [intOf]; omega
      have hx6 := kq.heap hx5 hgb9
      have hr6 := kq.heap hr5 hgbr
      have hRA6 := (HRA5.out.kp kq (fun j _ c e => c.2.2 e))
      have hPS6 := (HPS5.out.kp kq (fun j _ c e => c.2.2 e))
      have hX6 := HX5.out.flip kq (fun j c => by subst c; omega)
      have hL6 := HLG5.out.free kq (by omega) (fun j c => by subst c; exact hcb5)
      have HF := Lib.hid (CallTo.fin hX6 hL6 hRA6 hPS6 (gr := gr) (fun j c => c.1) hcr5 (by omega) (putL9_kp wr gr o1 c1 p1 q1 M1))
      obtain ⟨⟨y0, y1, y2, y3⟩, ⟨y4, y5, y6, y7⟩, -⟩ := cells_8 hx6
      clear hor kq hx6 hRA6 hPS6 hX6 hL6
      go_wp2_with (refine wpList_store_rlog rfl (.tmp 6) (.tmp 52) rfl gr o1 c1 p1 q1 M1 (by rfl) (by rfl) hr6 ?_)
      refine bodyPost_ret (v := .tuple #[rlV o1 c1 p1 q1 M1, .bool true]) (by rw [results_rlog_tmp rfl _ _ gr _ rfl (putL9_heap o1 c1 p1 q1 M1 hr6) rfl]; rfl) rfl ?_
      exact HF.out
  case inr.inl =>
    rw [cK] at z0
    obtain ⟨hs, hrb, -, -, -, hst, hnn⟩ := HH.out
    have hok := hrb.lok (by omega) hs
    have hlm := hrb.len
    have c0 : ¬ o.k = 0 := by omega

    have e1 : MR = (syncR m).1 := by rw [← hMR.out]; unfold callR; rw [if_neg c0, if_pos cK]
    have e2 : FR = ((syncLF s l).1, (syncLF s l).2.1) := by rw [← hFR.out]; unfold callF; rw [if_neg c0, if_pos cK]
    have a1 := sync_sim hs hrb.ne HLG.out.dk.2
    have hap := sync_ref (fun j => (P j ∧ col j = 0) ∧ j ≠ gr) ao cap po pc m s l wA HRA.out HPS.out HPA.out hs HLG.out.dk.2 (hrb.rbd (by omega)) (by omega)
    have hop := fun (W : World) (k : Kp Noone wA W) => sync_l B 4 0 col W p q s l (HLG.out.keep k) hok (HCA.out.1.keep k.size) (Nat.le_trans HCA.out.2 k.size) (by omega) (by omega)
    generalize (syncR m) = M at *
    generalize (syncLF s l) = F at *
    obtain ⟨M1, r2⟩ := M
    obtain ⟨s1, l1, f2⟩ := F
    obtain ⟨a1, a2⟩ := a1
    simp only [] at a2 e1 e2
    subst a2
    have e1 := e1.symm
    subst e1
    subst e2
    have HOP := Lib.hid hop
    clear hs hrb hst hok a1 hop HH hlm hnn c0
    go_wp2_with fail
    refine hap.mono ?_
    clear hap
    rintro e w3 hto
    obtain ⟨o1, c1, p1, q1, rfl, hra3, hps3, k3⟩ := hto.ex
    simp only [] at hra3 hps3 ⊢
    have hy := heap_alloc_new w3 (.cells #[.slice none 0 0, .int .i64 0, .int .i64 0, .int .i64 0, .bool false, .int .i64 0, .slice none 0 0, .bool false] 37)
    have kN : Kp Noone w3 (w3.alloc (.cells #[.slice none 0 0, .int .i64 0, .int .i64 0, .int .i64 0, .bool false, .int .i64 0, .slice none 0 0, .bool false] 37)) := (Kp.refl _ _).alloc _
    have hx4 := putL9_heap o1 c1 p1 q1 M1 hy
    have k4 := kN.fin (putL9_kp (w3.alloc (.cells #[.slice none 0 0, .int .i64 0, .int .i64 0, .int .i64 0, .bool false, .int .i64 0, .slice none 0 0, .bool false] 37)) w3.heap.size o1 c1 p1 q1 M1) (fun j e => Or.inr (by omega))
    have k34 := k3.trans k4
    have hr4 := k34.heap hr id
    have ho4 := k34.heap ho id
    have HRA4 := Lib.hid (hra3.keep k4)
    have HPS4 := Lib.hid (hps3.keep k4)
    have HK4 := Lib.hid k34
    have hz3 := k3.size
    clear hto hra3 hps3 k3 k4 kN k34 z0 z1 z2 z3 y0 y1 y2 y3 y4 y5 y6 y7 hx hr ho HRA HPS HPA HBA
    go_upto_region 14 with (refine wpList_store_rlog rfl (.tmp 15) (.tmp 66) rfl w3.heap.size o1 c1 p1 q1 M1 (by rfl) (by rfl) hy ?_)
    clear hy
    generalize putL9 (w3.alloc (.cells #[.slice none 0 0, .int .i64 0, .int .i64 0, .int .i64 0, .bool false, .int .i64 0, .slice none 0 0, .bool false] 37)) w3.heap.size o1 c1 p1 q1 M1 = w4 at *
    generalize w3.heap.size = g9 at *
    have hg94 := (Array.getElem?_eq_some_iff.1 hx4).1
    have hgr4 := (Array.getElem?_eq_some_iff.1 hr4).1
    have hc9 : col g9 = 0 := cols_new HCA.out.1 (by omega)
    unfold rlC at hx4
    have h9r : ¬ g9 = gr := by omega
    have hor9 : ¬ go = gr := by omega
    have hKY : ∀ w', Kp (fun j => SL 0 4 (col j) ∨ j = gr) w4 w' → (((w'.cell? ⟨g9, 0, none⟩ = some (.slice o1 M1.d.L.length c1) ∧ w'.cell? ⟨g9, 1, none⟩ = some (.int .i64 M1.d.room) ∧ w'.cell? ⟨g9, 2, none⟩ = some (.int .i64 M1.d.steps) ∧ w'.cell? ⟨g9, 3, none⟩ = some (.int .i64 M1.d.fuse)) ∧ (w'.cell? ⟨g9, 4, none⟩ = some (.bool M1.d.down) ∧ w'.cell? ⟨g9, 5, none⟩ = some (.int .i64 (M1.lim : Int)) ∧ w'.cell? ⟨g9, 6, none⟩ = some (.slice p1 M1.ps.length q1) ∧ w'.cell? ⟨g9, 7, none⟩ = some (.bool M1.shut))) ∧ w'.cell? ⟨go, 2, none⟩ = some (.int .i64 o.n)) := fun w' k =>
      have h9 : ¬ (SL 0 4 (col g9) ∨ g9 = gr) := fun a => a.elim (nsl hc9) h9r
      have h0 : ¬ (SL 0 4 (col go) ∨ go = gr) := fun a => a.elim (nsl hco) hor9
      ⟨⟨(cells_8 (k.heap hx4 h9)).1, (cells_8 (k.heap hx4 h9)).2.1⟩, (cells_4 (k.heap ho4 h0)).2.2.1⟩
    have HKY := Lib.hid hKY
    have k0 : Kp Noone w4 w4.drew := (Kp.refl _ _).drew
    have kk : Kp (fun j => SL 0 4 (col j) ∨ j = gr) w4 w4.drew := Kp.none k0
    clear hKY
    go_region_held3 (fun w' => ((w'.cell? ⟨g9, 0, none⟩ = some (.slice o1 M1.d.L.length c1) ∧ w'.cell? ⟨g9, 1, none⟩ = some (.int .i64 M1.d.room) ∧ w'.cell? ⟨g9, 2, none⟩ = some (.int .i64 M1.d.steps) ∧ w'.cell? ⟨g9, 3, none⟩ = some (.int .i64 M1.d.fuse)) ∧ (w'.cell? ⟨g9, 4, none⟩ = some (.bool M1.d.down) ∧ w'.cell? ⟨g9, 5, none⟩ = some (.int .i64 (M1.lim : Int)) ∧ w'.cell? ⟨g9, 6, none⟩ = some (.slice p1 M1.ps.length q1) ∧ w'.cell? ⟨g9, 7, none⟩ = some (.bool M1.shut))) ∧ w'.cell? ⟨go, 2, none⟩ = some (.int .i64 o.n))
      (first | with_reducible exact HKY.out _ kk | with_reducible exact HKY.out _ (set8_kp kk (g := gr) (Or.inr rfl) _ _ _ _ _ _ _ _))
      (first | (go_at_call 40; refine (HOP.out _ (HK4.out.trans k0)).mono ?_; rintro e w5 hto; obtain ⟨col', rfl, x, hlg5⟩ := hto.ex; have kk : Kp (fun j => SL 0 4 (col j) ∨ j = gr) w4 w5 := Kp.trans (Kp.none k0) (x.kp.mono (fun j _ a => Or.inl a)); have hr5 := x.kp.heap (k0.heap hr4 id) (nsl hcr); obtain ⟨⟨u0, u1, u2, u3⟩, ⟨u4, u5, u6, u7⟩, uf⟩ := cells_8 hr5; have uf0 := uf 0; have uf1 := uf 1; have uf2 := uf 2; have uf3 := uf 3; have uf4 := uf 4; have uf5 := uf 5; have uf6 := uf 6; have uf7 := uf 7))
    have hcr5 : col' gr = 0 := (x.old gr (Nat.lt_of_lt_of_le hgr4 k0.size)).trans hcr
    have X5 := (Ext.quiet (HCA.out.1.keep HK4.out.size) k0).trans x
    have hz := set8_heap hr5 (.slice o1 M1.d.L.length c1) (.int .i64 M1.d.room) (.int .i64 M1.d.steps) (.int .i64 M1.d.fuse) (.bool M1.d.down) (.int .i64 (M1.lim : Int)) (.slice p1 M1.ps.length q1) (.bool M1.shut)
    have HF := Lib.hid (CallTo.fin ((Ext.quiet (S := SL 0 4) HC0.out (HKA.out.trans HK4.out)).trans X5) hlg5 (HRA4.out.past X5) (HPS4.out.past X5) (gr := gr) (fun j c => c) hcr5 (by omega) (set8_kp (Kp.refl (fun j => j = gr) w5) (g := gr) rfl (.slice o1 M1.d.L.length c1) (.int .i64 M1.d.room) (.int .i64 M1.d.steps) (.int .i64 M1.d.fuse) (.bool M1.d.down) (.int .i64 (M1.lim : Int)) (.slice p1 M1.ps.length q1) (.bool M1.shut)))
    clear k0 kk u0 u1 u2 u3 u4 u5 u6 u7 uf uf0 uf1 uf2 uf3 uf4 uf5 uf6 uf7 x hlg5 X5
    go_wp2_with fail
    refine bodyPost_ret (v := .tuple #[rlV o1 c1 p1 q1 M1, .bool true]) (by rw [results_rlog_tmp rfl _ _ gr _ rfl hz rfl]; rfl) rfl ?_
    exact HF.out
  case inr.inr.inl =>
    rw [cK] at z0
    obtain ⟨hs, hrb, -, -, -, hst, hnn⟩ := HH.out
    have hok := hrb.lok (by omega) hs
    have hlm := hrb.len
    have c0 : ¬ o.k = 0 := by omega
    have c1 : ¬ o.k = 1 := by omega
    have e1 : MR = (trimR m o.n).1 := by rw [← hMR.out]; unfold callR; rw [if_neg c0, if_neg c1, if_pos cK]
    have e2 : FR = ((trimLF s l o.n).1, (trimLF s l o.n).2.1) := by rw [← hFR.out]; unfold callF; rw [if_neg c0, if_neg c1, if_pos cK]
    have a1 := (trim_sim hs hrb.ne HLG.out.dk.2 o.n (by omega)).1
    have hap := trim_ref (fun j => (P j ∧ col j = 0) ∧ j ≠ gr) ao cap po pc m s l o.n wA HRA.out HPS.out HPA.out hs HLG.out.dk.2 (hrb.rbd (by omega)) (by omega)
    have hop := fun (W : World) (k : Kp Noone wA W) => trim_l B 4 0 col W p q s l o.n (HLG.out.keep k) hok (HCA.out.1.keep k.size) (Nat.le_trans HCA.out.2 k.size) (by omega) (by omega)
    generalize (trimR m o.n) = M at *
    generalize (trimLF s l o.n) = F at *
    obtain ⟨M1, r2⟩ := M
    obtain ⟨s1, l1, f2⟩ := F
    obtain ⟨a1, a2⟩ := a1
    simp only [] at a2 e1 e2
    subst a2
    have e1 := e1.symm
    subst e1
    subst e2
    have HOP := Lib.hid hop
    clear hs hrb hst hok a1 hop HH hlm hnn c0 c1
    go_wp2_with fail
    refine hap.mono ?_
    clear hap
    rintro e w3 hto
    obtain ⟨o1, c1, p1, q1, rfl, hra3, hps3, k3⟩ := hto.ex
    simp only [] at hra3 hps3 ⊢
    have hy := heap_alloc_new w3 (.cells #[.slice none 0 0, .int .i64 0, .int .i64 0, .int .i64 0, .bool false, .int .i64 0, .slice none 0 0, .bool false] 37)
    have kN : Kp Noone w3 (w3.alloc (.cells #[.slice none 0 0, .int .i64 0, .int .i64 0, .int .i64 0, .bool false, .int .i64 0, .slice none 0 0, .bool false] 37)) := (Kp.refl _ _).alloc _
    have hx4 := putL9_heap o1 c1 p1 q1 M1 hy
    have k4 := kN.fin (putL9_kp (w3.alloc (.cells #[.slice none 0 0, .int .i64 0, .int .i64 0, .int .i64 0, .bool false, .int .i64 0, .slice none 0 0, .bool false] 37)) w3.heap.size o1 c1 p1 q1 M1) (fun j e => Or.inr (by omega))
    have k34 := k3.trans k4
    have hr4 := k34.heap hr id
    have ho4 := k34.heap ho id
    have HRA4 := Lib.hid (hra3.keep k4)
    have HPS4 := Lib.hid (hps3.keep k4)
    have HK4 := Lib.hid k34
    have hz3 := k3.size
    clear hto hra3 hps3 k3 k4 kN k34 z0 z1 z2 z3 y0 y1 y2 y3 y4 y5 y6 y7 hx hr ho HRA HPS HPA HBA
    go_upto_region 17 with (refine wpList_store_rlog rfl (.tmp 17) (.tmp 80) rfl w3.heap.size o1 c1 p1 q1 M1 (by rfl) (by rfl) hy ?_)
    clear hy
    generalize putL9 (w3.alloc (.cells #[.slice none 0 0, .int .i64 0, .int .i64 0, .int .i64 0, .bool false, .int .i64 0, .slice none 0 0, .bool false] 37)) w3.heap.size o1 c1 p1 q1 M1 = w4 at *
    generalize w3.heap.size = g9 at *
    have hg94 := (Array.getElem?_eq_some_iff.1 hx4).1
    have hgr4 := (Array.getElem?_eq_some_iff.1 hr4).1
    have hc9 : col g9 = 0 := cols_new HCA.out.1 (by omega)
    unfold rlC at hx4
    have h9r : ¬ g9 = gr := by omega
    have hor9 : ¬ go = gr := by omega
    have hKY : ∀ w', Kp (fun j => SL 0 4 (col j) ∨ j = gr) w4 w' → (((w'.cell? ⟨g9, 0, none⟩ = some (.slice o1 M1.d.L.length c1) ∧ w'.cell? ⟨g9, 1, none⟩ = some (.int .i64 M1.d.room) ∧ w'.cell? ⟨g9, 2, none⟩ = some (.int .i64 M1.d.steps) ∧ w'.cell? ⟨g9, 3, none⟩ = some (.int .i64 M1.d.fuse)) ∧ (w'.cell? ⟨g9, 4, none⟩ = some (.bool M1.d.down) ∧ w'.cell? ⟨g9, 5, none⟩ = some (.int .i64 (M1.lim : Int)) ∧ w'.cell? ⟨g9, 6, none⟩ = some (.slice p1 M1.ps.length q1) ∧ w'.cell? ⟨g9, 7, none⟩ = some (.bool M1.shut))) ∧ w'.cell? ⟨go, 2, none⟩ = some (.int .i64 o.n)) := fun w' k =>
      have h9 : ¬ (SL 0 4 (col g9) ∨ g9 = gr) := fun a => a.elim (nsl hc9) h9r
      have h0 : ¬ (SL 0 4 (col go) ∨ go = gr) := fun a => a.elim (nsl hco) hor9
      ⟨⟨(cells_8 (k.heap hx4 h9)).1, (cells_8 (k.heap hx4 h9)).2.1⟩, (cells_4 (k.heap ho4 h0)).2.2.1⟩
    have HKY := Lib.hid hKY
    have k0 : Kp Noone w4 w4.drew := (Kp.refl _ _).drew
    have kk : Kp (fun j => SL 0 4 (col j) ∨ j = gr) w4 w4.drew := Kp.none k0
    clear hKY
    go_region_held3 (fun w' => ((w'.cell? ⟨g9, 0, none⟩ = some (.slice o1 M1.d.L.length c1) ∧ w'.cell? ⟨g9, 1, none⟩ = some (.int .i64 M1.d.room) ∧ w'.cell? ⟨g9, 2, none⟩ = some (.int .i64 M1.d.steps) ∧ w'.cell? ⟨g9, 3, none⟩ = some (.int .i64 M1.d.fuse)) ∧ (w'.cell? ⟨g9, 4, none⟩ = some (.bool M1.d.down) ∧ w'.cell? ⟨g9, 5, none⟩ = some (.int .i64 (M1.lim : Int)) ∧ w'.cell? ⟨g9, 6, none⟩ = some (.slice p1 M1.ps.length q1) ∧ w'.cell? ⟨g9, 7, none⟩ = some (.bool M1.shut))) ∧ w'.cell? ⟨go, 2, none⟩ = some (.int .i64 o.n))
      (first | with_reducible exact HKY.out _ kk | with_reducible exact HKY.out _ (set8_kp kk (g := gr) (Or.inr rfl) _ _ _ _ _ _ _ _))
      (first | (go_at_call 42; refine (HOP.out _ (HK4.out.trans k0)).mono ?_; rintro e w5 hto; obtain ⟨col', rfl, x, hlg5⟩ := hto.ex; have kk : Kp (fun j => SL 0 4 (col j) ∨ j = gr) w4 w5 := Kp.trans (Kp.none k0) (x.kp.mono (fun j _ a => Or.inl a)); have hr5 := x.kp.heap (k0.heap hr4 id) (nsl hcr); obtain ⟨⟨u0, u1, u2, u3⟩, ⟨u4, u5, u6, u7⟩, uf⟩ := cells_8 hr5; have uf0 := uf 0; have uf1 := uf 1; have uf2 := uf 2; have uf3 := uf 3; have uf4 := uf 4; have uf5 := uf 5; have uf6 := uf 6; have uf7 := uf 7))
    have hcr5 : col' gr = 0 := (x.old gr (Nat.lt_of_lt_of_le hgr4 k0.size)).trans hcr
    have X5 := (Ext.quiet (HCA.out.1.keep HK4.out.size) k0).trans x
    have hz := set8_heap hr5 (.slice o1 M1.d.L.length c1) (.int .i64 M1.d.room) (.int .i64 M1.d.steps) (.int .i64 M1.d.fuse) (.bool M1.d.down) (.int .i64 (M1.lim : Int)) (.slice p1 M1.ps.length q1) (.bool M1.shut)
    have HF := Lib.hid (CallTo.fin ((Ext.quiet (S := SL 0 4) HC0.out (HKA.out.trans HK4.out)).trans X5) hlg5 (HRA4.out.past X5) (HPS4.out.past X5) (gr := gr) (fun j c => c) hcr5 (by omega) (set8_kp (Kp.refl (fun j => j = gr) w5) (g := gr) rfl (.slice o1 M1.d.L.length c1) (.int .i64 M1.d.room) (.int .i64 M1.d.steps) (.int .i64 M1.d.fuse) (.bool M1.d.down) (.int .i64 (M1.lim : Int)) (.slice p1 M1.ps.length q1) (.bool M1.shut)))
    clear k0 kk u0 u1 u2 u3 u4 u5 u6 u7 uf uf0 uf1 uf2 uf3 uf4 uf5 uf6 uf7 x hlg5 X5
    go_wp2_with fail
    refine bodyPost_ret (v := .tuple #[rlV o1 c1 p1 q1 M1, .bool true]) (by rw [results_rlog_tmp rfl _ _ gr _ rfl hz rfl]; rfl) rfl ?_
    exact HF.out
  case inr.inr.inr =>
    have e0 : (o.k == 0) = false := by simpa using c0
    have e1 : (o.k == 1) = false := by simpa using c1
    have e2 : (o.k == 2) = false := by simpa using c2
    have e3 : MR = m := by rw [← hMR.out]; unfold callR; rw [if_neg c0, if_neg c1, if_neg c2]
    have e4 : FR = (s, l) := by rw [← hFR.out]; unfold callF; rw [if_neg c0, if_neg c1, if_neg c2]
    subst e3
    subst e4
    have HF := Lib.hid (CallTo.fin (Ext.quiet (S := SL 0 4) HC0.out HKA.out) HLG.out HRA.out HPS.out (gr := gr) (fun j c => c) hcr (by omega) (putL9_kp wA gr ao cap po pc MR))
    clear c0 c1 c2
    go_wp2_with (refine wpList_store_rlog rfl (.tmp 6) (.tmp 89) rfl gr ao cap po pc MR (by rfl) (by rfl) hr ?_)
    refine bodyPost_ret (v := .tuple #[rlV ao cap po pc MR, .bool true]) (by rw [results_rlog_tmp rfl _ _ gr _ rfl (putL9_heap ao cap po pc MR hr) rfl]; rfl) rfl ?_
    exact HF.out

end Go.Proofs.YtigdhdclfdojgaaGreat

/-
  THE WALK of the law's own open: Open on both sides.
-/
namespace Go.Proofs.YtigdhdclfdojgaaGreat
open Go.RowKit

theorem results_mid_rlog {fn : Func} {p u v : Tmp} (h : fn.results = #[.tmp u, .cell p 37, .tmp v]) (tmps : Array Value) (w : World) (g : Nat) (cs : Array Value)
    (hp : tmps.getD p undef = .pointer (some ⟨g, 0, none⟩)) (hg : w.heap[g]? = some (.cells cs 37 (0, 0))) (h8 : cs.size = 8) :
    (results fn tmps).run Tryz.prog w = .ok (.tuple #[tmps.getD u undef, .agg cs, tmps.getD v undef]) w := by
  have hp' : tmps[p]?.getD undef = .pointer (some ⟨g, 0, none⟩) := by simpa using hp
  simp [results, h, hp', asAddr, rlog_load w g cs hg h8]
theorem openR_nil (m : RD) (n : Int) (h : (openR m n).2.2 ≠ 0) : (openR m n).2.1 = [] := by
  unfold openR at h ⊢
  split
  · rfl
  · rename_i c
    rw [if_neg c] at h
    unfold openDropR at h ⊢
    split
    · rfl
    · rename_i c2
      rw [if_neg c2] at h
      split
      · rfl
      · rename_i c3
        rw [if_neg c3] at h
        unfold openCutR at h ⊢
        split
        · rfl
        · rename_i c4
          rw [if_neg c4] at h
          unfold openSyncR at h ⊢
          split
          · rfl
          · rename_i c5
            rw [if_neg c5] at h
            exact absurd rfl h
theorem openR_len {m : RD} (hL : m.L.length ≤ 64) (hD : ∀ x ∈ m.L, x.2.data.length ≤ 4194304) (n : Int) : (openR m n).2.1.length ≤ 281474976710656 := by
  obtain ⟨hok, hbd⟩ := foundR_ok hL hD
  have h1 := recsOf_len 4194304 _ (fun p hp => (hok.ps p hp).2.2.1)
  have h2 := Nat.mul_le_mul_right 4194304 hbd.ps
  unfold openR
  split
  · simp
  · generalize foundR (datL m.L) = g at *
    unfold openDropR
    split
    · simp
    · split
      · simp
      · unfold openCutR
        split
        · simp
        · unfold openSyncR
          split
          · simp
          · show (recsOf g.ps).length ≤ _
            omega
theorem RSP.rsl {P : Nat → Prop} {w : World} {ro : Option Addr} {rc : Nat} {recs : Recs} (h : RSP P w ro rc recs) : RSl w ro rc recs := by
  obtain ⟨rh, ho, hr⟩ := h
  exact ⟨_, _, rh, ho, hr⟩
/-- What the law's open answers. -/
structure LOpTo (P : Nat → Prop) (B : Nat) (col : Nat → Nat) (w : World) (p : Nat) (M : OpenD) (R : OpenR) (e : Ending) (w' : World) : Prop where
  ex : ∃ col' ao cap po pc vl, e = .returned (.tuple #[vl, rlV ao cap po pc M.1, .bool true]) ∧ Ext B (SL 0 4) col w col' w' ∧ Dk col' 0 w' p R.1 ∧ RA (fun j => P j ∧ col' j = 0) w' ao M.1.d.L.length cap M.1.d.L ∧ RPs (fun j => P j ∧ col' j = 0) w' po M.1.ps.length pc M.1.ps ∧
    ((vl = .pointer none ∧ R.2.1 = none) ∨ ∃ q l recs, vl = .pointer (some ⟨q, 0, none⟩) ∧ R.2.1 = some (l, recs) ∧ Lg 4 0 col' w' p q R.1 l ∧ R.2.2 = 0)
attribute [local irreducible] putD doE putL9 stepR openR openF

set_option maxHeartbeats 8000000 in
set_option maxRecDepth 100000 in
theorem lawOpen_any (P : Nat → Prop) (B : Nat) (col : Nat → Nat) (ao : Option Addr) (cap : Nat) (m : RD) (s : DS) (p : Nat) (n : Int) (w : World) (h : RA (fun j => P j ∧ col j = 0) w ao m.L.length cap m.L) (hP : ∀ j, w.heap.size ≤ j → P j) (d : Dk col 0 w p s) (hc : Cols B w col) (hB : B ≤ w.heap.size) (hs : Sim m s) (hsm : SmallD s) (hst : s.steps < 4611686018420000000) :
    Calls Tryz.prog 8 #[.pointer (some ⟨p, 0, none⟩), rdV ao cap m, .int .i64 n] w fun e w' => LOpTo P B col w p (openR m n) (openF s n) e w' := by
  have hos := open_sim hs d.2 hst (fun k => hsm.read k) n
  have hrn := openR_nil m n
  have hL : m.L.length ≤ 64 := by rw [hs.a.len]; exact d.2.len
  have hD : ∀ x ∈ m.L, x.1.size ≤ maxLen ∧ x.2.data.length ≤ 4194304 := fun x hx => ⟨by have := nameOk_size (d.2.names x (hs.a.perm.subset hx)); unfold maxLen; omega, hsm x (hs.a.perm.subset hx)⟩
  obtain ⟨hx, hr, kA, eA⟩ := two_new w (.cells (rdC ao cap m) 26) (.cells rl0C 37)
  have hod := fun (P' : Nat → Prop) (W : World) (hr : RA P' W ao m.L.length cap m.L) (hp : ∀ j, W.heap.size ≤ j → P' j) => openD_ref P' ao cap m s n W hr hp hs d.2 hL hD (by omega)
  have hop := fun (W : World) (k : Kp Noone w W) => open_l B 4 0 col W p s n (d.keep k) (hc.keep k.size) (Nat.le_trans hB k.size) (by omega) hst (fun k => hsm.read k)
  have hrl := openR_len hL (fun x hx => (hD x hx).2) n
  generalize openR m n = M at *
  generalize openF s n = R at *
  obtain ⟨M1, recs, f⟩ := M
  obtain ⟨s1, lr, f1⟩ := R
  obtain ⟨-, o2, o3, o4⟩ := hos
  simp only [] at o2 o3 o4 hrn hrl
  subst o2
  have HO := Lib.hid (And.intro o3 (And.intro o4 hrn))
  have HRL := Lib.hid hrl
  clear hrl
  have HOD := Lib.hid hod
  have HOP := Lib.hid hop
  have HC := Lib.hid (And.intro hc hB)
  clear o3 o4 hrn hod hop hL hD hs hsm hst d
  conv => unfold rdV
  simp only [rdC, rl0C] at hx hr kA eA ⊢
  go_enter Tryz.func8, Tryz.ntmps8
  go_upto_region 1 with fail
  generalize (w.alloc (.cells #[.slice ao m.L.length cap, .int .i64 m.room, .int .i64 m.steps, .int .i64 m.fuse, .bool m.down] 26)).alloc (.cells #[.slice none 0 0, .int .i64 0, .int .i64 0, .int .i64 0, .bool false, .int .i64 0, .slice none 0 0, .bool false] 37) = wA at *
  generalize hgr : w.heap.size + 1 = gr at *
  generalize hgx : w.heap.size = gx at *
  have HKA := Lib.hid kA
  have HRA := Lib.hid ((h.mono (Q := fun j => (P j ∧ col j = 0) ∧ j ≠ gr) (fun j hj c => ⟨c, by omega⟩)).keep kA)
  have HP := Lib.hid hP
  clear h hP kA
  obtain ⟨⟨y0, y1, y2, y3, y4⟩, -⟩ := cells_five hx
  have HPA : Hid (∀ j, wA.heap.size ≤ j → (P j ∧ col j = 0) ∧ j ≠ gr) := Lib.hid (fun j hj => ⟨⟨HP.out j (by omega), cols_new hc (by omega)⟩, by omega⟩)
  clear hc hB
  go_wp2_with fail
  refine (HOD.out _ wA HRA.out HPA.out).mono ?_
  clear HOD
  rintro e w1 hto
  obtain ⟨ao1, cap1, po1, pc1, so1, sc1, rfl, hra1, hps1, hrs1, k1⟩ := hto.ex
  simp only [] at hra1 hps1 hrs1 ⊢
  have hy := heap_alloc_new w1 (.cells #[.slice none 0 0, .int .i64 0, .int .i64 0, .int .i64 0, .bool false, .int .i64 0, .slice none 0 0, .bool false] 37)
  have kN : Kp Noone w1 (w1.alloc (.cells #[.slice none 0 0, .int .i64 0, .int .i64 0, .int .i64 0, .bool false, .int .i64 0, .slice none 0 0, .bool false] 37)) := (Kp.refl _ _).alloc _
  have hx2 := putL9_heap ao1 cap1 po1 pc1 M1 hy
  have k2 := kN.fin (putL9_kp (w1.alloc (.cells #[.slice none 0 0, .int .i64 0, .int .i64 0, .int .i64 0, .bool false, .int .i64 0, .slice none 0 0, .bool false] 37)) w1.heap.size ao1 cap1 po1 pc1 M1) (fun j e => Or.inr (by omega))
  have hr2 := k2.heap (k1.heap hr id) id
  have hra2 := hra1.keep k2
  have hps2 := hps1.keep k2
  have hrs2 := RSP.kp hrs1 k2 (fun j _ c => c)
  have HK2 := Lib.hid ((HKA.out.trans k1).trans k2)
  have hz1 := k1.size
  clear hto hra1 hps1 hrs1 k1 k2 kN y0 y1 y2 y3 y4 hx hr
  go_upto_region 2 with (refine wpList_store_rlog rfl (.tmp 9) (.tmp 19) rfl w1.heap.size ao1 cap1 po1 pc1 M1 (by rfl) (by rfl) hy ?_)
  clear hy
  generalize putL9 (w1.alloc (.cells #[.slice none 0 0, .int .i64 0, .int .i64 0, .int .i64 0, .bool false, .int .i64 0, .slice none 0 0, .bool false] 37)) w1.heap.size ao1 cap1 po1 pc1 M1 = w2 at *
  generalize w1.heap.size = g9 at *
  have hg9 := (Array.getElem?_eq_some_iff.1 hx2).1
  have hgr2 := (Array.getElem?_eq_some_iff.1 hr2).1
  have hcg : col g9 = 0 := cols_new HC.out.1 (by omega)
  have hcr : col gr = 0 := cols_new HC.out.1 (by omega)
  unfold rlC at hx2
  go_wp2_with fail
  refine (HOP.out w2 HK2.out).mono ?_
  clear HOP
  rintro e w3 hto
  obtain ⟨col', x, d3, hcase⟩ := hto.ex
  clear hto
  simp only [] at d3 hcase
  have n0 : ∀ j, col j = 0 → ¬ SL 0 4 (col j) := fun j c => by rw [c]; unfold SL S3; omega
  have hx3 := x.kp.heap hx2 (n0 _ hcg)
  have hr3 := x.kp.heap hr2 (n0 _ hcr)
  have hrs3 := (RSP.kp hrs2 x.kp (fun j c => n0 j c.1.2)).rsl
  have HRA3 := Lib.hid ((((hra2.mono (Q := fun j => ((P j ∧ col j = 0) ∧ j ≠ gr) ∧ j < w2.heap.size) (fun j hj c => ⟨c, hj⟩))).kp x.kp (fun j _ c => n0 j c.1.1.2)).mono (Q := fun j => (P j ∧ col' j = 0) ∧ j ≠ gr) (fun j _ c => ⟨⟨c.1.1.1, (x.old j c.2).trans c.1.1.2⟩, c.1.2⟩))
  have HPS3 := Lib.hid ((((hps2.mono (Q := fun j => ((P j ∧ col j = 0) ∧ j ≠ gr) ∧ j < w2.heap.size) (fun j hj c => ⟨c, hj⟩))).kp x.kp (fun j _ c => n0 j c.1.1.2)).mono (Q := fun j => (P j ∧ col' j = 0) ∧ j ≠ gr) (fun j _ c => ⟨⟨c.1.1.1, (x.old j c.2).trans c.1.1.2⟩, c.1.2⟩))
  have hcr3 : col' gr = 0 := (x.old gr hgr2).trans hcr
  have HX3 := Lib.hid ((Ext.quiet HC.out.1 HK2.out).trans x)
  have HD3 := Lib.hid d3
  have HRS3 := Lib.hid hrs3
  have hgrw : gx < gr := by omega
  obtain ⟨o3, o4, o5⟩ := HO.out
  have h9r : ¬ g9 = gr := by omega
  clear hra2 hps2 hrs2 hrs3 x d3 HRA HPA HP hx2 hr2 HK2 HKA hz1
  have hfin : Hid (∀ wz vl, wz.heap[gr]? = some (.cells (rlC ao1 cap1 po1 pc1 M1) 37 (0, 0)) → Kp (fun j => j = gr) w3 wz → ((vl = Value.pointer none ∧ lr = none) ∨ ∃ q l recs, vl = .pointer (some ⟨q, 0, none⟩) ∧ lr = some (l, recs) ∧ Lg 4 0 col' wz p q s1 l ∧ f = 0) → LOpTo P B col w p (M1, recs, f) (s1, lr, f) (.returned (.tuple #[vl, .agg (rlC ao1 cap1 po1 pc1 M1), .bool true])) wz) := Lib.hid (fun wz vl _ kz hl => by
    refine ⟨⟨col', ao1, cap1, po1, pc1, vl, rfl, ?_, HD3.out.free kz (fun j c => by subst c; exact hcr3), (HRA3.out.kp kz (fun j _ c e => c.2 e)).mono (fun j _ c => c.1), (HPS3.out.kp kz (fun j _ c e => c.2 e)).mono (fun j _ c => c.1), hl⟩⟩
    exact HX3.out.flip kz (fun j c => by subst c; have := HC.out.2; omega))
  have k0 : Kp Noone w3 w3.drew := (Kp.refl _ _).drew
  obtain ⟨⟨y0, y1, y2, y3⟩, ⟨y4, y5, y6, y7⟩, -⟩ := cells_8 (k0.heap hx3 id)
  obtain ⟨⟨u0, u1, u2, u3⟩, ⟨u4, u5, u6, u7⟩, uf⟩ := cells_8 (k0.heap hr3 id)
  have uf0 := uf 0; have uf1 := uf 1; have uf2 := uf 2; have uf3 := uf 3; have uf4 := uf 4; have uf5 := uf 5; have uf6 := uf 6; have uf7 := uf 7
  have kY : ∀ w', Kp (fun j => j = gr) w3 w' → (Kp (fun j => j = gr) w3 w' ∧ (w'.cell? ⟨g9, 0, none⟩ = some (.slice ao1 M1.d.L.length cap1) ∧ w'.cell? ⟨g9, 1, none⟩ = some (.int .i64 M1.d.room) ∧ w'.cell? ⟨g9, 2, none⟩ = some (.int .i64 M1.d.steps) ∧ w'.cell? ⟨g9, 3, none⟩ = some (.int .i64 M1.d.fuse)) ∧ (w'.cell? ⟨g9, 4, none⟩ = some (.bool M1.d.down) ∧ w'.cell? ⟨g9, 5, none⟩ = some (.int .i64 (M1.lim : Int)) ∧ w'.cell? ⟨g9, 6, none⟩ = some (.slice po1 M1.ps.length pc1) ∧ w'.cell? ⟨g9, 7, none⟩ = some (.bool M1.shut))) := fun w' k => ⟨k, (cells_8 (k.heap hx3 h9r)).1, (cells_8 (k.heap hx3 h9r)).2.1⟩
  have HKY := Lib.hid kY
  clear kY
  rcases hcase with ⟨c1, rfl⟩ | ⟨l, recs2, q, ro, rc, rh, c1, c2, rfl, hq, hlg, hown, hrat⟩
  case' inl =>
    have hf := o4 c1
    have hr0 := o5 hf
    have n1 : ((f : Int) == 0) = false := by simpa using hf
    have hSm := Lib.hid (fun (W : World) (k : Kp Noone w3 W) => walSame_any none 0 0 so1 recs.length sc1 recs W (by rw [hr0]; exact ⟨_, _, [], Own.nil (fun _ => True) _ _ _ _, RecsAt.nil (fun _ => True) _⟩) (HRS3.out.keep k) (by rw [hr0]; rfl) rfl (Nat.zero_le _))
    have HF0 : Hid (∀ wz, wz.heap[gr]? = some (.cells (rlC ao1 cap1 po1 pc1 M1) 37 (0, 0)) → Kp (fun j => j = gr) w3 wz → LOpTo P B col w p (M1, recs, f) (s1, lr, f) (.returned (.tuple #[.pointer none, .agg (rlC ao1 cap1 po1 pc1 M1), .bool true])) wz) := Lib.hid (fun wz hz kz => hfin.out wz _ hz kz (Or.inl ⟨rfl, c1⟩))
    clear hf hr0 c1 o3 o4 o5
  case' inr =>
    obtain ⟨rfl, -, -⟩ := o3 l recs2 c1
    have n1 : ((f : Int) == 0) = true := by subst c2; rfl
    have n2 : ((0 : Int) == (f : Int)) = true := by rw [c2]; rfl
    have hrs : RSl w3 ro rc recs := ⟨_, _, rh, hown, hrat⟩
    have hSm := Lib.hid (fun (W : World) (k : Kp Noone w3 W) => walSame_any ro recs.length rc so1 recs.length sc1 recs W (hrs.keep k) (HRS3.out.keep k) rfl rfl HRL.out)
    have HF0 : Hid (∀ wz, wz.heap[gr]? = some (.cells (rlC ao1 cap1 po1 pc1 M1) 37 (0, 0)) → Kp (fun j => j = gr) w3 wz → LOpTo P B col w p (M1, recs, f) (s1, lr, f) (.returned (.tuple #[.pointer (some ⟨q, 0, none⟩), .agg (rlC ao1 cap1 po1 pc1 M1), .bool true])) wz) := Lib.hid (fun wz hz kz => hfin.out wz _ hz kz (Or.inr ⟨q, l, recs, rfl, c1, hlg.free kz (by omega) (fun j c => by subst c; exact hcr3), c2⟩))
    clear hrs hown hrat hlg c1 c2 o3 o4 o5 hq
  all_goals (
    go_upto_region 3 with fail
    clear y0 y1 y2 y3 y4 y5 y6 y7 u0 u1 u2 u3 u4 u5 u6 u7 uf uf0 uf1 uf2 uf3 uf4 uf5 uf6 uf7
    go_region_held3 (fun w' => Kp (fun j => j = gr) w3 w' ∧ (w'.cell? ⟨g9, 0, none⟩ = some (.slice ao1 M1.d.L.length cap1) ∧ w'.cell? ⟨g9, 1, none⟩ = some (.int .i64 M1.d.room) ∧ w'.cell? ⟨g9, 2, none⟩ = some (.int .i64 M1.d.steps) ∧ w'.cell? ⟨g9, 3, none⟩ = some (.int .i64 M1.d.fuse)) ∧ (w'.cell? ⟨g9, 4, none⟩ = some (.bool M1.d.down) ∧ w'.cell? ⟨g9, 5, none⟩ = some (.int .i64 (M1.lim : Int)) ∧ w'.cell? ⟨g9, 6, none⟩ = some (.slice po1 M1.ps.length pc1) ∧ w'.cell? ⟨g9, 7, none⟩ = some (.bool M1.shut)))
      (first | with_reducible exact HKY.out _ (Kp.none k0) | with_reducible exact HKY.out _ (set8_kp (S := fun j => j = gr) (Kp.none k0) (g := gr) rfl _ _ _ _ _ _ _ _))
      (first | (go_at_call 32; refine (hSm.out _ k0).mono ?_; rintro e w4 ⟨rfl, k4⟩; have k0 := k0.trans k4; have hr4 := k0.heap hr3 id; obtain ⟨⟨u0, u1, u2, u3⟩, ⟨u4, u5, u6, u7⟩, uf⟩ := cells_8 hr4; have uf0 := uf 0; have uf1 := uf 1; have uf2 := uf 2; have uf3 := uf 3; have uf4 := uf 4; have uf5 := uf 5; have uf6 := uf 6; have uf7 := uf 7))
    have hz := set8_heap hr4 (.slice ao1 M1.d.L.length cap1) (.int .i64 M1.d.room) (.int .i64 M1.d.steps) (.int .i64 M1.d.fuse) (.bool M1.d.down) (.int .i64 (M1.lim : Int)) (.slice po1 M1.ps.length pc1) (.bool M1.shut)
    have kz := set8_kp (Kp.none (S := fun j => j = gr) k0) (g := gr) rfl (.slice ao1 M1.d.L.length cap1) (.int .i64 M1.d.room) (.int .i64 M1.d.steps) (.int .i64 M1.d.fuse) (.bool M1.d.down) (.int .i64 (M1.lim : Int)) (.slice po1 M1.ps.length pc1) (.bool M1.shut)
    have HF := Lib.hid (HF0.out _ hz kz)
    clear hSm HF0 kz k0 u0 u1 u2 u3 u4 u5 u6 u7 uf uf0 uf1 uf2 uf3 uf4 uf5 uf6 uf7
    go_wp2_with fail
    refine bodyPost_ret (by rw [results_mid_rlog rfl _ _ gr _ rfl hz rfl]) rfl ?_
    exact HF.out)

end Go.Proofs.YtigdhdclfdojgaaGreat

