/-
  The texts AccPrep in one: what the claim reaches of them.
-/
import Derived.Test.YtgbgbokcohfnpaaGreatP25
/-
  THE WALK of Prepare.
-/
namespace Go.Proofs.YtgbgbokcohfnpaaGreat
open Go.RowKit

def zeroM : Array Value := #[.int .i64 0, .int .i64 0, .int .i64 0, .int .i64 0, .int .i64 0, .int .i64 0, .int .i64 0, .int .i64 0, .int .i64 0, .int .i64 0, .slice none 0 0, .slice none 0 0, .slice none 0 0, .int .i64 0, .int .i64 0, .int .i64 0, .int .i64 0, .int .i64 0, .int .i64 0, .int .i64 0, .int .i64 0, .int .i64 0, .int .i64 0, .int .i64 0, .slice none 0 0]
attribute [local go_sem ↓] stM_eq
set_option maxHeartbeats 2000000 in
set_option maxRecDepth 100000 in
theorem prep_a (B : Nat) (col : Nat → Nat) (w : World) (p ql q : Nat) (s : DS) (l : LogP) (a : AcS) (b : BalR) (fr9 : Int) (i : Nat) (h : AcL col w p ql q s l a) (hc : Cols B w col) (hB : B ≤ w.heap.size) (hli : LI i s l) (hi : i ≤ 80000) (ha : AOk a) (hlen : a.votes.length ≤ 1099511627776) :
    Calls Tryz.prog 11 #[.pointer (some ⟨q, 0, none⟩), .agg #[.int .i64 b.round, .int .i64 b.node], .int .i64 fr9] w fun e w' => MsgTo B col w p ql q (prepA s l a b fr9) (i + 2) e w' := by
  obtain ⟨R, hR⟩ : ∃ R, Hid (prepA s l a b fr9 = R) := ⟨_, Lib.hid rfl⟩
  rw [hR.out]
  have HA := Lib.hid h
  have HC := Lib.hid hc
  have HB := Lib.hid hB
  have HLI := Lib.hid hli
  have HI := Lib.hid hi
  have HOK := Lib.hid ha
  have HLEN := Lib.hid hlen
  clear h hc hB hli hi ha hlen
  obtain ⟨r, nd⟩ := b
  simp only []
  obtain ⟨hbb, hbm, kA, hsz⟩ := two_new w (.cells #[.int .i64 r, .int .i64 nd] 24) (.cells zeroM 46)
  unfold zeroM at hbb hbm kA hsz
  go_enter Tryz.func11, Tryz.ntmps11
  go_upto_region 1 with fail
  generalize (w.alloc (.cells #[.int .i64 r, .int .i64 nd] 24)).alloc (.cells #[.int .i64 0, .int .i64 0, .int .i64 0, .int .i64 0, .int .i64 0, .int .i64 0, .int .i64 0, .int .i64 0, .int .i64 0, .int .i64 0, .slice none 0 0, .slice none 0 0, .slice none 0 0, .int .i64 0, .int .i64 0, .int .i64 0, .int .i64 0, .int .i64 0, .int .i64 0, .int .i64 0, .int .i64 0, .int .i64 0, .int .i64 0, .int .i64 0, .slice none 0 0] 46) = wA at *
  generalize hgb : w.heap.size = gb at *
  generalize hgm : gb + 1 = gm at *
  have HBM : Hid (wA.heap[gm]? = some (.cells zeroM 46 (0, 0))) := Lib.hid hbm
  have HBB := Lib.hid hbb
  have HKA := Lib.hid kA
  have HG := Lib.hid (And.intro hgb (And.intro hgm hsz))
  have HQB : Hid (q < gb) := Lib.hid (by
    obtain ⟨mb, M, h9⟩ := HA.out.ac
    have := (Array.getElem?_eq_some_iff.1 h9.box).1
    omega)
  have HFIN : Hid (∀ W o, Kp (fun j => j = gm) wA W → W.heap[gm]? = some (.cells (msgCs o.m none 0 loc9) 46 (0, 0)) → o.s = s → o.l = l → o.a = a → o.m.val = val0 → o.m.votes = [] → MsgTo B col w p ql q o (i + 2) (.returned (.tuple #[.agg (msgCs o.m none 0 loc9), .int .i64 (o.e : Int)])) W) := Lib.hid (fun W o kk _ e1 e2 e3 e4 e5 => by
    have kw := HKA.out.fin kk (fun j d => Or.inr (by have := HG.out; omega))
    refine ⟨⟨col, none, 0, loc9, rfl, Ext.quiet HC.out kw, by rw [e1, e2, e3]; exact HA.out.keep kw, MsgAt.none _ _ _ e4 e5⟩, by rw [e1, e2]; exact HLI.out.mono (by omega)⟩)
  have HZ : Hid (∀ W (e : Nat), Kp Noone wA W → R = ⟨s, l, a, msg0, e⟩ → MsgTo B col w p ql q R (i + 2) (.returned (.tuple #[.agg zeroM, .int .i64 (e : Int)])) (putM W gm zeroM)) := Lib.hid (fun W e kk hr => by
    have := HFIN.out (putM W gm zeroM) R ((kk.none (S := fun j => j = gm)).trans (putM_kp _)) (by rw [hr]; exact putM_heap (kk.heap HBM.out id) rfl) (by rw [hr]) (by rw [hr]) (by rw [hr]) (by rw [hr]; rfl) (by rw [hr]; rfl)
    rw [hr] at this ⊢
    exact this)
  have HGM : Hid (∀ W, Kp Noone wA W → W.heap[gm]? = some (.cells zeroM 46 (0, 0)) ∧ (putM W gm zeroM).heap[gm]? = some (.cells zeroM 46 (0, 0))) := Lib.hid (fun W kk => ⟨kk.heap HBM.out id, putM_heap (kk.heap HBM.out id) rfl⟩)
  clear hbm kA hgb hgm hsz hbb
  by_cases hbad : fr9 < 1 ∨ 1099511627776 < fr9
  · have HR1 : Hid (R = ⟨s, l, a, msg0, 1⟩) := Lib.hid (by rw [← hR.out]; unfold prepA; rw [if_pos hbad])
    by_cases h1 : fr9 < 1
    · clear hbad
      go_wp2_with (refine wpList_store_msg rfl (.tmp 6) (.tmp 23) rfl gm zeroM rfl rfl (msgCs_one msg0 none 0 loc9) rfl HBM.out rfl ?_)
      refine bodyPost_ret (v := .tuple #[.agg zeroM, .int .i64 1]) (by rw [results_msg_tmp rfl _ _ gm _ rfl (HGM.out _ (Kp.refl _ _)).2 rfl]; rfl) rfl ?_
      exact HZ.out _ 1 (Kp.refl _ _) HR1.out
    · have h2 : 1099511627776 < fr9 := by omega
      clear hbad
      go_wp2_with (refine wpList_store_msg rfl (.tmp 6) (.tmp 23) rfl gm zeroM rfl rfl (msgCs_one msg0 none 0 loc9) rfl HBM.out rfl ?_)
      refine bodyPost_ret (v := .tuple #[.agg zeroM, .int .i64 1]) (by rw [results_msg_tmp rfl _ _ gm _ rfl (HGM.out _ (Kp.refl _ _)).2 rfl]; rfl) rfl ?_
      exact HZ.out _ 1 (Kp.refl _ _) HR1.out
  have h1 : ¬ fr9 < 1 := fun c => hbad (Or.inl c)
  have h2 : ¬ 1099511627776 < fr9 := fun c => hbad (Or.inr c)
  have HR1 : Hid ((if validB ⟨r, nd⟩ = false then ⟨s, l, a, msg0, 27⟩ else if belowB ⟨r, nd⟩ a.prom = true then ⟨s, l, a, nackM a, 60⟩ else if belowB a.prom ⟨r, nd⟩ = true then prepW a ⟨r, nd⟩ fr9 (writeF [recL ⟨1, a.epoch, 0, ⟨r, nd⟩, val0⟩] true 0 s l) else ⟨s, l, a, promM a ⟨r, nd⟩ fr9, 0⟩) = R) := Lib.hid (by rw [← hR.out]; unfold prepA; rw [if_neg hbad])
  clear hbad hR
  obtain ⟨b0, b1⟩ := cells_2v HBB.out
  have hva := valid_any r nd wA
  have HF12 := Lib.hid (And.intro h1 h2)
  cases hvb : validB ⟨r, nd⟩ with
  | false =>
    have HR2 : Hid (R = ⟨s, l, a, msg0, 27⟩) := Lib.hid (by rw [← HR1.out, if_pos hvb])
    rw [hvb] at hva
    clear hvb
    go_wp2_with fail
    refine hva.mono ?_
    clear hva
    rintro e w1 ⟨rfl, k1⟩
    have HK1 := Lib.hid k1
    clear k1
    go_wp2_with (refine wpList_store_msg rfl (.tmp 6) (.tmp 28) rfl gm zeroM rfl rfl (msgCs_one msg0 none 0 loc9) rfl (HGM.out _ HK1.out).1 rfl ?_)
    refine bodyPost_ret (v := .tuple #[.agg zeroM, .int .i64 27]) (by rw [results_msg_tmp rfl _ _ gm _ rfl (HGM.out _ HK1.out).2 rfl]; rfl) rfl ?_
    exact HZ.out _ 27 HK1.out HR2.out
  | true =>
    have HVB := Lib.hid hvb
    rw [hvb] at hva
    clear hvb
    go_wp2_with fail
    refine hva.mono ?_
    clear hva
    rintro e w1 ⟨rfl, k1⟩
    have HK1 := Lib.hid k1
    have HS : Hid (∀ W, Kp Noone w1 W → (W.cell? ⟨gb, 0, none⟩ = some (.int .i64 r) ∧ W.cell? ⟨gb, 1, none⟩ = some (.int .i64 nd) ∧ W.cell? ⟨q, 0, none⟩ = some (.int .i64 a.epoch)) ∧ W.cell? ⟨q, 2, none⟩ = some (.int .i64 a.prom.round) ∧ W.cell? ⟨q, 3, none⟩ = some (.int .i64 a.prom.node)) := Lib.hid (fun W kk => by
      obtain ⟨b0, b1⟩ := cells_2v ((HK1.out.trans kk).heap HBB.out id)
      obtain ⟨mb, x0, x1, x2, x3, x4, x5⟩ := (HA.out.keep (HKA.out.trans (HK1.out.trans kk))).logc
      exact ⟨⟨b0, b1, x0⟩, x2, x3⟩)
    have HCM := Lib.hid (fun W => compare_any ⟨r, nd⟩ a.prom W)
    obtain ⟨c, hcc⟩ : ∃ c, Hid (cmpB ⟨r, nd⟩ a.prom = c) := ⟨_, Lib.hid rfl⟩
    have hcm : ∀ W, Calls Tryz.prog 41 #[.agg #[.int .i64 r, .int .i64 nd], .agg #[.int .i64 a.prom.round, .int .i64 a.prom.node]] W fun e w' => e = .returned (.int .i64 c) ∧ Kp Noone W w' := fun W => by
      have := HCM.out W
      rwa [hcc.out] at this
    clear k1 b0 b1
    go_upto_region 5 with fail
    obtain ⟨⟨x0, x1, x2⟩, x3, x4⟩ := HS.out _ (Kp.refl _ _).drew
    have kd : Kp Noone w1 w1.drew := (Kp.refl _ _).drew
    go_region_held3 (fun W => (W.cell? ⟨gb, 0, none⟩ = some (.int .i64 r) ∧ W.cell? ⟨gb, 1, none⟩ = some (.int .i64 nd) ∧ W.cell? ⟨q, 0, none⟩ = some (.int .i64 a.epoch)) ∧ W.cell? ⟨q, 2, none⟩ = some (.int .i64 a.prom.round) ∧ W.cell? ⟨q, 3, none⟩ = some (.int .i64 a.prom.node))
      (first | with_reducible exact HS.out _ kd | with_reducible exact HS.out _ kk)
      (first | (go_at_call 41; refine (hcm _).mono ?_; rintro e w2 ⟨rfl, k1⟩; have kk := kd.trans k1; clear k1))
    have HK2 := Lib.hid (HK1.out.trans kk)
    have HS2 : Hid (∀ W, Kp Noone w2 W → (W.cell? ⟨gb, 0, none⟩ = some (.int .i64 r) ∧ W.cell? ⟨gb, 1, none⟩ = some (.int .i64 nd) ∧ W.cell? ⟨q, 0, none⟩ = some (.int .i64 a.epoch)) ∧ W.cell? ⟨q, 2, none⟩ = some (.int .i64 a.prom.round) ∧ W.cell? ⟨q, 3, none⟩ = some (.int .i64 a.prom.node)) := Lib.hid (fun W k2 => HS.out _ (kk.trans k2))
    clear x0 x1 x2 x3 x4 kd kk hcm HS HCM
    by_cases hlt : c < 0
    · have HR2 : Hid (R = ⟨s, l, a, nackM a, 60⟩) := Lib.hid (by
        rw [← HR1.out, if_neg (by rw [HVB.out]; decide), if_pos ((cmpB_neg _ _).1 (by rw [hcc.out]; exact hlt))])
      go_upto_region 7 with fail
      obtain ⟨⟨x0, x1, x2⟩, x3, x4⟩ := HS2.out _ (Kp.refl _ _).drew
      have kd : Kp Noone w2 w2.drew := (Kp.refl _ _).drew
      have hst : (stM (.pointer (some ⟨gm, 0, none⟩)) (.agg #[.int .i64 3, .int .i64 0, .int .i64 0, .int .i64 a.epoch, .int .i64 a.prom.round, .int .i64 a.prom.node, .int .i64 0, .int .i64 0, .int .i64 0, .int .i64 0, .slice none 0 0, .slice none 0 0, .slice none 0 0, .int .i64 0, .int .i64 0, .int .i64 0, .int .i64 0, .int .i64 0, .int .i64 0, .int .i64 0, .int .i64 0, .int .i64 0, .int .i64 0, .int .i64 0, .slice none 0 0])).run Tryz.prog w2.drew = .ok () (putM w2.drew gm #[.int .i64 3, .int .i64 0, .int .i64 0, .int .i64 a.epoch, .int .i64 a.prom.round, .int .i64 a.prom.node, .int .i64 0, .int .i64 0, .int .i64 0, .int .i64 0, .slice none 0 0, .slice none 0 0, .slice none 0 0, .int .i64 0, .int .i64 0, .int .i64 0, .int .i64 0, .int .i64 0, .int .i64 0, .int .i64 0, .int .i64 0, .int .i64 0, .int .i64 0, .int .i64 0, .slice none 0 0]) := run_store_msg gm #[.int .i64 3, .int .i64 0, .int .i64 0, .int .i64 a.epoch, .int .i64 a.prom.round, .int .i64 a.prom.node, .int .i64 0, .int .i64 0, .int .i64 0, .int .i64 0, .slice none 0 0, .slice none 0 0, .slice none 0 0, .int .i64 0, .int .i64 0, .int .i64 0, .int .i64 0, .int .i64 0, .int .i64 0, .int .i64 0, .int .i64 0, .int .i64 0, .int .i64 0, .int .i64 0, .slice none 0 0] (msgCs_one (nackM a) none 0 loc9) rfl (HGM.out _ (HK2.out.trans kd)).1 rfl
      have hS3 : (fun W : World => (W.cell? ⟨gb, 0, none⟩ = some (.int .i64 r) ∧ W.cell? ⟨gb, 1, none⟩ = some (.int .i64 nd) ∧ W.cell? ⟨q, 0, none⟩ = some (.int .i64 a.epoch)) ∧ W.cell? ⟨q, 2, none⟩ = some (.int .i64 a.prom.round) ∧ W.cell? ⟨q, 3, none⟩ = some (.int .i64 a.prom.node)) (putM w2.drew gm #[.int .i64 3, .int .i64 0, .int .i64 0, .int .i64 a.epoch, .int .i64 a.prom.round, .int .i64 a.prom.node, .int .i64 0, .int .i64 0, .int .i64 0, .int .i64 0, .slice none 0 0, .slice none 0 0, .slice none 0 0, .int .i64 0, .int .i64 0, .int .i64 0, .int .i64 0, .int .i64 0, .int .i64 0, .int .i64 0, .int .i64 0, .int .i64 0, .int .i64 0, .int .i64 0, .slice none 0 0]) := by
        have kp := putM_kp (w := w2.drew) (g := gm) #[.int .i64 3, .int .i64 0, .int .i64 0, .int .i64 a.epoch, .int .i64 a.prom.round, .int .i64 a.prom.node, .int .i64 0, .int .i64 0, .int .i64 0, .int .i64 0, .slice none 0 0, .slice none 0 0, .slice none 0 0, .int .i64 0, .int .i64 0, .int .i64 0, .int .i64 0, .int .i64 0, .int .i64 0, .int .i64 0, .int .i64 0, .int .i64 0, .int .i64 0, .int .i64 0, .slice none 0 0]
        have hg := HG.out
        have hq := HQB.out
        exact ⟨⟨kp.cell x0 (by show ¬ gb = gm; omega), kp.cell x1 (by show ¬ gb = gm; omega), kp.cell x2 (by show ¬ q = gm; omega)⟩, kp.cell x3 (by show ¬ q = gm; omega), kp.cell x4 (by show ¬ q = gm; omega)⟩
      go_region_held3 (fun W => (W.cell? ⟨gb, 0, none⟩ = some (.int .i64 r) ∧ W.cell? ⟨gb, 1, none⟩ = some (.int .i64 nd) ∧ W.cell? ⟨q, 0, none⟩ = some (.int .i64 a.epoch)) ∧ W.cell? ⟨q, 2, none⟩ = some (.int .i64 a.prom.round) ∧ W.cell? ⟨q, 3, none⟩ = some (.int .i64 a.prom.node))
        (first | with_reducible exact HS2.out _ kd | with_reducible exact hS3)
        (fail)
      clear hst hS3 x0 x1 x2 x3 x4
      have HK3 := Lib.hid (HK2.out.trans kd)
      have HF3 := Lib.hid (HFIN.out (putM w2.drew gm #[.int .i64 3, .int .i64 0, .int .i64 0, .int .i64 a.epoch, .int .i64 a.prom.round, .int .i64 a.prom.node, .int .i64 0, .int .i64 0, .int .i64 0, .int .i64 0, .slice none 0 0, .slice none 0 0, .slice none 0 0, .int .i64 0, .int .i64 0, .int .i64 0, .int .i64 0, .int .i64 0, .int .i64 0, .int .i64 0, .int .i64 0, .int .i64 0, .int .i64 0, .int .i64 0, .slice none 0 0]) ⟨s, l, a, nackM a, 60⟩ ((HK3.out.none (S := fun j => j = gm)).trans (putM_kp _)) (putM_heap (HGM.out _ HK3.out).1 rfl) rfl rfl rfl rfl rfl)
      have HG3 := Lib.hid (putM_heap (cs := #[.int .i64 3, .int .i64 0, .int .i64 0, .int .i64 a.epoch, .int .i64 a.prom.round, .int .i64 a.prom.node, .int .i64 0, .int .i64 0, .int .i64 0, .int .i64 0, .slice none 0 0, .slice none 0 0, .slice none 0 0, .int .i64 0, .int .i64 0, .int .i64 0, .int .i64 0, .int .i64 0, .int .i64 0, .int .i64 0, .int .i64 0, .int .i64 0, .int .i64 0, .int .i64 0, .slice none 0 0]) (HGM.out _ HK3.out).1 rfl)
      go_wp2_with fail
      refine bodyPost_ret (v := .tuple #[.agg #[.int .i64 3, .int .i64 0, .int .i64 0, .int .i64 a.epoch, .int .i64 a.prom.round, .int .i64 a.prom.node, .int .i64 0, .int .i64 0, .int .i64 0, .int .i64 0, .slice none 0 0, .slice none 0 0, .slice none 0 0, .int .i64 0, .int .i64 0, .int .i64 0, .int .i64 0, .int .i64 0, .int .i64 0, .int .i64 0, .int .i64 0, .int .i64 0, .int .i64 0, .int .i64 0, .slice none 0 0], .int .i64 60]) (by rw [results_msg_tmp rfl _ _ gm _ rfl HG3.out rfl]; rfl) rfl ?_
      rw [HR2.out]
      exact HF3.out
    · have HR2 : Hid ((if belowB a.prom ⟨r, nd⟩ = true then prepW a ⟨r, nd⟩ fr9 (writeF [recL ⟨1, a.epoch, 0, ⟨r, nd⟩, val0⟩] true 0 s l) else ⟨s, l, a, promM a ⟨r, nd⟩ fr9, 0⟩) = R) := Lib.hid (by
        have h := HR1.out
        rw [if_neg (by rw [HVB.out]; decide), if_neg (fun cc => hlt (by rw [← hcc.out]; exact (cmpB_neg _ _).2 cc))] at h
        exact h)
      have HKW2 : Hid (Kp Noone w w2) := Lib.hid (HKA.out.trans HK2.out)
      by_cases hgt : 0 < c
      case' neg =>
        obtain ⟨wt, hwt⟩ : ∃ x, x = w2 := ⟨_, rfl⟩
        obtain ⟨col2, hcol2⟩ : ∃ x, x = col := ⟨_, rfl⟩
        obtain ⟨s2, hs2⟩ : ∃ x, x = s := ⟨_, rfl⟩
        obtain ⟨l2, hl2⟩ : ∃ x, x = l := ⟨_, rfl⟩
        obtain ⟨a2, ha2⟩ : ∃ x, x = a := ⟨_, rfl⟩
        have HE : Hid (Ext B SX col w col2 wt) := Lib.hid (by rw [hwt, hcol2]; exact Ext.quiet HC.out HKW2.out)
        have HAT : Hid (AcL col2 wt p ql q s2 l2 a2) := Lib.hid (by rw [hwt, hcol2, hs2, hl2, ha2]; exact HA.out.keep HKW2.out)
        have HLT : Hid (LI (i + 2) s2 l2) := Lib.hid (by rw [hs2, hl2]; exact HLI.out.mono (by omega))
        have HRT : Hid (R = ⟨s2, l2, a2, promM a2 ⟨r, nd⟩ fr9, 0⟩) := Lib.hid (by
          rw [← HR2.out, if_neg (fun cc => hgt (by rw [← hcc.out]; exact (cmpB_pos _ _).2 cc)), hs2, hl2, ha2])
        have HUP : Hid (a2.votes = a.votes ∧ a2.epoch = a.epoch ∧ a2.floor = a.floor) := Lib.hid (by rw [ha2]; exact ⟨rfl, rfl, rfl⟩)
        have HBT : Hid (wt.heap[gb]? = some (.cells #[.int .i64 r, .int .i64 nd] 24 (0, 0))) := Lib.hid (by rw [hwt]; exact HK2.out.heap HBB.out id)
        have HGT : Hid (wt.heap[gm]? = some (.cells zeroM 46 (0, 0))) := Lib.hid (by rw [hwt]; exact HK2.out.heap HBM.out id)
        have HCT : Hid (col2 gm = 0) := Lib.hid (by rw [hcol2]; exact cols_new HC.out (by have := HG.out; omega))
        subst hwt
        clear hcol2 hs2 hl2 ha2 HS2
      case' pos =>
        go_upto_region 9 with fail
        have kd : Kp Noone w2 w2.drew := (Kp.refl _ _).drew
        have kB : Kp Noone w2 (w2.alloc (.cells #[.int .i64 1, .int .i64 a.epoch, .int .i64 0, .int .i64 r, .int .i64 nd, .int .i64 0, .slice none 0 0, .slice none 0 0] 112)).drew := ((Kp.refl _ _).alloc _).drew
        have hQC : col q = 8 := by obtain ⟨mb, M, h⟩ := HA.out.ac; exact h.qc
        have hG0 : col gb = 0 ∧ col gm = 0 := ⟨cols_new HC.out (by have := HG.out; omega), cols_new HC.out (by have := HG.out; omega)⟩
        have HSY : Hid (∀ W, Kp (fun j => SL 0 5 (col j)) w2 W → (W.cell? ⟨gb, 0, none⟩ = some (.int .i64 r) ∧ W.cell? ⟨gb, 1, none⟩ = some (.int .i64 nd) ∧ W.cell? ⟨q, 0, none⟩ = some (.int .i64 a.epoch)) ∧ W.cell? ⟨q, 2, none⟩ = some (.int .i64 a.prom.round) ∧ W.cell? ⟨q, 3, none⟩ = some (.int .i64 a.prom.node)) := Lib.hid (fun W kk => by
          obtain ⟨mb, M, h⟩ := (HA.out.keep HKW2.out).ac
          have hb := kk.heap h.box (by rw [hQC]; exact sl_ac 8 (Or.inl rfl))
          unfold acCs at hb
          have c6 := cells_6v hb
          have c2 := cells_2v (kk.heap (HK2.out.heap HBB.out id) (by rw [hG0.1]; exact sl_zero))
          exact ⟨⟨c2.1, c2.2, c6.c0⟩, c6.c2, c6.c3⟩)
        have hok : RecOk ⟨1, a.epoch, 0, ⟨r, nd⟩, val0⟩ := by
          have hk := HOK.out
          have hv := HVB.out
          unfold validB at hv
          have hv := of_decide_eq_true hv
          simp only [] at hv
          exact ⟨show (0 : Int) ≤ 1 ∧ (1 : Int) ≤ 3 by decide, hk.ep, show (0 : Int) ≤ 0 ∧ (0 : Int) ≤ 1099511627776 by decide, (by show 0 ≤ r ∧ r ≤ 1099511627776; omega), (by show 0 ≤ nd ∧ nd ≤ 9; omega), show valF val0 = 0 by decide⟩
        have hrc := (recs_one (B := B) (HC.out.keep HKW2.out.size) ⟨1, a.epoch, 0, ⟨r, nd⟩, val0⟩ loc9 112 (ValC.zero (fun j => col j = 0) w2)).kp (S := Noone) (Kp.refl _ _).drew (fun _ _ d => d)
        have hw := write_a B col (w2.alloc (.cells #[.int .i64 1, .int .i64 a.epoch, .int .i64 0, .int .i64 r, .int .i64 nd, .int .i64 0, .slice none 0 0, .slice none 0 0] 112)).drew p ql q s l a (some ⟨w2.heap.size, 0, none⟩) 1 [(⟨1, a.epoch, 0, ⟨r, nd⟩, val0⟩, loc9)] i (HA.out.keep (HKW2.out.trans kB)) (HC.out.keep (HKW2.out.trans kB).size) (by have := (HKW2.out.trans kB).size; have := HB.out; have := HG.out; omega) hrc (fun x hx => by rw [List.mem_singleton] at hx; subst hx; exact hok) (by simp) HLI.out (by have := HI.out; omega)
        simp only [List.map_cons, List.map_nil] at hw
        have HPW : Hid (prepW a ⟨r, nd⟩ fr9 (writeF [recL ⟨1, a.epoch, 0, ⟨r, nd⟩, val0⟩] true 0 s l) = R) := Lib.hid (by
          rw [← HR2.out, if_pos ((cmpB_pos _ _).1 (by rw [hcc.out]; exact hgt))])
        generalize writeF [recL ⟨1, a.epoch, 0, ⟨r, nd⟩, val0⟩] true 0 s l = WR at *
        obtain ⟨s2, l2, n2, er⟩ := WR
        have HKB := Lib.hid kB
        have HQC := Lib.hid hQC
        have HG0 := Lib.hid hG0
        obtain ⟨⟨x0, x1, x2⟩, x3, x4⟩ := HSY.out _ kd.none
        clear hok hrc hQC hG0 HR2
        go_region_held3 (fun W => (W.cell? ⟨gb, 0, none⟩ = some (.int .i64 r) ∧ W.cell? ⟨gb, 1, none⟩ = some (.int .i64 nd) ∧ W.cell? ⟨q, 0, none⟩ = some (.int .i64 a.epoch)) ∧ W.cell? ⟨q, 2, none⟩ = some (.int .i64 a.prom.round) ∧ W.cell? ⟨q, 3, none⟩ = some (.int .i64 a.prom.node))
          (first | with_reducible exact HSY.out _ kd.none | with_reducible exact HSY.out _ kB.none | with_reducible exact HSY.out _ kz)
          (first
            | (go_at_call 42; refine hw.mono ?_; rintro e w3 ⟨⟨col1, rfl, e1, hA3⟩, hl3⟩; have kz := (kB.none (S := fun j => SL 0 5 (col j))).trans e1.kp))
        have HE3 := Lib.hid ((Ext.quiet (S := SX) HC.out (HKW2.out.trans HKB.out)).trans (e1.mono sl_sx))
        have HA3 := Lib.hid hA3
        have HL3 := Lib.hid hl3
        have HB3 := Lib.hid (kz.heap (HK2.out.heap HBB.out id) (by rw [HG0.out.1]; exact sl_zero))
        have HM3 := Lib.hid (kz.heap (HK2.out.heap HBM.out id) (by rw [HG0.out.2]; exact sl_zero))
        have HCG : Hid (col1 gm = 0) := Lib.hid (by rw [e1.old gm (by have := HG.out; have := HK2.out.size; have := HKB.out.size; omega)]; exact HG0.out.2)
        clear kd kB kz e1 hA3 hl3 x0 x1 x2 x3 x4 hw HSY HS2
        by_cases her : er = 0
        case neg =>
          have hne : ((er : Int) != 0) = true := by simp only [bne_iff_ne, ne_eq]; omega
          have HRR : Hid (R = ⟨s2, l2, a, msg0, er⟩) := Lib.hid (by rw [← HPW.out]; unfold prepW; rw [if_pos her])
          have HG9 := Lib.hid (putM_heap (cs := zeroM) HM3.out rfl)
          clear her
          go_wp2_with (refine wpList_store_msg rfl (.tmp 6) (.tmp 66) rfl gm zeroM rfl rfl (msgCs_one msg0 none 0 loc9) rfl HM3.out rfl ?_)
          refine bodyPost_ret (v := .tuple #[.agg zeroM, .int .i64 (er : Int)]) (by rw [results_msg_tmp rfl _ _ gm _ rfl HG9.out rfl]; rfl) rfl ?_
          rw [HRR.out]
          obtain ⟨f1, f2⟩ := msg_put HE3.out HA3.out (putM_kp (w := w3) (g := gm) zeroM) HCG.out (by have := HG.out; omega)
          exact ⟨⟨col1, none, 0, loc9, rfl, f1, f2, MsgAt.none _ _ _ rfl rfl⟩, HL3.out.mono (by simp)⟩
        subst her
        obtain ⟨mb, y0, y1, y2, y3, y4, y5⟩ := HA3.out.logc
        obtain ⟨mb3, M3, h3⟩ := HA3.out.ac
        have hb3 := h3.box
        unfold acCs at hb3
        have xf := frz hb3
        have xf2 := xf 2
        have xf3 := xf 3
        obtain ⟨b0, b1⟩ := cells_2v HB3.out
        have HTS := Lib.hid (two_set2 (p := .int .i64 r) (q := .int .i64 nd) hb3)
        have HAP := Lib.hid h3
        clear h3 hb3 xf y0 y1 y4 y5
        go_upto_region 13 with fail
        generalize (w3.setCell ⟨q, 2, none⟩ (.int .i64 r)).setCell ⟨q, 3, none⟩ (.int .i64 nd) = wt at *
        obtain ⟨a2, ha2⟩ : ∃ x : AcS, x = { a with prom := ⟨r, nd⟩ } := ⟨_, rfl⟩
        obtain ⟨e9, h9⟩ := HAP.out.set (a' := a2) HE3.out.cols (by decide) HTS.out.2 (by rw [ha2]; exact HTS.out.1) (by rw [ha2])
        obtain ⟨col2, hcol2⟩ : ∃ x, x = col1 := ⟨_, rfl⟩
        have HE : Hid (Ext B SX col w col2 wt) := Lib.hid (by rw [hcol2]; exact HE3.out.trans (e9.mono sa_sx))
        have HAT : Hid (AcL col2 wt p ql q s2 l2 a2) := Lib.hid (by rw [hcol2]; exact HA3.out.ext_a HE3.out.cols e9 ⟨mb3, M3, h9⟩)
        have HLT : Hid (LI (i + 2) s2 l2) := Lib.hid (HL3.out.mono (by simp))
        have HRT : Hid (R = ⟨s2, l2, a2, promM a2 ⟨r, nd⟩ fr9, 0⟩) := Lib.hid (by
          rw [← HPW.out, ha2]
          unfold prepW
          rw [if_neg (by simp)])
        have HUP : Hid (a2.votes = a.votes ∧ a2.epoch = a.epoch ∧ a2.floor = a.floor) := Lib.hid (by rw [ha2]; exact ⟨rfl, rfl, rfl⟩)
        have hqg : q ≠ gb ∧ q ≠ gm := by have := HQB.out; have := HG.out; omega
        have HBT : Hid (wt.heap[gb]? = some (.cells #[.int .i64 r, .int .i64 nd] 24 (0, 0))) := Lib.hid (HTS.out.2.heap HB3.out (fun d => hqg.1 d.symm))
        have HGT : Hid (wt.heap[gm]? = some (.cells zeroM 46 (0, 0))) := Lib.hid (HTS.out.2.heap HM3.out (fun d => hqg.2 d.symm))
        have HCT : Hid (col2 gm = 0) := Lib.hid (by rw [hcol2]; exact HCG.out)
        clear ha2 e9 h9 hcol2 hqg y2 y3 xf2 xf3 b0 b1
      all_goals (
        have hok := HOK.out
        have hvo := votes_a 8 col2 wt q ql a2 fr9 HAT.out.ac (by rw [HUP.out.1]; exact hok.up) (fun v hv => hok.small (by rw [← HUP.out.1]; exact hv)) (by rw [HUP.out.1]; exact HLEN.out)
        clear hok
        go_wp2_with fail
        refine hvo.mono ?_
        clear hvo
        rintro e wv ⟨⟨vo, vc, M, D, rfl, hM, hown, hvals⟩, kv⟩
        obtain ⟨n, hn⟩ : ∃ n, (fromV a2.votes fr9).length = n := ⟨_, rfl⟩
        obtain ⟨k, hk⟩ : ∃ k, Hid (k = if n ≤ 64 then n else 64) := ⟨_, Lib.hid rfl⟩
        have hkn : k ≤ n := by rw [hk.out]; split <;> omega
        have hmn : min (n : Int) 64 = (k : Int) := by rw [hk.out]; split <;> omega
        have HN := Lib.hid hn
        have HM := Lib.hid hM
        have HO := Lib.hid hown
        have HV := Lib.hid hvals
        have HKV := Lib.hid kv
        rw [hn] at hown ⊢
        have hnc : n ≤ vc := hown.2.1
        have hnm : vc ≤ maxLen := hown.2.2.1
        have hkz : (0 : Int) ≤ (k : Int) := by omega
        have hkc : (k : Int) ≤ (vc : Int) := by omega
        clear hn hM hown hvals kv
        go_upto_region 15 with fail
        have kd : Kp Noone wv wv.drew := (Kp.refl _ _).drew
        have HS9 : Hid (∀ W, Kp (fun j => j = gm) wv W → (W.cell? ⟨gb, 0, none⟩ = some (.int .i64 r) ∧ W.cell? ⟨gb, 1, none⟩ = some (.int .i64 nd)) ∧ W.cell? ⟨q, 0, none⟩ = some (.int .i64 a2.epoch) ∧ W.cell? ⟨q, 1, none⟩ = some (.int .i64 a2.floor)) := Lib.hid (fun W kk => by
          have hqg : q ≠ gb ∧ q ≠ gm ∧ gb ≠ gm := by have := HQB.out; have := HG.out; omega
          obtain ⟨mb, M, h9⟩ := (HAT.out.keep HKV.out).ac
          have hb := kk.heap h9.box hqg.2.1
          unfold acCs at hb
          have c6 := cells_6v hb
          have c2 := cells_2v (kk.heap (HKV.out.heap HBT.out id) hqg.2.2)
          exact ⟨⟨c2.1, c2.2⟩, c6.c0, c6.c1⟩)
        have hst : (stM (.pointer (some ⟨gm, 0, none⟩)) (.agg #[.int .i64 2, .int .i64 0, .int .i64 0, .int .i64 a2.epoch, .int .i64 r, .int .i64 nd, .int .i64 fr9, .int .i64 a2.floor, .int .i64 0, .int .i64 0, .slice none 0 0, .slice none 0 0, .slice vo k vc, .int .i64 0, .int .i64 0, .int .i64 0, .int .i64 0, .int .i64 0, .int .i64 0, .int .i64 0, .int .i64 0, .int .i64 0, .int .i64 0, .int .i64 0, .slice none 0 0])).run Tryz.prog wv.drew = .ok () (putM wv.drew gm #[.int .i64 2, .int .i64 0, .int .i64 0, .int .i64 a2.epoch, .int .i64 r, .int .i64 nd, .int .i64 fr9, .int .i64 a2.floor, .int .i64 0, .int .i64 0, .slice none 0 0, .slice none 0 0, .slice vo k vc, .int .i64 0, .int .i64 0, .int .i64 0, .int .i64 0, .int .i64 0, .int .i64 0, .int .i64 0, .int .i64 0, .int .i64 0, .int .i64 0, .int .i64 0, .slice none 0 0]) := run_store_msg gm _ (msgCs_one ⟨2, a2.epoch, ⟨r, nd⟩, fr9, a2.floor, val0, List.replicate k ⟨0, bal0, val0⟩⟩ vo vc loc9 |> fun h => by unfold msgCs at h; rw [List.length_replicate] at h; exact h) rfl ((HKV.out.trans kd).heap HGT.out id) rfl
        have HKM : Hid (Kp (fun j => j = gm) wv (putM wv.drew gm #[.int .i64 2, .int .i64 0, .int .i64 0, .int .i64 a2.epoch, .int .i64 r, .int .i64 nd, .int .i64 fr9, .int .i64 a2.floor, .int .i64 0, .int .i64 0, .slice none 0 0, .slice none 0 0, .slice vo k vc, .int .i64 0, .int .i64 0, .int .i64 0, .int .i64 0, .int .i64 0, .int .i64 0, .int .i64 0, .int .i64 0, .int .i64 0, .int .i64 0, .int .i64 0, .slice none 0 0])) := Lib.hid ((kd.none (S := fun j => j = gm)).trans (putM_kp _))
        have HGZ : Hid ((putM wv.drew gm #[.int .i64 2, .int .i64 0, .int .i64 0, .int .i64 a2.epoch, .int .i64 r, .int .i64 nd, .int .i64 fr9, .int .i64 a2.floor, .int .i64 0, .int .i64 0, .slice none 0 0, .slice none 0 0, .slice vo k vc, .int .i64 0, .int .i64 0, .int .i64 0, .int .i64 0, .int .i64 0, .int .i64 0, .int .i64 0, .int .i64 0, .int .i64 0, .int .i64 0, .int .i64 0, .slice none 0 0]).heap[gm]? = some (.cells #[.int .i64 2, .int .i64 0, .int .i64 0, .int .i64 a2.epoch, .int .i64 r, .int .i64 nd, .int .i64 fr9, .int .i64 a2.floor, .int .i64 0, .int .i64 0, .slice none 0 0, .slice none 0 0, .slice vo k vc, .int .i64 0, .int .i64 0, .int .i64 0, .int .i64 0, .int .i64 0, .int .i64 0, .int .i64 0, .int .i64 0, .int .i64 0, .int .i64 0, .int .i64 0, .slice none 0 0] 46 (0, 0))) := Lib.hid (putM_heap ((HKV.out.trans kd).heap HGT.out id) rfl)
        obtain ⟨⟨x0, x1⟩, x2, x3⟩ := HS9.out _ (kd.none (S := fun j => j = gm))
        have hS1 := HS9.out _ (kd.none (S := fun j => j = gm))
        have hS2 := HS9.out _ HKM.out
        clear hnc hnm hkz hkc hkn hmn
        go_region_held3 (fun W => (W.cell? ⟨gb, 0, none⟩ = some (.int .i64 r) ∧ W.cell? ⟨gb, 1, none⟩ = some (.int .i64 nd)) ∧ W.cell? ⟨q, 0, none⟩ = some (.int .i64 a2.epoch) ∧ W.cell? ⟨q, 1, none⟩ = some (.int .i64 a2.floor))
          (first | with_reducible exact hS1 | with_reducible exact hS2)
          (fail)
        clear hst hS1 hS2 x0 x1 x2 x3 kd
        generalize putM wv.drew gm #[.int .i64 2, .int .i64 0, .int .i64 0, .int .i64 a2.epoch, .int .i64 r, .int .i64 nd, .int .i64 fr9, .int .i64 a2.floor, .int .i64 0, .int .i64 0, .slice none 0 0, .slice none 0 0, .slice vo k vc, .int .i64 0, .int .i64 0, .int .i64 0, .int .i64 0, .int .i64 0, .int .i64 0, .int .i64 0, .int .i64 0, .int .i64 0, .int .i64 0, .int .i64 0, .slice none 0 0] = wz at *
        have HF9 : Hid (MsgTo B col w p ql q R (i + 2) (.returned (.tuple #[.agg #[.int .i64 2, .int .i64 0, .int .i64 0, .int .i64 a2.epoch, .int .i64 r, .int .i64 nd, .int .i64 fr9, .int .i64 a2.floor, .int .i64 0, .int .i64 0, .slice none 0 0, .slice none 0 0, .slice vo k vc, .int .i64 0, .int .i64 0, .int .i64 0, .int .i64 0, .int .i64 0, .int .i64 0, .int .i64 0, .int .i64 0, .int .i64 0, .int .i64 0, .int .i64 0, .slice none 0 0], .int .i64 0])) wz) := Lib.hid (by
          have hkn : k ≤ n := by rw [hk.out]; split <;> omega
          have hlen : ((fromV a2.votes fr9).take 64).length = k := by
            rw [List.length_take, HN.out, hk.out]
            split <;> omega
          have htk : ((fromV a2.votes fr9).take 64) = (M.take k).map (·.1) := by
            have hl := HN.out
            rw [List.map_take, HM.out, hk.out]
            split
            · rw [List.take_of_length_le (by omega), List.take_of_length_le (by omega)]
            · rfl
          have hgl := (Array.getElem?_eq_some_iff.1 HGT.out).1
          have hws := HE.out.size
          have he1 := HE.out.trans (Ext.quiet HE.out.cols HKV.out)
          obtain ⟨f1, f2⟩ := msg_put he1 (HAT.out.keep HKV.out) HKM.out HCT.out (by have := HG.out; omega)
          rw [HRT.out]
          refine ⟨⟨col2, vo, vc, loc9, ?_, f1, f2, ⟨⟨M.take k, D, htk.symm, ?_, fun x hx => ?_⟩, ValOwn.zero _ _⟩⟩, HLT.out⟩
          · show _ = Ending.returned (.tuple #[.agg (msgCs (promM a2 ⟨r, nd⟩ fr9) vo vc loc9), .int .i64 0])
            unfold msgCs promM
            rw [hlen]
            rfl
          · show Own _ _ _ _ _ ((fromV a2.votes fr9).take 64).length _ _
            rw [hlen, ← votesV_take]
            have ho := HO.out
            rw [HN.out] at ho
            exact ((own_take ho k hkn).kp HKM.out (fun j d e => by have := d.1.none; omega)).mono (fun j hj d => ⟨⟨by have := d.1.none; omega, cols_new HE.out.cols d.1.none.1⟩, d.2⟩)
          · exact ((HV.out x (List.mem_of_mem_take hx)).kp HKM.out (fun j d e => by have := d.1.none; omega)).mono (fun j hj d => ⟨⟨by have := d.1.none; omega, cols_new HE.out.cols d.1.none.1⟩, d.2⟩))
        go_wp2_with fail
        refine bodyPost_ret (v := .tuple #[.agg #[.int .i64 2, .int .i64 0, .int .i64 0, .int .i64 a2.epoch, .int .i64 r, .int .i64 nd, .int .i64 fr9, .int .i64 a2.floor, .int .i64 0, .int .i64 0, .slice none 0 0, .slice none 0 0, .slice vo k vc, .int .i64 0, .int .i64 0, .int .i64 0, .int .i64 0, .int .i64 0, .int .i64 0, .int .i64 0, .int .i64 0, .int .i64 0, .int .i64 0, .int .i64 0, .slice none 0 0], .int .i64 0]) (by rw [results_msg_tmp rfl _ _ gm _ rfl HGZ.out rfl]; rfl) rfl ?_
        exact HF9.out)

end Go.Proofs.YtgbgbokcohfnpaaGreat
