/-
  The texts AccAcc in one: what the claim reaches of them.
-/
import Derived.Test.YtgbgbokcohfnpaaGreatP26
/-
  THE WALK of Accept.
-/
namespace Go.Proofs.YtgbgbokcohfnpaaGreat
open Go.RowKit

theorem valF_pos (v : ValR) : 0 ≤ valF v := by
  have hs : ∀ (ms : List Int) (last : Int), 0 ≤ setGo last ms := by
    intro ms
    induction ms with
    | nil => intro last; unfold setGo; omega
    | cons a r ih => intro last; unfold setGo; split <;> first | omega | exact ih _
  have hf : ∀ ms : List Int, 0 ≤ setF ms := by
    intro ms
    unfold setF
    split
    · omega
    · exact hs _ _
  have hc : ∀ c : CmdR, 0 ≤ cmdF c := by
    intro c
    unfold cmdF
    split
    · omega
    · split <;> omega
  have hcs : ∀ cs : List CmdR, 0 ≤ cmdsF cs := by
    intro cs
    induction cs with
    | nil => unfold cmdsF; omega
    | cons a r ih =>
      unfold cmdsF
      split
      · exact ih
      · exact hc a
  unfold valF
  split
  · split <;> omega
  · split
    · split
      · omega
      · exact hf _
    · split
      · split
        · omega
        · exact hcs _
      · omega
attribute [local go_sem ↓] stM_eq
set_option maxHeartbeats 2000000 in
set_option maxRecDepth 100000 in
theorem acc_a (B : Nat) (col : Nat → Nat) (w : World) (p ql q : Nat) (s : DS) (l : LogP) (a : AcS) (b : BalR) (sl9 : Int) (v : ValR) (m : VLoc) (i : Nat) (h : AcL col w p ql q s l a) (hc : Cols B w col) (hB : B ≤ w.heap.size) (hli : LI i s l) (hi : i ≤ 80000) (ha : AOk a) (hv : ValC (fun j => col j = 0) w v m) (hb1 : v.cmds.length ≤ 140737488351232) (hb2 : v.next.length ≤ 140737488351232) :
    Calls Tryz.prog 12 #[.pointer (some ⟨q, 0, none⟩), .agg #[.int .i64 b.round, .int .i64 b.node], .int .i64 sl9, valV v m] w fun e w' => MsgTo B col w p ql q (accA s l a b sl9 v) (i + 2) e w' := by
  obtain ⟨R, hR⟩ : ∃ R, Hid (accA s l a b sl9 v = R) := ⟨_, Lib.hid rfl⟩
  rw [hR.out]
  have HA := Lib.hid h
  have HC := Lib.hid hc
  have HB := Lib.hid hB
  have HLI := Lib.hid hli
  have HI := Lib.hid hi
  have HOK := Lib.hid ha
  have HV := Lib.hid hv
  have HLN := Lib.hid (And.intro hb1 hb2)
  clear h hc hB hli hi ha hv hb1 hb2
  obtain ⟨r, nd⟩ := b
  unfold valV
  simp only []
  obtain ⟨hbb, hbv, hbm, kA, hsz⟩ := three_new w (.cells #[.int .i64 r, .int .i64 nd] 24) (.cells #[.int .i64 v.kind, .slice m.co v.cmds.length m.cc, .slice m.no v.next.length m.nc] 34) (.cells zeroM 46)
  unfold zeroM at hbb hbm hbv kA hsz
  go_enter Tryz.func12, Tryz.ntmps12
  go_upto_region 1 with fail
  generalize ((w.alloc (.cells #[.int .i64 r, .int .i64 nd] 24)).alloc (.cells #[.int .i64 v.kind, .slice m.co v.cmds.length m.cc, .slice m.no v.next.length m.nc] 34)).alloc (.cells #[.int .i64 0, .int .i64 0, .int .i64 0, .int .i64 0, .int .i64 0, .int .i64 0, .int .i64 0, .int .i64 0, .int .i64 0, .int .i64 0, .slice none 0 0, .slice none 0 0, .slice none 0 0, .int .i64 0, .int .i64 0, .int .i64 0, .int .i64 0, .int .i64 0, .int .i64 0, .int .i64 0, .int .i64 0, .int .i64 0, .int .i64 0, .int .i64 0, .slice none 0 0] 46) = wA at *
  generalize hgb : w.heap.size = gb at *
  generalize hgv : gb + 1 = gv at *
  generalize hgm : gv + 1 = gm at *
  have HBM : Hid (wA.heap[gm]? = some (.cells zeroM 46 (0, 0))) := Lib.hid hbm
  have HBB := Lib.hid hbb
  have HBV := Lib.hid hbv
  have HKA := Lib.hid kA
  have HG := Lib.hid (And.intro hgb (And.intro hgv (And.intro hgm hsz)))
  have HQB : Hid (q < gb) := Lib.hid (by
    obtain ⟨mb, M, h9⟩ := HA.out.ac
    have := (Array.getElem?_eq_some_iff.1 h9.box).1
    omega)
  have HFIN : Hid (∀ W o, Kp (fun j => j = gm) wA W → W.heap[gm]? = some (.cells (msgCs o.m none 0 loc9) 46 (0, 0)) → o.s = s → o.l = l → o.a = a → o.m.val = val0 → o.m.votes = [] → MsgTo B col w p ql q o (i + 2) (.returned (.tuple #[.agg (msgCs o.m none 0 loc9), .int .i64 (o.e : Int)])) W) := Lib.hid (fun W o kk _ e1 e2 e3 e4 e5 => by
    have kw := HKA.out.fin kk (fun j d => Or.inr (by have := HG.out; omega))
    refine ⟨⟨col, none, 0, loc9, rfl, Ext.quiet HC.out kw, by rw [e1, e2, e3]; exact HA.out.keep kw, MsgAt.none _ _ _ e4 e5⟩, by rw [e1, e2]; exact HLI.out.mono (by omega)⟩)
  have HZ : Hid (∀ W (e : Nat), Kp Noone wA W → R = ⟨s, l, a, msg0, e⟩ → MsgTo B col w p ql q R (i + 2) (.returned (.tuple #[.agg zeroM, .int .i64 (e : Int)])) (putM W gm zeroM)) := Lib.hid (fun W e kk hr => by
    have := HFIN.out (putM W gm zeroM) R ((kk.none (S := fun j => j = gm)).trans (putM_kp _)) (by rw [hr]; exact putM_heap (kk.heap HBM.out id) rfl) (by rw [hr]) (by rw [hr]) (by rw [hr]) (by rw [hr]; rfl) (by rw [hr]; rfl)
    rw [hr] at this ⊢
    exact this)
  have HGM : Hid (∀ W, Kp Noone wA W → W.heap[gm]? = some (.cells zeroM 46 (0, 0)) ∧ (putM W gm zeroM).heap[gm]? = some (.cells zeroM 46 (0, 0))) := Lib.hid (fun W kk => ⟨kk.heap HBM.out id, putM_heap (kk.heap HBM.out id) rfl⟩)
  clear hbm kA hgb hgm hgv hsz hbb hbv
  have HR1 : Hid ((if validB ⟨r, nd⟩ = false then ⟨s, l, a, msg0, 27⟩ else if valF v ≠ 0 then ⟨s, l, a, msg0, (valF v).toNat⟩ else if belowB ⟨r, nd⟩ a.prom = true then ⟨s, l, a, nackM a, 60⟩ else if sl9 ≤ a.floor ∨ a.floor + 64 < sl9 ∨ 1099511627776 < sl9 then ⟨s, l, a, msg0, 61⟩ else accO s l a ⟨r, nd⟩ sl9 v (getV sl9 a.votes)) = R) := Lib.hid (by rw [← hR.out]; unfold accA; rfl)
  clear hR
  obtain ⟨b0, b1⟩ := cells_2v HBB.out
  have hva := valid_any r nd wA
  cases hvb : validB ⟨r, nd⟩ with
  | false =>
    have HR2 : Hid (R = ⟨s, l, a, msg0, 27⟩) := Lib.hid (by rw [← HR1.out, if_pos hvb])
    rw [hvb] at hva
    clear hvb
    go_wp2_with fail
    refine hva.mono ?_
    clear hva
    rintro e w1 ⟨rfl, k1⟩
    have HK1 := Lib.hid k1
    clear k1
    go_wp2_with (refine wpList_store_msg rfl (.tmp 8) (.tmp 24) rfl gm zeroM rfl rfl (msgCs_one msg0 none 0 loc9) rfl (HGM.out _ HK1.out).1 rfl ?_)
    refine bodyPost_ret (v := .tuple #[.agg zeroM, .int .i64 27]) (by rw [results_msg_tmp rfl _ _ gm _ rfl (HGM.out _ HK1.out).2 rfl]; rfl) rfl ?_
    exact HZ.out _ 27 HK1.out HR2.out
  | true =>
    have HVB := Lib.hid hvb
    rw [hvb] at hva
    clear hvb
    go_wp2_with fail
    refine hva.mono ?_
    clear hva
    rintro e w1 ⟨rfl, k1⟩
    have HK1 := Lib.hid k1
    have hb3 := HK1.out.heap HBV.out id
    have c0 := cell_of_row w1 gv 0 _ _ (0, 0) hb3
    have c1 := cell_of_row w1 gv 1 _ _ (0, 0) hb3
    have c2 := cell_of_row w1 gv 2 _ _ (0, 0) hb3
    simp only [List.getElem?_toArray, List.getElem?_cons_zero, List.getElem?_cons_succ] at c0 c1 c2
    have hcv := check_val v m w1 ((HV.out.keep (HKA.out.trans HK1.out)).va) HLN.out.1
    unfold valV at hcv
    obtain ⟨ve, hve⟩ : ∃ ve, Hid (valF v = ve) := ⟨_, Lib.hid rfl⟩
    rw [hve.out] at hcv
    clear k1 b0 b1 hb3
    go_wp2_with fail
    refine hcv.mono ?_
    clear hcv c0 c1 c2
    rintro e w2 ⟨rfl, k2⟩
    have HK2 := Lib.hid (HK1.out.trans k2)
    clear k2
    by_cases hv0 : ve = 0
    case neg =>
      have hne : (ve != 0) = true := by simp only [bne_iff_ne, ne_eq]; exact hv0
      have HVE : Hid (((ve.toNat : Nat) : Int) = ve) := Lib.hid (by have := valF_pos v; rw [hve.out] at this; omega)
      have HR2 : Hid (R = ⟨s, l, a, msg0, ve.toNat⟩) := Lib.hid (by
        have h := HR1.out
        rw [if_neg (by rw [HVB.out]; decide), if_pos (by rw [hve.out]; exact hv0), hve.out] at h
        exact h.symm)
      clear hv0
      go_wp2_with (refine wpList_store_msg rfl (.tmp 8) (.tmp 29) rfl gm zeroM rfl rfl (msgCs_one msg0 none 0 loc9) rfl (HGM.out _ HK2.out).1 rfl ?_)
      refine bodyPost_ret (v := .tuple #[.agg zeroM, .int .i64 ve]) (by rw [results_msg_tmp rfl _ _ gm _ rfl (HGM.out _ HK2.out).2 rfl]; rfl) rfl ?_
      have := HZ.out _ ve.toNat HK2.out HR2.out
      rw [HVE.out] at this
      exact this
    subst hv0
    have HS : Hid (∀ W, Kp Noone w2 W → (W.cell? ⟨gb, 0, none⟩ = some (.int .i64 r) ∧ W.cell? ⟨gb, 1, none⟩ = some (.int .i64 nd) ∧ W.cell? ⟨q, 0, none⟩ = some (.int .i64 a.epoch)) ∧ W.cell? ⟨q, 2, none⟩ = some (.int .i64 a.prom.round) ∧ W.cell? ⟨q, 3, none⟩ = some (.int .i64 a.prom.node)) := Lib.hid (fun W kk => by
      obtain ⟨b0, b1⟩ := cells_2v ((HK2.out.trans kk).heap HBB.out id)
      obtain ⟨mb, x0, x1, x2, x3, x4, x5⟩ := (HA.out.keep (HKA.out.trans (HK2.out.trans kk))).logc
      exact ⟨⟨b0, b1, x0⟩, x2, x3⟩)
    have HCM := Lib.hid (fun W => compare_any ⟨r, nd⟩ a.prom W)
    obtain ⟨c, hcc⟩ : ∃ c, Hid (cmpB ⟨r, nd⟩ a.prom = c) := ⟨_, Lib.hid rfl⟩
    have hcm : ∀ W, Calls Tryz.prog 41 #[.agg #[.int .i64 r, .int .i64 nd], .agg #[.int .i64 a.prom.round, .int .i64 a.prom.node]] W fun e w' => e = .returned (.int .i64 c) ∧ Kp Noone W w' := fun W => by
      have := HCM.out W
      rwa [hcc.out] at this
    go_upto_region 8 with fail
    obtain ⟨⟨x0, x1, x2⟩, x3, x4⟩ := HS.out _ (Kp.refl _ _).drew
    have kd : Kp Noone w2 w2.drew := (Kp.refl _ _).drew
    by_cases hlt : c < 0
    · have HLT := Lib.hid hlt
      go_region_held3 (fun W => (W.cell? ⟨gb, 0, none⟩ = some (.int .i64 r) ∧ W.cell? ⟨gb, 1, none⟩ = some (.int .i64 nd) ∧ W.cell? ⟨q, 0, none⟩ = some (.int .i64 a.epoch)) ∧ W.cell? ⟨q, 2, none⟩ = some (.int .i64 a.prom.round) ∧ W.cell? ⟨q, 3, none⟩ = some (.int .i64 a.prom.node))
        (first | with_reducible exact HS.out _ kd | with_reducible exact HS.out _ kk)
        (first | (go_at_call 41; refine (hcm _).mono ?_; rintro e w3 ⟨rfl, k1⟩; have kk := kd.trans k1; clear k1))
      have HKC := Lib.hid (HK2.out.trans kk)
      have HS3 : Hid (∀ W, Kp Noone w3 W → (W.cell? ⟨gb, 0, none⟩ = some (.int .i64 r) ∧ W.cell? ⟨gb, 1, none⟩ = some (.int .i64 nd) ∧ W.cell? ⟨q, 0, none⟩ = some (.int .i64 a.epoch)) ∧ W.cell? ⟨q, 2, none⟩ = some (.int .i64 a.prom.round) ∧ W.cell? ⟨q, 3, none⟩ = some (.int .i64 a.prom.node)) := Lib.hid (fun W k2 => HS.out _ (kk.trans k2))
      clear x0 x1 x2 x3 x4 kd kk hcm HS HCM
      have HR2 : Hid (R = ⟨s, l, a, nackM a, 60⟩) := Lib.hid (by
        have h := HR1.out
        rw [if_neg (by rw [HVB.out]; decide), if_neg (by rw [hve.out]; decide), if_pos ((cmpB_neg _ _).1 (by rw [hcc.out]; exact HLT.out))] at h
        exact h.symm)
      go_upto_region 9 with fail
      obtain ⟨⟨x0, x1, x2⟩, x3, x4⟩ := HS3.out _ (Kp.refl _ _).drew
      have kd : Kp Noone w3 w3.drew := (Kp.refl _ _).drew
      have hst : (stM (.pointer (some ⟨gm, 0, none⟩)) (.agg #[.int .i64 3, .int .i64 0, .int .i64 0, .int .i64 a.epoch, .int .i64 a.prom.round, .int .i64 a.prom.node, .int .i64 0, .int .i64 0, .int .i64 0, .int .i64 0, .slice none 0 0, .slice none 0 0, .slice none 0 0, .int .i64 0, .int .i64 0, .int .i64 0, .int .i64 0, .int .i64 0, .int .i64 0, .int .i64 0, .int .i64 0, .int .i64 0, .int .i64 0, .int .i64 0, .slice none 0 0])).run Tryz.prog w3.drew = .ok () (putM w3.drew gm #[.int .i64 3, .int .i64 0, .int .i64 0, .int .i64 a.epoch, .int .i64 a.prom.round, .int .i64 a.prom.node, .int .i64 0, .int .i64 0, .int .i64 0, .int .i64 0, .slice none 0 0, .slice none 0 0, .slice none 0 0, .int .i64 0, .int .i64 0, .int .i64 0, .int .i64 0, .int .i64 0, .int .i64 0, .int .i64 0, .int .i64 0, .int .i64 0, .int .i64 0, .int .i64 0, .slice none 0 0]) := run_store_msg gm #[.int .i64 3, .int .i64 0, .int .i64 0, .int .i64 a.epoch, .int .i64 a.prom.round, .int .i64 a.prom.node, .int .i64 0, .int .i64 0, .int .i64 0, .int .i64 0, .slice none 0 0, .slice none 0 0, .slice none 0 0, .int .i64 0, .int .i64 0, .int .i64 0, .int .i64 0, .int .i64 0, .int .i64 0, .int .i64 0, .int .i64 0, .int .i64 0, .int .i64 0, .int .i64 0, .slice none 0 0] (msgCs_one (nackM a) none 0 loc9) rfl (HGM.out _ (HKC.out.trans kd)).1 rfl
      have hS3 : (fun W : World => (W.cell? ⟨gb, 0, none⟩ = some (.int .i64 r) ∧ W.cell? ⟨gb, 1, none⟩ = some (.int .i64 nd) ∧ W.cell? ⟨q, 0, none⟩ = some (.int .i64 a.epoch)) ∧ W.cell? ⟨q, 2, none⟩ = some (.int .i64 a.prom.round) ∧ W.cell? ⟨q, 3, none⟩ = some (.int .i64 a.prom.node)) (putM w3.drew gm #[.int .i64 3, .int .i64 0, .int .i64 0, .int .i64 a.epoch, .int .i64 a.prom.round, .int .i64 a.prom.node, .int .i64 0, .int .i64 0, .int .i64 0, .int .i64 0, .slice none 0 0, .slice none 0 0, .slice none 0 0, .int .i64 0, .int .i64 0, .int .i64 0, .int .i64 0, .int .i64 0, .int .i64 0, .int .i64 0, .int .i64 0, .int .i64 0, .int .i64 0, .int .i64 0, .slice none 0 0]) := by
        have kp := putM_kp (w := w3.drew) (g := gm) #[.int .i64 3, .int .i64 0, .int .i64 0, .int .i64 a.epoch, .int .i64 a.prom.round, .int .i64 a.prom.node, .int .i64 0, .int .i64 0, .int .i64 0, .int .i64 0, .slice none 0 0, .slice none 0 0, .slice none 0 0, .int .i64 0, .int .i64 0, .int .i64 0, .int .i64 0, .int .i64 0, .int .i64 0, .int .i64 0, .int .i64 0, .int .i64 0, .int .i64 0, .int .i64 0, .slice none 0 0]
        have hg := HG.out
        have hq := HQB.out
        exact ⟨⟨kp.cell x0 (by show ¬ gb = gm; omega), kp.cell x1 (by show ¬ gb = gm; omega), kp.cell x2 (by show ¬ q = gm; omega)⟩, kp.cell x3 (by show ¬ q = gm; omega), kp.cell x4 (by show ¬ q = gm; omega)⟩
      go_region_held3 (fun W => (W.cell? ⟨gb, 0, none⟩ = some (.int .i64 r) ∧ W.cell? ⟨gb, 1, none⟩ = some (.int .i64 nd) ∧ W.cell? ⟨q, 0, none⟩ = some (.int .i64 a.epoch)) ∧ W.cell? ⟨q, 2, none⟩ = some (.int .i64 a.prom.round) ∧ W.cell? ⟨q, 3, none⟩ = some (.int .i64 a.prom.node))
        (first | with_reducible exact HS3.out _ kd | with_reducible exact hS3)
        (fail)
      clear hst hS3 x0 x1 x2 x3 x4
      have HK3 := Lib.hid (HKC.out.trans kd)
      have HF3 := Lib.hid (HFIN.out (putM w3.drew gm #[.int .i64 3, .int .i64 0, .int .i64 0, .int .i64 a.epoch, .int .i64 a.prom.round, .int .i64 a.prom.node, .int .i64 0, .int .i64 0, .int .i64 0, .int .i64 0, .slice none 0 0, .slice none 0 0, .slice none 0 0, .int .i64 0, .int .i64 0, .int .i64 0, .int .i64 0, .int .i64 0, .int .i64 0, .int .i64 0, .int .i64 0, .int .i64 0, .int .i64 0, .int .i64 0, .slice none 0 0]) ⟨s, l, a, nackM a, 60⟩ ((HK3.out.none (S := fun j => j = gm)).trans (putM_kp _)) (putM_heap (HGM.out _ HK3.out).1 rfl) rfl rfl rfl rfl rfl)
      have HG3 := Lib.hid (putM_heap (cs := #[.int .i64 3, .int .i64 0, .int .i64 0, .int .i64 a.epoch, .int .i64 a.prom.round, .int .i64 a.prom.node, .int .i64 0, .int .i64 0, .int .i64 0, .int .i64 0, .slice none 0 0, .slice none 0 0, .slice none 0 0, .int .i64 0, .int .i64 0, .int .i64 0, .int .i64 0, .int .i64 0, .int .i64 0, .int .i64 0, .int .i64 0, .int .i64 0, .int .i64 0, .int .i64 0, .slice none 0 0]) (HGM.out _ HK3.out).1 rfl)
      go_wp2_with fail
      refine bodyPost_ret (v := .tuple #[.agg #[.int .i64 3, .int .i64 0, .int .i64 0, .int .i64 a.epoch, .int .i64 a.prom.round, .int .i64 a.prom.node, .int .i64 0, .int .i64 0, .int .i64 0, .int .i64 0, .slice none 0 0, .slice none 0 0, .slice none 0 0, .int .i64 0, .int .i64 0, .int .i64 0, .int .i64 0, .int .i64 0, .int .i64 0, .int .i64 0, .int .i64 0, .int .i64 0, .int .i64 0, .int .i64 0, .slice none 0 0], .int .i64 60]) (by rw [results_msg_tmp rfl _ _ gm _ rfl HG3.out rfl]; rfl) rfl ?_
      rw [HR2.out]
      exact HF3.out
    · have HLT := Lib.hid hlt
      go_region_held3 (fun W => (W.cell? ⟨gb, 0, none⟩ = some (.int .i64 r) ∧ W.cell? ⟨gb, 1, none⟩ = some (.int .i64 nd) ∧ W.cell? ⟨q, 0, none⟩ = some (.int .i64 a.epoch)) ∧ W.cell? ⟨q, 2, none⟩ = some (.int .i64 a.prom.round) ∧ W.cell? ⟨q, 3, none⟩ = some (.int .i64 a.prom.node))
        (first | with_reducible exact HS.out _ kd | with_reducible exact HS.out _ kk)
        (first | (go_at_call 41; refine (hcm _).mono ?_; rintro e w3 ⟨rfl, k1⟩; have kk := kd.trans k1; clear k1))
      have HKC := Lib.hid (HK2.out.trans kk)
      have HS3 : Hid (∀ W, Kp Noone w3 W → (W.cell? ⟨gb, 0, none⟩ = some (.int .i64 r) ∧ W.cell? ⟨gb, 1, none⟩ = some (.int .i64 nd) ∧ W.cell? ⟨q, 0, none⟩ = some (.int .i64 a.epoch)) ∧ W.cell? ⟨q, 2, none⟩ = some (.int .i64 a.prom.round) ∧ W.cell? ⟨q, 3, none⟩ = some (.int .i64 a.prom.node)) := Lib.hid (fun W k2 => HS.out _ (kk.trans k2))
      have HR2 : Hid ((if sl9 ≤ a.floor ∨ a.floor + 64 < sl9 ∨ 1099511627776 < sl9 then ⟨s, l, a, msg0, 61⟩ else accO s l a ⟨r, nd⟩ sl9 v (getV sl9 a.votes)) = R) := Lib.hid (by
        have h := HR1.out
        rw [if_neg (by rw [HVB.out]; decide), if_neg (by rw [hve.out]; decide), if_neg (fun cc => by have h1 := (cmpB_neg _ _).2 cc; rw [hcc.out] at h1; have h2 := HLT.out; omega)] at h
        exact h)
      obtain ⟨mb, y0, y1, y2, y3, y4, y5⟩ := (HA.out.keep (HKA.out.trans HKC.out)).logc
      have hwf : IntKind.i64.wrap (a.floor + 64) = a.floor + 64 := IntWalk.i64_in _ (by have := HOK.out.fl; omega)
      clear x0 x1 x2 x3 x4 kd kk hcm HS HCM y0 y2 y3 y4 y5
      by_cases hbad : sl9 ≤ a.floor ∨ a.floor + 64 < sl9 ∨ 1099511627776 < sl9
      · have HR3 : Hid (R = ⟨s, l, a, msg0, 61⟩) := Lib.hid (by rw [← HR2.out, if_pos hbad])
        by_cases h1 : sl9 ≤ a.floor
        · clear hbad
          go_wp2_with (refine wpList_store_msg rfl (.tmp 8) (.tmp 71) rfl gm zeroM rfl rfl (msgCs_one msg0 none 0 loc9) rfl (HGM.out _ HKC.out).1 rfl ?_)
          refine bodyPost_ret (v := .tuple #[.agg zeroM, .int .i64 61]) (by rw [results_msg_tmp rfl _ _ gm _ rfl (HGM.out _ HKC.out).2 rfl]; rfl) rfl ?_
          exact HZ.out _ 61 HKC.out HR3.out
        by_cases h2 : a.floor + 64 < sl9
        · clear hbad
          go_wp2_with (refine wpList_store_msg rfl (.tmp 8) (.tmp 71) rfl gm zeroM rfl rfl (msgCs_one msg0 none 0 loc9) rfl (HGM.out _ HKC.out).1 rfl ?_)
          refine bodyPost_ret (v := .tuple #[.agg zeroM, .int .i64 61]) (by rw [results_msg_tmp rfl _ _ gm _ rfl (HGM.out _ HKC.out).2 rfl]; rfl) rfl ?_
          exact HZ.out _ 61 HKC.out HR3.out
        have h3 : 1099511627776 < sl9 := by omega
        clear hbad
        go_wp2_with (refine wpList_store_msg rfl (.tmp 8) (.tmp 71) rfl gm zeroM rfl rfl (msgCs_one msg0 none 0 loc9) rfl (HGM.out _ HKC.out).1 rfl ?_)
        refine bodyPost_ret (v := .tuple #[.agg zeroM, .int .i64 61]) (by rw [results_msg_tmp rfl _ _ gm _ rfl (HGM.out _ HKC.out).2 rfl]; rfl) rfl ?_
        exact HZ.out _ 61 HKC.out HR3.out
      have h1 : ¬ sl9 ≤ a.floor := fun cc => hbad (Or.inl cc)
      have h2 : ¬ a.floor + 64 < sl9 := fun cc => hbad (Or.inr (Or.inl cc))
      have h3 : ¬ 1099511627776 < sl9 := fun cc => hbad (Or.inr (Or.inr cc))
      have HR3 : Hid (accO s l a ⟨r, nd⟩ sl9 v (getV sl9 a.votes) = R) := Lib.hid (by rw [← HR2.out, if_neg hbad])
      clear hbad
      obtain ⟨mbx, L, hP⟩ := (HA.out.keep (HKA.out.trans HKC.out)).ac
      have hmap := hP.map
      have hbx := hP.box
      unfold acCs at hbx
      obtain ⟨y0, y1, y2, y3, y4, y5⟩ := cells_6v hbx
      have HP := Lib.hid hP
      clear hP hbx y0 y2 y3 y5
      have hlk := hmap.lookup (P := Tryz.prog) (t := 3) (m := 104) (e := 56) keyI9 Tryz.underlying104 (zero_vote _) sl9 true
      have HGV := get_vote HP.out.perm hmap.keys sl9
      have HF13 := Lib.hid (And.intro h1 (And.intro h2 h3))
      go_upto_region 12 with fail
      obtain ⟨ov, om, OK, hov, hcase⟩ : ∃ (ov : VoteR) (om : VLoc) (OK : Bool), (alGet sl9 (voteM L)).getD (.agg #[.int .i64 0, .int .i64 0, .int .i64 0, .int .i64 0, .slice none 0 0, .slice none 0 0]) = voteV ov om ∧ (OK = true ∧ (alGet sl9 (voteM L)).isSome = true ∧ getV sl9 a.votes = some ov ∧ ValOwn (Col col 10) w3 ov.val om ∨ OK = false ∧ (alGet sl9 (voteM L)).isSome = false ∧ getV sl9 a.votes = none) := by
        rcases HGV with ⟨p, hp1, hp2, hp3, hp4⟩ | ⟨hp3, hp4⟩
        · exact ⟨p.1, p.2, true, by rw [hp3]; rfl, Or.inl ⟨rfl, by rw [hp3]; rfl, hp4, HP.out.vals p hp1⟩⟩
        · exact ⟨⟨0, bal0, val0⟩, loc9, false, by rw [hp3]; rfl, Or.inr ⟨rfl, by rw [hp3]; rfl, hp4⟩⟩
      have hok : (alGet sl9 (voteM L)).isSome = OK := by rcases hcase with ⟨h1, h2, -⟩ | ⟨h1, h2, -⟩ <;> rw [h1, h2]
      have HCASE : Hid (getV sl9 a.votes = if OK = true then some ov else none) := Lib.hid (by rcases hcase with ⟨h1, -, h2, -⟩ | ⟨h1, -, h2⟩ <;> rw [h1, h2] <;> rfl)
      have HVAL : Hid (OK = true → ValOwn (Col col 10) w3 ov.val om) := Lib.hid (fun e => by rcases hcase with ⟨-, -, -, h2⟩ | ⟨h1, -⟩; exact h2; rw [h1] at e; cases e)
      have HSM : Hid ((OK = true → ov.val.cmds.length ≤ 4194304) ∧ (OK = true → ov.val.next.length ≤ 4194304)) := Lib.hid ⟨fun e => by
        have h := HCASE.out
        rw [if_pos e] at h
        have := (HOK.out.small (getV_some h).1).1
        omega, fun e => by
        have h := HCASE.out
        rw [if_pos e] at h
        have := (HOK.out.small (getV_some h).1).2
        omega⟩
      rw [if_pos rfl, hov, hok] at hlk
      unfold encI voteV at hlk
      obtain ⟨os, ⟨br, bn⟩, ov⟩ := ov
      simp only [] at hlk HVAL HCASE HSM
      rw [HCASE.out] at HR3
      clear HGV hov hok hcase hmap h1 h2 h3 hwf HCASE
      go_upto_region 13 with fail
      have hbO := heap_alloc_new w3 (.cells #[.int .i64 os, .int .i64 br, .int .i64 bn, .int .i64 ov.kind, .slice om.co ov.cmds.length om.cc, .slice om.no ov.next.length om.nc] 56)
      have kO : Kp Noone w3 (w3.alloc (.cells #[.int .i64 os, .int .i64 br, .int .i64 bn, .int .i64 ov.kind, .slice om.co ov.cmds.length om.cc, .slice om.no ov.next.length om.nc] 56)) := (Kp.refl _ _).alloc _
      generalize w3.alloc (.cells #[.int .i64 os, .int .i64 br, .int .i64 bn, .int .i64 ov.kind, .slice om.co ov.cmds.length om.cc, .slice om.no ov.next.length om.nc] 56) = w4 at *
      generalize w3.heap.size = go at *
      have HK4 := Lib.hid (HKC.out.trans kO)
      have HBO := Lib.hid hbO
      have HVAL4 : Hid (OK = true → ValOwn (Col col 10) w4 ov om) := Lib.hid (fun e => (HVAL.out e).keep kO)
      clear hbO kO HVAL hlk y1 y4 HS3
      have HS4 : Hid (∀ W, Kp Noone w4 W → (W.cell? ⟨go, 1, none⟩ = some (.int .i64 br) ∧ W.cell? ⟨go, 2, none⟩ = some (.int .i64 bn)) ∧ (W.cell? ⟨gb, 0, none⟩ = some (.int .i64 r) ∧ W.cell? ⟨gb, 1, none⟩ = some (.int .i64 nd) ∧ W.cell? ⟨q, 0, none⟩ = some (.int .i64 a.epoch)) ∧ W.cell? ⟨gv, 0, none⟩ = some (.int .i64 v.kind) ∧ W.cell? ⟨gv, 1, none⟩ = some (.slice m.co v.cmds.length m.cc) ∧ W.cell? ⟨gv, 2, none⟩ = some (.slice m.no v.next.length m.nc)) := Lib.hid (fun W kk => by
        obtain ⟨mb, x0, -⟩ := (HA.out.keep (HKA.out.trans (HK4.out.trans kk))).logc
        have c6 := cells_6v (kk.heap HBO.out id)
        have c2 := cells_2v ((HK4.out.trans kk).heap HBB.out id)
        have c3 := cells_3v ((HK4.out.trans kk).heap HBV.out id)
        exact ⟨⟨c6.c1, c6.c2⟩, ⟨c2.1, c2.2, x0⟩, c3.1, c3.2.1, c3.2.2⟩)
      obtain ⟨⟨z1, z2⟩, ⟨x0, x1, -⟩, -⟩ := HS4.out _ (Kp.refl _ _)
      have HVW : Hid (∀ W, Kp Noone wA W → ValC (fun j => col j = 0) W v m) := Lib.hid (fun W kk => HV.out.keep (HKA.out.trans kk))
      cases OK
      case' false =>
        have HR4 : Hid (accW a ⟨2, a.epoch, sl9, ⟨r, nd⟩, v⟩ (writeF [recL ⟨2, a.epoch, sl9, ⟨r, nd⟩, v⟩] true 0 s l) = R) := Lib.hid HR3.out
        have HZZ : Hid (∃ b : Bool, b = true) := Lib.hid ⟨true, rfl⟩
        go_upto_region 16 with fail
      case' true =>
        by_cases hbal : br = r ∧ bn = nd
        case pos =>
          obtain ⟨rfl, rfl⟩ := hbal
          have hsv := sameVal_any ov v om m w4 (HVAL4.out rfl).at (HVW.out _ HK4.out).va (HSM.out.1 rfl) (HSM.out.2 rfl)
          unfold valV at hsv
          have c6 := cells_6v HBO.out
          have z3 := c6.c3
          have z4 := c6.c4
          have z5 := c6.c5
          obtain ⟨-, -, v0, v1, v2⟩ := HS4.out _ (Kp.refl _ _)
          have HR4 : Hid ((if ov = v then (⟨s, l, a, votedM a ⟨br, bn⟩ sl9 v, 0⟩ : AO) else ⟨s, l, a, msg0, 63⟩) = R) := Lib.hid (by
            have h := HR3.out
            rw [if_pos rfl] at h
            unfold accO at h
            simp only [if_true] at h
            exact h)
          obtain ⟨B9, hB9⟩ : ∃ B9, Hid (decide (ov = v) = B9) := ⟨_, Lib.hid rfl⟩
          rw [hB9.out] at hsv
          clear c6
          cases B9 with
          | false =>
            have HR5 : Hid (R = ⟨s, l, a, msg0, 63⟩) := Lib.hid (by rw [← HR4.out, if_neg (of_decide_eq_false hB9.out)])
            go_wp2_with fail
            refine hsv.mono ?_
            clear hsv
            rintro e w5 ⟨rfl, k5⟩
            have HK5 := Lib.hid (HK4.out.trans k5)
            clear k5
            go_wp2_with (refine wpList_store_msg rfl (.tmp 8) (.tmp 96) rfl gm zeroM rfl rfl (msgCs_one msg0 none 0 loc9) rfl (HGM.out _ HK5.out).1 rfl ?_)
            refine bodyPost_ret (v := .tuple #[.agg zeroM, .int .i64 63]) (by rw [results_msg_tmp rfl _ _ gm _ rfl (HGM.out _ HK5.out).2 rfl]; rfl) rfl ?_
            exact HZ.out _ 63 HK5.out HR5.out
          | true =>
            have HRT : Hid (R = ⟨s, l, a, votedM a ⟨br, bn⟩ sl9 v, 0⟩) := Lib.hid (by rw [← HR4.out, if_pos (of_decide_eq_true hB9.out)])
            go_wp2_with fail
            refine hsv.mono ?_
            clear hsv
            rintro e wt ⟨rfl, k5⟩
            have HK5 := Lib.hid (HK4.out.trans k5)
            obtain ⟨⟨z1, z2⟩, ⟨x0, x1, -⟩, -⟩ := HS4.out _ k5
            clear k5
            go_upto_region 21 with fail
            obtain ⟨col2, hcol2⟩ : ∃ x, x = col := ⟨_, rfl⟩
            obtain ⟨s2, hs2⟩ : ∃ x, x = s := ⟨_, rfl⟩
            obtain ⟨l2, hl2⟩ : ∃ x, x = l := ⟨_, rfl⟩
            obtain ⟨a2, ha2⟩ : ∃ x, x = a := ⟨_, rfl⟩
            have HRT : Hid (R = ⟨s2, l2, a2, votedM a2 ⟨br, bn⟩ sl9 v, 0⟩) := Lib.hid (by rw [hs2, hl2, ha2]; exact HRT.out)
            have HE : Hid (Ext B SX col w col2 wt) := Lib.hid (by rw [hcol2]; exact Ext.quiet HC.out (HKA.out.trans HK5.out))
            have HAT : Hid (AcL col2 wt p ql q s2 l2 a2) := Lib.hid (by rw [hcol2, hs2, hl2, ha2]; exact HA.out.keep (HKA.out.trans HK5.out))
            have HLT : Hid (LI (i + 2) s2 l2) := Lib.hid (by rw [hs2, hl2]; exact HLI.out.mono (by omega))
            have HBT := Lib.hid (HK5.out.heap HBB.out id)
            have HVT := Lib.hid (HK5.out.heap HBV.out id)
            have HGT := Lib.hid (HK5.out.heap HBM.out id)
            have HCT : Hid (col2 gm = 0) := Lib.hid (by rw [hcol2]; exact cols_new HC.out (by have := HG.out; omega))
            have HVO : Hid (ValC (fun j => col2 j = 0) wt v m) := Lib.hid (by rw [hcol2]; exact HVW.out _ HK5.out)
            clear hcol2 hs2 hl2 ha2 z1 z2 z3 z4 z5 x0 x1 v0 v1 v2
            have hcl := fun W (kk : Kp Noone wt W) => cloneVal_any v m W (HVO.out.keep kk).va (by have := valF_cmds hve.out; omega) (by have := valF_next hve.out; omega)
            unfold valV at hcl
            have HS9 : Hid (∀ W, Kp (fun j => j = gm) wt W → (W.cell? ⟨gb, 0, none⟩ = some (.int .i64 br) ∧ W.cell? ⟨gb, 1, none⟩ = some (.int .i64 bn) ∧ W.cell? ⟨q, 0, none⟩ = some (.int .i64 a2.epoch)) ∧ W.cell? ⟨gv, 0, none⟩ = some (.int .i64 v.kind) ∧ W.cell? ⟨gv, 1, none⟩ = some (.slice m.co v.cmds.length m.cc) ∧ W.cell? ⟨gv, 2, none⟩ = some (.slice m.no v.next.length m.nc)) := Lib.hid (fun W kk => by
              have hqg : q ≠ gb ∧ q ≠ gm ∧ gb ≠ gm ∧ gv ≠ gm := by have := HQB.out; have := HG.out; omega
              obtain ⟨mb, M, h9⟩ := HAT.out.ac
              have hb := kk.heap h9.box hqg.2.1
              unfold acCs at hb
              have c6 := cells_6v hb
              have c2 := cells_2v (kk.heap HBT.out hqg.2.2.1)
              have c3 := cells_3v (kk.heap HVT.out hqg.2.2.2)
              exact ⟨⟨c2.1, c2.2, c6.c0⟩, c3.1, c3.2.1, c3.2.2⟩)
            have kd : Kp Noone wt wt.drew := (Kp.refl _ _).drew
            obtain ⟨⟨x0, x1, x2⟩, x3, x4, x5⟩ := HS9.out _ kd.none
            have hS1 := HS9.out _ (kd.none (S := fun j => j = gm))
            apply wp_region_9 (G := fun (m9 : VLoc) wz => ValOwn (Ex Noone wt wz) wz v m9 ∧ Kp (fun j => j = gm) wt wz ∧ wz.heap[gm]? = some (.cells #[.int .i64 5, .int .i64 0, .int .i64 0, .int .i64 a2.epoch, .int .i64 br, .int .i64 bn, .int .i64 sl9, .int .i64 0, .int .i64 0, .int .i64 v.kind, .slice m9.co v.cmds.length m9.cc, .slice m9.no v.next.length m9.nc, .slice none 0 0, .int .i64 0, .int .i64 0, .int .i64 0, .int .i64 0, .int .i64 0, .int .i64 0, .int .i64 0, .int .i64 0, .int .i64 0, .int .i64 0, .int .i64 0, .slice none 0 0] 46 (0, 0)))
            case h =>
              go_region_held3 (fun W => (W.cell? ⟨gb, 0, none⟩ = some (.int .i64 br) ∧ W.cell? ⟨gb, 1, none⟩ = some (.int .i64 bn) ∧ W.cell? ⟨q, 0, none⟩ = some (.int .i64 a2.epoch)) ∧ W.cell? ⟨gv, 0, none⟩ = some (.int .i64 v.kind) ∧ W.cell? ⟨gv, 1, none⟩ = some (.slice m.co v.cmds.length m.cc) ∧ W.cell? ⟨gv, 2, none⟩ = some (.slice m.no v.next.length m.nc))
                (first | with_reducible exact hS1 | with_reducible exact hS3 | with_reducible exact hS2)
                (first | (go_at_call 46; refine (hcl _ kd).mono ?_; rintro e wv ⟨m9, rfl, hown, kv⟩; have kk := kd.trans kv; have hS3 := HS9.out _ (kk.none (S := fun j => j = gm)); have hgz := kk.heap HGT.out id; have hst : (stM (.pointer (some ⟨gm, 0, none⟩)) (.agg #[.int .i64 5, .int .i64 0, .int .i64 0, .int .i64 a2.epoch, .int .i64 br, .int .i64 bn, .int .i64 sl9, .int .i64 0, .int .i64 0, .int .i64 v.kind, .slice m9.co v.cmds.length m9.cc, .slice m9.no v.next.length m9.nc, .slice none 0 0, .int .i64 0, .int .i64 0, .int .i64 0, .int .i64 0, .int .i64 0, .int .i64 0, .int .i64 0, .int .i64 0, .int .i64 0, .int .i64 0, .int .i64 0, .slice none 0 0])).run Tryz.prog wv = .ok () (putM wv gm #[.int .i64 5, .int .i64 0, .int .i64 0, .int .i64 a2.epoch, .int .i64 br, .int .i64 bn, .int .i64 sl9, .int .i64 0, .int .i64 0, .int .i64 v.kind, .slice m9.co v.cmds.length m9.cc, .slice m9.no v.next.length m9.nc, .slice none 0 0, .int .i64 0, .int .i64 0, .int .i64 0, .int .i64 0, .int .i64 0, .int .i64 0, .int .i64 0, .int .i64 0, .int .i64 0, .int .i64 0, .int .i64 0, .slice none 0 0]) := run_store_msg gm _ (by simp [Value.oneCell']) rfl hgz rfl; have HKM : Hid (Kp (fun j => j = gm) wt (putM wv gm #[.int .i64 5, .int .i64 0, .int .i64 0, .int .i64 a2.epoch, .int .i64 br, .int .i64 bn, .int .i64 sl9, .int .i64 0, .int .i64 0, .int .i64 v.kind, .slice m9.co v.cmds.length m9.cc, .slice m9.no v.next.length m9.nc, .slice none 0 0, .int .i64 0, .int .i64 0, .int .i64 0, .int .i64 0, .int .i64 0, .int .i64 0, .int .i64 0, .int .i64 0, .int .i64 0, .int .i64 0, .int .i64 0, .slice none 0 0])) := Lib.hid ((kk.none (S := fun j => j = gm)).trans (putM_kp _)); have HGZ := Lib.hid (putM_heap (cs := #[.int .i64 5, .int .i64 0, .int .i64 0, .int .i64 a2.epoch, .int .i64 br, .int .i64 bn, .int .i64 sl9, .int .i64 0, .int .i64 0, .int .i64 v.kind, .slice m9.co v.cmds.length m9.cc, .slice m9.no v.next.length m9.nc, .slice none 0 0, .int .i64 0, .int .i64 0, .int .i64 0, .int .i64 0, .int .i64 0, .int .i64 0, .int .i64 0, .int .i64 0, .int .i64 0, .int .i64 0, .int .i64 0, .slice none 0 0]) hgz rfl); have hS2 := HS9.out _ HKM.out))
              all_goals (
                refine NoPanic.normal ⟨rfl, m9, rfl, ?_⟩
                have kp := putM_kp (w := wv) (g := gm) #[.int .i64 5, .int .i64 0, .int .i64 0, .int .i64 a2.epoch, .int .i64 br, .int .i64 bn, .int .i64 sl9, .int .i64 0, .int .i64 0, .int .i64 v.kind, .slice m9.co v.cmds.length m9.cc, .slice m9.no v.next.length m9.nc, .slice none 0 0, .int .i64 0, .int .i64 0, .int .i64 0, .int .i64 0, .int .i64 0, .int .i64 0, .int .i64 0, .int .i64 0, .int .i64 0, .int .i64 0, .int .i64 0, .slice none 0 0]
                exact ⟨(hown.kp kp (fun j d e => by have := d.none; have := kd.size; have := (Array.getElem?_eq_some_iff.1 HGT.out).1; omega)).mono (fun j hj d => by have := d.none; have := kd.size; have := kp.size; exact Or.inr ⟨by omega, by omega⟩), HKM.out, HGZ.out⟩)
            case k =>
              rintro m9 wz ⟨hown, kz, hgz⟩
              have HGZ := Lib.hid hgz
              have HF9 : Hid (MsgTo B col w p ql q R (i + 2) (.returned (.tuple #[.agg #[.int .i64 5, .int .i64 0, .int .i64 0, .int .i64 a2.epoch, .int .i64 br, .int .i64 bn, .int .i64 sl9, .int .i64 0, .int .i64 0, .int .i64 v.kind, .slice m9.co v.cmds.length m9.cc, .slice m9.no v.next.length m9.nc, .slice none 0 0, .int .i64 0, .int .i64 0, .int .i64 0, .int .i64 0, .int .i64 0, .int .i64 0, .int .i64 0, .int .i64 0, .int .i64 0, .int .i64 0, .int .i64 0, .slice none 0 0], .int .i64 0])) wz) := Lib.hid (by
                have hgl := (Array.getElem?_eq_some_iff.1 HGT.out).1
                have hws := HE.out.size
                obtain ⟨f1, f2⟩ := msg_put HE.out HAT.out kz HCT.out (by have := HG.out; omega)
                rw [HRT.out]
                exact ⟨⟨col2, none, 0, m9, rfl, f1, f2, ⟨⟨[], fun _ => False, rfl, Own.nil _ _ _ _ _, fun p hp => by cases hp⟩, hown.mono (fun j hj d => ⟨by have := d.none; omega, cols_new HE.out.cols d.none.1⟩)⟩⟩, HLT.out⟩)
              clear hown kz hgz hcl x0 x1 x2 x3 x4 x5 hS1 kd
              go_wp2_with fail
              refine bodyPost_ret (v := .tuple #[.agg #[.int .i64 5, .int .i64 0, .int .i64 0, .int .i64 a2.epoch, .int .i64 br, .int .i64 bn, .int .i64 sl9, .int .i64 0, .int .i64 0, .int .i64 v.kind, .slice m9.co v.cmds.length m9.cc, .slice m9.no v.next.length m9.nc, .slice none 0 0, .int .i64 0, .int .i64 0, .int .i64 0, .int .i64 0, .int .i64 0, .int .i64 0, .int .i64 0, .int .i64 0, .int .i64 0, .int .i64 0, .int .i64 0, .slice none 0 0], .int .i64 0]) (by rw [results_msg_tmp rfl _ _ gm _ rfl HGZ.out rfl]; rfl) rfl ?_
              exact HF9.out
        have HR4 : Hid (accW a ⟨2, a.epoch, sl9, ⟨r, nd⟩, v⟩ (writeF [recL ⟨2, a.epoch, sl9, ⟨r, nd⟩, v⟩] true 0 s l) = R) := Lib.hid (by
          have h := HR3.out
          rw [if_pos rfl] at h
          unfold accO at h
          simp only [] at h
          rw [if_neg (fun c => hbal (by cases c; exact ⟨rfl, rfl⟩))] at h
          exact h)
        have HZZ : Hid (∃ b : Bool, b = true) := Lib.hid ⟨true, rfl⟩
        by_cases hq1 : br = r
        case' pos =>
          have hq1 := hq1.symm
          subst hq1
          have hq : (bn == nd) = false := beq_eq_false_iff_ne.2 (fun c => hbal ⟨rfl, c⟩)
          clear hbal
          go_upto_region 16 with fail
        case' neg =>
          have hq : (br == r) = false := beq_eq_false_iff_ne.2 hq1
          clear hbal hq1
          go_upto_region 16 with fail
      all_goals (
        have hX := heap_alloc_new w4 (.cells #[.int .i64 2, .int .i64 a.epoch, .int .i64 sl9, .int .i64 r, .int .i64 nd, .int .i64 v.kind, .slice m.co v.cmds.length m.cc, .slice m.no v.next.length m.nc] 112)
        have kX : Kp Noone w4 (w4.alloc (.cells #[.int .i64 2, .int .i64 a.epoch, .int .i64 sl9, .int .i64 r, .int .i64 nd, .int .i64 v.kind, .slice m.co v.cmds.length m.cc, .slice m.no v.next.length m.nc] 112)).drew := ((Kp.refl _ _).alloc _).drew
        have HXB : Hid ((w4.alloc (.cells #[.int .i64 2, .int .i64 a.epoch, .int .i64 sl9, .int .i64 r, .int .i64 nd, .int .i64 v.kind, .slice m.co v.cmds.length m.cc, .slice m.no v.next.length m.nc] 112)).drew.heap[w4.heap.size]? = some (.cells #[.int .i64 2, .int .i64 a.epoch, .int .i64 sl9, .int .i64 r, .int .i64 nd, .int .i64 v.kind, .slice m.co v.cmds.length m.cc, .slice m.no v.next.length m.nc] 112 (0, 0))) := Lib.hid hX
        have HK5 := Lib.hid (HK4.out.trans kX)
        have HXL : Hid (wA.heap.size ≤ w4.heap.size) := Lib.hid HK4.out.size
        clear z1 z2 x0 x1 hX
        obtain ⟨-, ⟨x0, x1, x2⟩, x3, x4, x5⟩ := HS4.out _ (Kp.refl _ _).drew
        have hS1 := (HS4.out _ ((Kp.refl _ _).drew)).2
        have hS2 := (HS4.out _ kX).2
        apply wp_region_0 (G := fun wz => wz = (w4.alloc (.cells #[.int .i64 2, .int .i64 a.epoch, .int .i64 sl9, .int .i64 r, .int .i64 nd, .int .i64 v.kind, .slice m.co v.cmds.length m.cc, .slice m.no v.next.length m.nc] 112)).drew)
        case h =>
          go_region_held3 (fun W => (W.cell? ⟨gb, 0, none⟩ = some (.int .i64 r) ∧ W.cell? ⟨gb, 1, none⟩ = some (.int .i64 nd) ∧ W.cell? ⟨q, 0, none⟩ = some (.int .i64 a.epoch)) ∧ W.cell? ⟨gv, 0, none⟩ = some (.int .i64 v.kind) ∧ W.cell? ⟨gv, 1, none⟩ = some (.slice m.co v.cmds.length m.cc) ∧ W.cell? ⟨gv, 2, none⟩ = some (.slice m.no v.next.length m.nc))
            (first | with_reducible exact hS1 | with_reducible exact hS2 | with_reducible exact (HS4.out _ (((Kp.refl _ _).alloc _).drew)).2)
            (fail)
          all_goals exact NoPanic.normal ⟨rfl, rfl, rfl⟩
        case k =>
          rintro w5 rfl
          clear hS1 hS2 x0 x1 x2 x3 x4 x5 kX
          generalize (w4.alloc (.cells #[.int .i64 2, .int .i64 a.epoch, .int .i64 sl9, .int .i64 r, .int .i64 nd, .int .i64 v.kind, .slice m.co v.cmds.length m.cc, .slice m.no v.next.length m.nc] 112)).drew = w5 at *
          generalize w4.heap.size = gx at *
          obtain ⟨⟨z0, z1, z2, z3⟩, z4, z5, z6, z7⟩ := cells_8v HXB.out
          have kB : Kp Noone w5 (w5.alloc (.cells #[.int .i64 2, .int .i64 a.epoch, .int .i64 sl9, .int .i64 r, .int .i64 nd, .int .i64 v.kind, .slice m.co v.cmds.length m.cc, .slice m.no v.next.length m.nc] 112)) := (Kp.refl _ _).alloc _
          have hok : RecOk ⟨2, a.epoch, sl9, ⟨r, nd⟩, v⟩ := by
            have hk := HOK.out
            have hv := HVB.out
            have hf := HF13.out
            have hfl := hk.fl
            unfold validB at hv
            have hv := of_decide_eq_true hv
            simp only [] at hv
            exact ⟨show (0 : Int) ≤ 2 ∧ (2 : Int) ≤ 3 by decide, hk.ep, (by show 0 ≤ sl9 ∧ sl9 ≤ 1099511627776; omega), (by show 0 ≤ r ∧ r ≤ 1099511627776; omega), (by show 0 ≤ nd ∧ nd ≤ 9; omega), hve.out⟩
          have hKW : Kp Noone w w5 := HKA.out.trans HK5.out
          have hrc := recs_one (B := B) (HC.out.keep hKW.size) ⟨2, a.epoch, sl9, ⟨r, nd⟩, v⟩ m 112 (HVW.out _ HK5.out)
          have hw := write_a B col (w5.alloc (.cells #[.int .i64 2, .int .i64 a.epoch, .int .i64 sl9, .int .i64 r, .int .i64 nd, .int .i64 v.kind, .slice m.co v.cmds.length m.cc, .slice m.no v.next.length m.nc] 112)) p ql q s l a (some ⟨w5.heap.size, 0, none⟩) 1 [(⟨2, a.epoch, sl9, ⟨r, nd⟩, v⟩, m)] i (HA.out.keep (hKW.trans kB)) (HC.out.keep (hKW.trans kB).size) (by have := (hKW.trans kB).size; have := HB.out; have := HG.out; omega) hrc (fun x hx => by rw [List.mem_singleton] at hx; subst hx; exact hok) (by simp) HLI.out (by have := HI.out; omega)
          simp only [List.map_cons, List.map_nil] at hw
          generalize writeF [recL ⟨2, a.epoch, sl9, ⟨r, nd⟩, v⟩] true 0 s l = WR at *
          obtain ⟨s2, l2, n2, er⟩ := WR
          have HVF := Lib.hid hok.val
          have HKW := Lib.hid hKW
          have HKB := Lib.hid (HK5.out.trans kB)
          have HWL := Lib.hid (And.intro kB.size (Array.getElem?_eq_some_iff.1 HXB.out).1)
          have HXB2 := Lib.hid (kB.heap HXB.out id)
          clear hok hrc hKW kB
          go_wp2_with fail
          refine hw.mono ?_
          clear hw z0 z1 z2 z3 z4 z5 z6 z7
          rintro e w6 ⟨⟨col1, rfl, e1, hA6⟩, hl6⟩
          generalize w5.alloc (.cells #[.int .i64 2, .int .i64 a.epoch, .int .i64 sl9, .int .i64 r, .int .i64 nd, .int .i64 v.kind, .slice m.co v.cmds.length m.cc, .slice m.no v.next.length m.nc] 112) = wB at *
          have HE1 := Lib.hid e1
          have HA6 := Lib.hid hA6
          have HL6 := Lib.hid hl6
          have HZC : Hid (∀ j, w.heap.size ≤ j → j < wB.heap.size → col j = 0 ∧ col1 j = 0) := Lib.hid (fun j hj h2 => ⟨cols_new HC.out hj, (HE1.out.old j h2).trans (cols_new HC.out hj)⟩)
          have HGB : Hid (w.heap.size ≤ gb ∧ gb < wB.heap.size ∧ w.heap.size ≤ gv ∧ gv < wB.heap.size ∧ w.heap.size ≤ gm ∧ gm < wB.heap.size ∧ w.heap.size ≤ gx ∧ gx < wB.heap.size) := Lib.hid (by
            have h1 := HG.out
            have h2 := HKB.out.size
            have h3 := HXL.out
            have h4 := HWL.out
            have h5 := HKA.out.size
            omega)
          have HBX := Lib.hid (HE1.out.kp.heap (HKB.out.heap HBB.out id) (by rw [(HZC.out gb HGB.out.1 HGB.out.2.1).1]; exact sl_zero))
          have HVX := Lib.hid (HE1.out.kp.heap (HKB.out.heap HBV.out id) (by rw [(HZC.out gv HGB.out.2.2.1 HGB.out.2.2.2.1).1]; exact sl_zero))
          have HMX := Lib.hid (HE1.out.kp.heap (HKB.out.heap HBM.out id) (by rw [(HZC.out gm HGB.out.2.2.2.2.1 HGB.out.2.2.2.2.2.1).1]; exact sl_zero))
          have HXX := Lib.hid (HE1.out.kp.heap HXB2.out (by rw [(HZC.out gx HGB.out.2.2.2.2.2.2.1 HGB.out.2.2.2.2.2.2.2).1]; exact sl_zero))
          have HVO6 : Hid (ValC (fun j => col1 j = 0) w6 v m) := Lib.hid ((HVW.out _ HKB.out).ext HE1.out sl_zero)
          have HE6 : Hid (Ext B SX col w col1 w6) := Lib.hid ((Ext.quiet HC.out (HKA.out.trans HKB.out)).trans (HE1.out.mono sl_sx))
          clear e1 hA6 hl6
          by_cases her : er = 0
          case neg =>
            have hne : ((er : Int) != 0) = true := by simp only [bne_iff_ne, ne_eq]; omega
            have HRR : Hid (R = ⟨s2, l2, a, msg0, er⟩) := Lib.hid (by rw [← HR4.out]; unfold accW; rw [if_pos her])
            have HG9 := Lib.hid (putM_heap (cs := zeroM) HMX.out rfl)
            clear her
            go_wp2_with (refine wpList_store_msg rfl (.tmp 8) (.tmp 123) rfl gm zeroM rfl rfl (msgCs_one msg0 none 0 loc9) rfl HMX.out rfl ?_)
            refine bodyPost_ret (v := .tuple #[.agg zeroM, .int .i64 (er : Int)]) (by rw [results_msg_tmp rfl _ _ gm _ rfl HG9.out rfl]; rfl) rfl ?_
            rw [HRR.out]
            obtain ⟨f1, f2⟩ := msg_put HE6.out HA6.out (putM_kp (w := w6) (g := gm) zeroM) (HZC.out gm HGB.out.2.2.2.2.1 HGB.out.2.2.2.2.2.1).2 (by have := HG.out; omega)
            exact ⟨⟨col1, none, 0, loc9, rfl, f1, f2, MsgAt.none _ _ _ rfl rfl⟩, HL6.out.mono (by simp)⟩
          subst her
          have kd : Kp Noone w6 w6.drew := (Kp.refl _ _).drew
          have hrp := replay_a B 8 col1 w6.drew q ql a ⟨2, a.epoch, sl9, ⟨r, nd⟩, v⟩ m (HA6.out.ac.keep kd) (HVO6.out.keep kd) (HE6.out.cols.keep kd.size) (by have := HE6.out.size; have := kd.size; have := HB.out; have := HG.out; omega) (by decide) HOK.out.up HVF.out
          unfold recV at hrp
          simp only [] at hrp
          have HS6 : Hid (∀ W, Kp (fun j => SA 8 (col1 j)) w6 W → (W.cell? ⟨gx, 0, none⟩ = some (.int .i64 2) ∧ W.cell? ⟨gx, 1, none⟩ = some (.int .i64 a.epoch) ∧ W.cell? ⟨gx, 2, none⟩ = some (.int .i64 sl9) ∧ W.cell? ⟨gx, 3, none⟩ = some (.int .i64 r)) ∧ W.cell? ⟨gx, 4, none⟩ = some (.int .i64 nd) ∧ W.cell? ⟨gx, 5, none⟩ = some (.int .i64 v.kind) ∧ W.cell? ⟨gx, 6, none⟩ = some (.slice m.co v.cmds.length m.cc) ∧ W.cell? ⟨gx, 7, none⟩ = some (.slice m.no v.next.length m.nc)) := Lib.hid (fun W kk => cells_8v (kk.heap HXX.out (by rw [(HZC.out gx HGB.out.2.2.2.2.2.2.1 HGB.out.2.2.2.2.2.2.2).2]; unfold SA; omega)))
          have hS1 := HS6.out _ kd.none
          obtain ⟨⟨z0, z1, z2, z3⟩, z4, z5, z6, z7⟩ := hS1
          have hS1 := HS6.out _ kd.none
          go_upto_region 20 with fail
          go_region_held3 (fun W => (W.cell? ⟨gx, 0, none⟩ = some (.int .i64 2) ∧ W.cell? ⟨gx, 1, none⟩ = some (.int .i64 a.epoch) ∧ W.cell? ⟨gx, 2, none⟩ = some (.int .i64 sl9) ∧ W.cell? ⟨gx, 3, none⟩ = some (.int .i64 r)) ∧ W.cell? ⟨gx, 4, none⟩ = some (.int .i64 nd) ∧ W.cell? ⟨gx, 5, none⟩ = some (.int .i64 v.kind) ∧ W.cell? ⟨gx, 6, none⟩ = some (.slice m.co v.cmds.length m.cc) ∧ W.cell? ⟨gx, 7, none⟩ = some (.slice m.no v.next.length m.nc))
            (first | with_reducible exact hS1 | with_reducible exact hS2)
            (first | (go_at_call 45; refine hrp.mono ?_; rintro e wt ⟨rfl, ⟨⟨col2, e2, ha7⟩⟩⟩; have hS2 := HS6.out _ (kd.none.trans e2.kp)))
          have HE2 := Lib.hid e2
          have HA7 := Lib.hid ha7
          have HKD := Lib.hid kd
          clear hS1 hS2 hrp z0 z1 z2 z3 z4 z5 z6 z7 e2 ha7 kd
          go_upto_region 21 with fail
          obtain ⟨a2, ha2⟩ : ∃ x, x = replayA a ⟨2, a.epoch, sl9, ⟨r, nd⟩, v⟩ := ⟨_, rfl⟩
          have HRT : Hid (R = ⟨s2, l2, a2, votedM a2 ⟨r, nd⟩ sl9 v, 0⟩) := Lib.hid (by rw [← HR4.out, ha2]; unfold accW; rw [if_neg (by simp)])
          have HSA : Hid (∀ j, w.heap.size ≤ j → j < wB.heap.size → ¬ SA 8 (col1 j)) := Lib.hid (fun j h1 h2 => by rw [(HZC.out j h1 h2).2]; unfold SA; omega)
          have HE : Hid (Ext B SX col w col2 wt) := Lib.hid (HE6.out.trans ((Ext.quiet HE6.out.cols HKD.out).trans (HE2.out.mono sa_sx)))
          have HAT : Hid (AcL col2 wt p ql q s2 l2 a2) := Lib.hid (by rw [ha2]; exact (HA6.out.keep HKD.out).ext_a (HE6.out.cols.keep HKD.out.size) HE2.out HA7.out)
          have HLT : Hid (LI (i + 2) s2 l2) := Lib.hid (HL6.out.mono (by simp))
          have HBT := Lib.hid (HE2.out.kp.heap (HKD.out.heap HBX.out id) (HSA.out gb HGB.out.1 HGB.out.2.1))
          have HVT := Lib.hid (HE2.out.kp.heap (HKD.out.heap HVX.out id) (HSA.out gv HGB.out.2.2.1 HGB.out.2.2.2.1))
          have HGT := Lib.hid (HE2.out.kp.heap (HKD.out.heap HMX.out id) (HSA.out gm HGB.out.2.2.2.2.1 HGB.out.2.2.2.2.2.1))
          have HCT : Hid (col2 gm = 0) := Lib.hid (by
            rw [HE2.out.old gm (by have := HKD.out.size; have := HE1.out.size; have := HGB.out; omega)]
            exact (HZC.out gm HGB.out.2.2.2.2.1 HGB.out.2.2.2.2.2.1).2)
          have HVO : Hid (ValC (fun j => col2 j = 0) wt v m) := Lib.hid ((HVO6.out.keep HKD.out).ext HE2.out (by unfold SA; omega))
          clear ha2
          have hcl := fun W (kk : Kp Noone wt W) => cloneVal_any v m W (HVO.out.keep kk).va (by have := valF_cmds hve.out; omega) (by have := valF_next hve.out; omega)
          unfold valV at hcl
          have HS9 : Hid (∀ W, Kp (fun j => j = gm) wt W → (W.cell? ⟨gb, 0, none⟩ = some (.int .i64 r) ∧ W.cell? ⟨gb, 1, none⟩ = some (.int .i64 nd) ∧ W.cell? ⟨q, 0, none⟩ = some (.int .i64 a2.epoch)) ∧ W.cell? ⟨gv, 0, none⟩ = some (.int .i64 v.kind) ∧ W.cell? ⟨gv, 1, none⟩ = some (.slice m.co v.cmds.length m.cc) ∧ W.cell? ⟨gv, 2, none⟩ = some (.slice m.no v.next.length m.nc)) := Lib.hid (fun W kk => by
            have hqg : q ≠ gb ∧ q ≠ gm ∧ gb ≠ gm ∧ gv ≠ gm := by have := HQB.out; have := HG.out; omega
            obtain ⟨mb, M, h9⟩ := HAT.out.ac
            have hb := kk.heap h9.box hqg.2.1
            unfold acCs at hb
            have c6 := cells_6v hb
            have c2 := cells_2v (kk.heap HBT.out hqg.2.2.1)
            have c3 := cells_3v (kk.heap HVT.out hqg.2.2.2)
            exact ⟨⟨c2.1, c2.2, c6.c0⟩, c3.1, c3.2.1, c3.2.2⟩)
          have kd : Kp Noone wt wt.drew := (Kp.refl _ _).drew
          obtain ⟨⟨x0, x1, x2⟩, x3, x4, x5⟩ := HS9.out _ kd.none
          have hS1 := HS9.out _ (kd.none (S := fun j => j = gm))
          apply wp_region_9 (G := fun (m9 : VLoc) wz => ValOwn (Ex Noone wt wz) wz v m9 ∧ Kp (fun j => j = gm) wt wz ∧ wz.heap[gm]? = some (.cells #[.int .i64 5, .int .i64 0, .int .i64 0, .int .i64 a2.epoch, .int .i64 r, .int .i64 nd, .int .i64 sl9, .int .i64 0, .int .i64 0, .int .i64 v.kind, .slice m9.co v.cmds.length m9.cc, .slice m9.no v.next.length m9.nc, .slice none 0 0, .int .i64 0, .int .i64 0, .int .i64 0, .int .i64 0, .int .i64 0, .int .i64 0, .int .i64 0, .int .i64 0, .int .i64 0, .int .i64 0, .int .i64 0, .slice none 0 0] 46 (0, 0)))
          case h =>
            go_region_held3 (fun W => (W.cell? ⟨gb, 0, none⟩ = some (.int .i64 r) ∧ W.cell? ⟨gb, 1, none⟩ = some (.int .i64 nd) ∧ W.cell? ⟨q, 0, none⟩ = some (.int .i64 a2.epoch)) ∧ W.cell? ⟨gv, 0, none⟩ = some (.int .i64 v.kind) ∧ W.cell? ⟨gv, 1, none⟩ = some (.slice m.co v.cmds.length m.cc) ∧ W.cell? ⟨gv, 2, none⟩ = some (.slice m.no v.next.length m.nc))
              (first | with_reducible exact hS1 | with_reducible exact hS3 | with_reducible exact hS2)
              (first | (go_at_call 46; refine (hcl _ kd).mono ?_; rintro e wv ⟨m9, rfl, hown, kv⟩; have kk := kd.trans kv; have hS3 := HS9.out _ (kk.none (S := fun j => j = gm)); have hgz := kk.heap HGT.out id; have hst : (stM (.pointer (some ⟨gm, 0, none⟩)) (.agg #[.int .i64 5, .int .i64 0, .int .i64 0, .int .i64 a2.epoch, .int .i64 r, .int .i64 nd, .int .i64 sl9, .int .i64 0, .int .i64 0, .int .i64 v.kind, .slice m9.co v.cmds.length m9.cc, .slice m9.no v.next.length m9.nc, .slice none 0 0, .int .i64 0, .int .i64 0, .int .i64 0, .int .i64 0, .int .i64 0, .int .i64 0, .int .i64 0, .int .i64 0, .int .i64 0, .int .i64 0, .int .i64 0, .slice none 0 0])).run Tryz.prog wv = .ok () (putM wv gm #[.int .i64 5, .int .i64 0, .int .i64 0, .int .i64 a2.epoch, .int .i64 r, .int .i64 nd, .int .i64 sl9, .int .i64 0, .int .i64 0, .int .i64 v.kind, .slice m9.co v.cmds.length m9.cc, .slice m9.no v.next.length m9.nc, .slice none 0 0, .int .i64 0, .int .i64 0, .int .i64 0, .int .i64 0, .int .i64 0, .int .i64 0, .int .i64 0, .int .i64 0, .int .i64 0, .int .i64 0, .int .i64 0, .slice none 0 0]) := run_store_msg gm _ (by simp [Value.oneCell']) rfl hgz rfl; have HKM : Hid (Kp (fun j => j = gm) wt (putM wv gm #[.int .i64 5, .int .i64 0, .int .i64 0, .int .i64 a2.epoch, .int .i64 r, .int .i64 nd, .int .i64 sl9, .int .i64 0, .int .i64 0, .int .i64 v.kind, .slice m9.co v.cmds.length m9.cc, .slice m9.no v.next.length m9.nc, .slice none 0 0, .int .i64 0, .int .i64 0, .int .i64 0, .int .i64 0, .int .i64 0, .int .i64 0, .int .i64 0, .int .i64 0, .int .i64 0, .int .i64 0, .int .i64 0, .slice none 0 0])) := Lib.hid ((kk.none (S := fun j => j = gm)).trans (putM_kp _)); have HGZ := Lib.hid (putM_heap (cs := #[.int .i64 5, .int .i64 0, .int .i64 0, .int .i64 a2.epoch, .int .i64 r, .int .i64 nd, .int .i64 sl9, .int .i64 0, .int .i64 0, .int .i64 v.kind, .slice m9.co v.cmds.length m9.cc, .slice m9.no v.next.length m9.nc, .slice none 0 0, .int .i64 0, .int .i64 0, .int .i64 0, .int .i64 0, .int .i64 0, .int .i64 0, .int .i64 0, .int .i64 0, .int .i64 0, .int .i64 0, .int .i64 0, .slice none 0 0]) hgz rfl); have hS2 := HS9.out _ HKM.out))
            all_goals (
              refine NoPanic.normal ⟨rfl, m9, rfl, ?_⟩
              have kp := putM_kp (w := wv) (g := gm) #[.int .i64 5, .int .i64 0, .int .i64 0, .int .i64 a2.epoch, .int .i64 r, .int .i64 nd, .int .i64 sl9, .int .i64 0, .int .i64 0, .int .i64 v.kind, .slice m9.co v.cmds.length m9.cc, .slice m9.no v.next.length m9.nc, .slice none 0 0, .int .i64 0, .int .i64 0, .int .i64 0, .int .i64 0, .int .i64 0, .int .i64 0, .int .i64 0, .int .i64 0, .int .i64 0, .int .i64 0, .int .i64 0, .slice none 0 0]
              exact ⟨(hown.kp kp (fun j d e => by have := d.none; have := kd.size; have := (Array.getElem?_eq_some_iff.1 HGT.out).1; omega)).mono (fun j hj d => by have := d.none; have := kd.size; have := kp.size; exact Or.inr ⟨by omega, by omega⟩), HKM.out, HGZ.out⟩)
          case k =>
            rintro m9 wz ⟨hown, kz, hgz⟩
            have HGZ := Lib.hid hgz
            have HF9 : Hid (MsgTo B col w p ql q R (i + 2) (.returned (.tuple #[.agg #[.int .i64 5, .int .i64 0, .int .i64 0, .int .i64 a2.epoch, .int .i64 r, .int .i64 nd, .int .i64 sl9, .int .i64 0, .int .i64 0, .int .i64 v.kind, .slice m9.co v.cmds.length m9.cc, .slice m9.no v.next.length m9.nc, .slice none 0 0, .int .i64 0, .int .i64 0, .int .i64 0, .int .i64 0, .int .i64 0, .int .i64 0, .int .i64 0, .int .i64 0, .int .i64 0, .int .i64 0, .int .i64 0, .slice none 0 0], .int .i64 0])) wz) := Lib.hid (by
              have hgl := (Array.getElem?_eq_some_iff.1 HGT.out).1
              have hws := HE.out.size
              obtain ⟨f1, f2⟩ := msg_put HE.out HAT.out kz HCT.out (by have := HG.out; omega)
              rw [HRT.out]
              exact ⟨⟨col2, none, 0, m9, rfl, f1, f2, ⟨⟨[], fun _ => False, rfl, Own.nil _ _ _ _ _, fun p hp => by cases hp⟩, hown.mono (fun j hj d => ⟨by have := d.none; omega, cols_new HE.out.cols d.none.1⟩)⟩⟩, HLT.out⟩)
            clear hown kz hgz hcl x0 x1 x2 x3 x4 x5 hS1 kd
            go_wp2_with fail
            refine bodyPost_ret (v := .tuple #[.agg #[.int .i64 5, .int .i64 0, .int .i64 0, .int .i64 a2.epoch, .int .i64 r, .int .i64 nd, .int .i64 sl9, .int .i64 0, .int .i64 0, .int .i64 v.kind, .slice m9.co v.cmds.length m9.cc, .slice m9.no v.next.length m9.nc, .slice none 0 0, .int .i64 0, .int .i64 0, .int .i64 0, .int .i64 0, .int .i64 0, .int .i64 0, .int .i64 0, .int .i64 0, .int .i64 0, .int .i64 0, .int .i64 0, .slice none 0 0], .int .i64 0]) (by rw [results_msg_tmp rfl _ _ gm _ rfl HGZ.out rfl]; rfl) rfl ?_
            exact HF9.out)

end Go.Proofs.YtgbgbokcohfnpaaGreat
