/-
  WalRefH, WalRefI in one text.
-/
import Derived.Test.YtigdhdclfdojgaaGreatWalRefG
/-
  THE WALKS of the document's log: Tail, Next, Recs.
-/
namespace Go.Proofs.YtigdhdclfdojgaaGreat
open Go.RowKit

theorem tailP_get {ps : List PcS} {n : Nat} (h : ps.length = n + 1) (h2 : n < ps.length) : tailP ps = ps[n] := by
  unfold tailP
  rw [List.getLastD_eq_getLast?, List.getLast?_eq_getElem?]
  have e : ps.length - 1 = n := by omega
  rw [e, List.getElem?_eq_getElem h2]
  rfl
def pcV (ro : Option Addr) (rc : Nat) (p : PcS) : Value := .agg #[.int .i64 (p.num : Int), .int .i64 (p.first : Int), .slice ro p.recs.length rc]
/-- What Tail answers. -/
structure TailTo (P : Nat → Prop) (w : World) (p : PcS) (e : Ending) (w' : World) : Prop where
  ex : ∃ ro rc, e = .returned (pcV ro rc p) ∧ RRec P w' ro p.recs.length rc p.recs ∧ Kp Noone w w'
theorem info_pieceS : (Tryz.prog.info? 57).map (·.size) = some 3 := by kernel_rfl
set_option maxHeartbeats 2000000 in
set_option maxRecDepth 100000 in
theorem tail_ref (P : Nat → Prop) (ao : Option Addr) (cap : Nat) (po : Option Addr) (pc : Nat) (m : RLog) (w : World) (hps : RPs P w po m.ps.length pc m.ps) (h0 : m.ps ≠ []) (hpl : m.ps.length ≤ 1000000) :
    Calls Tryz.prog 43 #[rlV ao cap po pc m] w fun e w' => TailTo P w (tailP m.ps) e w' := by
  obtain ⟨n, hn⟩ : ∃ n, m.ps.length = n + 1 := ⟨m.ps.length - 1, by have := List.length_pos_iff.2 h0; omega⟩
  have hnl : n < m.ps.length := by omega
  have ht := tailP_get hn hnl
  rw [ht]
  obtain ⟨b, off, ro, rc, rfl, hbl, -, c0, c1, c2, hr⟩ := hps.get n hnl
  have kA : ∀ A B : Obj, Kp Noone w ((w.alloc A).alloc B) := fun A B => ((Kp.refl _ _).alloc _).alloc _
  have hw : IntKind.i64.wrap (((n + 1 : Nat) : Int) - 1) = (n : Int) := by rw [IntWalk.i64_in _ (by omega)]; omega
  have hw3 : IntKind.i64.wrap (n : Int) = (n : Int) := IntWalk.i64_in _ (by omega)
  have hni : (n : Int) < ((n + 1 : Nat) : Int) := by omega
  have HR := Lib.hid hr
  obtain ⟨hx, hy, -, -⟩ := two_new w (.cells (rlC ao cap (some ⟨b, off, none⟩) pc m) 37) (.cells #[.int .i64 0, .int .i64 0, .slice none 0 0] 57)
  have d0 := fun A B => (kA A B).cell c0 id
  have d1 := fun A B => (kA A B).cell c1 id
  have d2 := fun A B => (kA A B).cell c2 id
  have HKA := Lib.hid kA
  generalize m.ps[n] = p at *
  unfold rlV
  unfold rlC at *
  rw [hn] at hx hy ⊢
  clear hr ht hps hpl h0 kA c0 c1 c2
  go_enter Tryz.func43, Tryz.ntmps43
  go_wp2_with fail
  refine bodyPost_ret (v := pcV ro rc p) (results_cell_row (ty := 57) rfl _ _ (w.heap.size + 1) _ _ _ _ rfl (two_new w _ _).2.1 Tryz.underlying57 rfl (by rw [info_pieceS]; rfl)) rfl ?_
  exact ⟨⟨ro, rc, rfl, HR.out.keep (HKA.out _ _), HKA.out _ _⟩⟩
theorem tail_ex (P : Nat → Prop) (ao : Option Addr) (cap : Nat) (po : Option Addr) (pc : Nat) (m : RLog) (w : World) (hps : RPs P w po m.ps.length pc m.ps) (h0 : m.ps ≠ []) (hpl : m.ps.length ≤ 1000000) :
    Calls Tryz.prog 43 #[.agg #[.slice ao m.d.L.length cap, .int .i64 m.d.room, .int .i64 m.d.steps, .int .i64 m.d.fuse, .bool m.d.down, .int .i64 (m.lim : Int), .slice po m.ps.length pc, .bool m.shut]] w fun e w' =>
      ∃ ro rc, e = .returned (.agg #[.int .i64 ((tailP m.ps).num : Int), .int .i64 ((tailP m.ps).first : Int), .slice ro (tailP m.ps).recs.length rc]) ∧ RRec P w' ro (tailP m.ps).recs.length rc (tailP m.ps).recs ∧ Kp Noone w w' :=
  (tail_ref P ao cap po pc m w hps h0 hpl).mono (fun _ _ h => h.ex)
theorem field_pc (a b : Int) (ro : Option Addr) (n rc : Nat) (w : World) : (Instr.field 57 (.agg #[.int .i64 a, .int .i64 b, .slice ro n rc]) 0).run Tryz.prog w = .ok (.int .i64 a) w ∧ (Instr.field 57 (.agg #[.int .i64 a, .int .i64 b, .slice ro n rc]) 1).run Tryz.prog w = .ok (.int .i64 b) w ∧ (Instr.field 57 (.agg #[.int .i64 a, .int .i64 b, .slice ro n rc]) 2).run Tryz.prog w = .ok (.slice ro n rc) w := ⟨by kernel_rfl, by kernel_rfl, by kernel_rfl⟩
set_option maxHeartbeats 4000000 in
set_option maxRecDepth 100000 in
theorem next_ref (P : Nat → Prop) (ao : Option Addr) (cap : Nat) (po : Option Addr) (pc : Nat) (m : RLog) (w : World) (hps : RPs P w po m.ps.length pc m.ps) (h0 : m.ps ≠ []) (hpl : m.ps.length ≤ 1000000) (hb : nextP9 m.ps ≤ 4611686018427387904) :
    Calls Tryz.prog 17 #[.agg #[.slice ao m.d.L.length cap, .int .i64 m.d.room, .int .i64 m.d.steps, .int .i64 m.d.fuse, .bool m.d.down, .int .i64 (m.lim : Int), .slice po m.ps.length pc, .bool m.shut]] w fun e w' => e = .returned (.int .i64 (nextP9 m.ps : Int)) ∧ Kp Noone w w' := by
  have kA : Kp Noone w (w.alloc (.cells #[.slice ao m.d.L.length cap, .int .i64 m.d.room, .int .i64 m.d.steps, .int .i64 m.d.fuse, .bool m.d.down, .int .i64 (m.lim : Int), .slice po m.ps.length pc, .bool m.shut] 37)) := (Kp.refl _ _).alloc _
  have hx := heap_alloc_new w (.cells #[.slice ao m.d.L.length cap, .int .i64 m.d.room, .int .i64 m.d.steps, .int .i64 m.d.fuse, .bool m.d.down, .int .i64 (m.lim : Int), .slice po m.ps.length pc, .bool m.shut] 37)
  have htl := fun (W : World) (k : Kp Noone w W) => tail_ex P ao cap po pc m W (hps.keep k) h0 hpl
  have hwr : IntKind.i64.wrap (((tailP m.ps).first : Int) + ((tailP m.ps).recs.length : Int)) = (nextP9 m.ps : Int) := by
    unfold nextP9 at hb ⊢
    rw [IntWalk.i64_in _ (by omega)]
    omega
  have HKA := Lib.hid kA
  have hf1 := fun (ro : Option Addr) (rc : Nat) (W : World) => (field_pc (tailP m.ps).num (tailP m.ps).first ro (tailP m.ps).recs.length rc W).2.1
  have hf2 := fun (ro : Option Addr) (rc : Nat) (W : World) => (field_pc (tailP m.ps).num (tailP m.ps).first ro (tailP m.ps).recs.length rc W).2.2
  clear hps h0 hpl hb
  generalize nextP9 m.ps = nx at *
  generalize tailP m.ps = t at *
  go_enter Tryz.func17, Tryz.ntmps17
  go_upto_region 1 with fail
  generalize w.alloc (.cells #[.slice ao m.d.L.length cap, .int .i64 m.d.room, .int .i64 m.d.steps, .int .i64 m.d.fuse, .bool m.d.down, .int .i64 (m.lim : Int), .slice po m.ps.length pc, .bool m.shut] 37) = wA at *
  generalize w.heap.size = gx at *
  have k0 : Kp Noone wA wA.drew := (Kp.refl _ _).drew
  obtain ⟨⟨y0, y1, y2, y3⟩, ⟨y4, y5, y6, y7⟩, -⟩ := cells_8 (k0.heap hx id)
  clear kA
  apply wp_region_four (G := fun _ _ _ _ wz => Kp Noone wA wz)
  case h =>
    first
      | (go_region_law (first
          | (go_simp; go_at_call 43; have hff := hflag; refine (htl _ (HKA.out.trans k0)).mono ?_; rintro e wu ⟨ro2, rc2, rfl, -, ku⟩; have k0 := k0.trans ku)
          | (go_simp; go_at_call 43; refine (htl _ (HKA.out.trans k0)).mono ?_; rintro e wt ⟨ro, rc, rfl, -, kt⟩; have k0 := k0.trans kt; have hflag : True := trivial; obtain ⟨⟨y0, y1, y2, y3⟩, ⟨y4, y5, y6, y7⟩, -⟩ := cells_8 (k0.heap hx id))))
      | fail
    all_goals (
      refine NoPanic.normal ⟨rfl, ro, rc, ro2, rc2, rfl, ?_⟩
      exact k0)
  case k =>
    intro ro rc ro2 rc2 w3 k3
    have HK3 := Lib.hid (HKA.out.trans k3)
    clear k0 k3 htl y0 y1 y2 y3 y4 y5 y6 y7
    go_wp2_with fail
    go_ret
    exact ⟨rfl, HK3.out⟩

end Go.Proofs.YtigdhdclfdojgaaGreat

/-
  THE WALK of the document's log: Sync.
-/
namespace Go.Proofs.YtigdhdclfdojgaaGreat
open Go.RowKit

/-- Bounds of the document's log. -/
structure RBd (m : RLog) : Prop where
  ne : m.ps ≠ []
  len : m.ps.length ≤ 100000
  nums : ∀ p ∈ m.ps, p.num ≤ 999999
  firsts : ∀ p ∈ m.ps, p.first + p.recs.length ≤ 4611686018427387904
  size : ∀ p ∈ m.ps, (pieceD p).length ≤ 28147497
theorem tailP_mem {ps : List PcS} (h : ps ≠ []) : tailP ps ∈ ps := by
  unfold tailP
  rw [List.getLastD_eq_getLast?, List.getLast?_eq_some_getLast h]
  exact List.getLast_mem h
attribute [local irreducible] putD doE putL9 stepR walName headerL

set_option maxHeartbeats 8000000 in
set_option maxRecDepth 100000 in
theorem sync_ref (P : Nat → Prop) (ao : Option Addr) (cap : Nat) (po : Option Addr) (pc : Nat) (m : RLog) (s : DS) (l : LogP) (w : World) (h : RA P w ao m.d.L.length cap m.d.L) (hps : RPs P w po m.ps.length pc m.ps) (hP : ∀ j, w.heap.size ≤ j → P j) (hs : SimW m s l) (hd : DOk s) (hbd : RBd m) (hst : s.steps < 4611686018427387900) :
    Calls Tryz.prog 39 #[rlV ao cap po pc m] w fun e w' => LogTo P w (syncR m) e w' := by
  obtain ⟨RES, hRES⟩ : ∃ x, Hid (syncR m = x) := ⟨_, Lib.hid rfl⟩
  rw [hRES.out]
  have HR := hRES.out
  unfold syncR at HR
  have hnum := hbd.nums _ (tailP_mem hbd.ne)
  have hlen := hbd.len
  obtain ⟨hx, hr, kA, eA⟩ := two_new w (.cells (rlC ao cap po pc m) 37) (.cells rl0C 37)
  have HRR := Lib.hid HR
  clear hRES HR
  conv => unfold rlV
  simp only [rlC, rl0C] at hx hr kA eA ⊢
  have hNx := fun W => name_ref (tailP m.ps).num W hnum
  have HTL := Lib.hid (fun (P' : Nat → Prop) (W : World) (hq : RPs P' W po m.ps.length pc m.ps) => tail_ex P' ao cap po pc m W hq hbd.ne (by omega))
  have HS1 := fun (P' : Nat → Prop) (W : World) (hr : RA P' W ao m.d.L.length cap m.d.L) (hp : ∀ j, W.heap.size ≤ j → P' j) => step_ex P' ao cap po pc m s (oSync (walName (tailP m.ps).num)) none 0 0 W hr hp hs.d hd (op_sync (walName_le _)) (BS.nil _ _) rfl (by omega)
  have hps1 : (stepR m (oSync (walName (tailP m.ps).num))).1.ps = m.ps := by unfold stepR; rfl
  have hf0 := fun (ro : Option Addr) (rc : Nat) (W : World) => (field_pc (tailP m.ps).num (tailP m.ps).first ro (tailP m.ps).recs.length rc W).1
  generalize stepR m (oSync (walName (tailP m.ps).num)) = r1 at *
  obtain ⟨m1, e1⟩ := r1
  simp only [] at hps1 HS1
  have HPE := Lib.hid hps1
  clear hps1 hnum hlen hst
  generalize tailP m.ps = t at *
  go_enter Tryz.func39, Tryz.ntmps39
  go_upto_region 1 with fail
  generalize (w.alloc (.cells #[.slice ao m.d.L.length cap, .int .i64 m.d.room, .int .i64 m.d.steps, .int .i64 m.d.fuse, .bool m.d.down, .int .i64 (m.lim : Int), .slice po m.ps.length pc, .bool m.shut] 37)).alloc (.cells #[.slice none 0 0, .int .i64 0, .int .i64 0, .int .i64 0, .bool false, .int .i64 0, .slice none 0 0, .bool false] 37) = wA at *
  generalize hgr : w.heap.size + 1 = gr at *
  generalize hgx : w.heap.size = gx at *
  have HP' : Hid (∀ j, wA.heap.size ≤ j → P j ∧ j ≠ gx ∧ j ≠ gr) := Lib.hid (fun j hj => ⟨hP j (by omega), by omega, by omega⟩)
  have HRA := Lib.hid ((h.mono (Q := fun j => P j ∧ j ≠ gx ∧ j ≠ gr) (fun j hj c => ⟨c, by omega, by omega⟩)).keep kA)
  have HPS := Lib.hid ((hps.mono (Q := fun j => P j ∧ j ≠ gx ∧ j ≠ gr) (fun j hj c => ⟨c, by omega, by omega⟩)).keep kA)
  have HKA := Lib.hid kA
  clear h hps kA hP
  have hcs : (m.shut = true ∨ (m.shut = false ∧ m.d.down = true)) ∨ (m.shut = false ∧ m.d.down = false) := by
    cases m.shut with
    | true => exact Or.inl (Or.inl rfl)
    | false =>
      cases m.d.down with
      | true => exact Or.inl (Or.inr ⟨rfl, rfl⟩)
      | false => exact Or.inr ⟨rfl, rfl⟩
  obtain ⟨⟨y0, y1, y2, y3⟩, ⟨y4, y5, y6, y7⟩, yf⟩ := cells_8 hx
  rcases hcs with hc | ⟨hc1, hc2⟩
  · have HR2 := HRR.out
    rw [if_pos (hc.elim Or.inl (fun c => Or.inr c.2))] at HR2
    subst HR2
    have k4 := (Kp.refl (fun j => j = gx) wA).setCell (p := ⟨gx, 7, none⟩) (fun _ => rfl) (.bool true)
    have hx4 : (wA.setCell ⟨gx, 7, none⟩ (.bool true)).heap[gx]? = some (.cells (rlC ao cap po pc (shutR m)) 37 (0, 0)) := (heap_set_cell hx).trans (by simp [rlC, shutR])
    have hr4 := k4.heap hr (by omega)
    have HRA4 := Lib.hid (HRA.out.kp k4 (fun j _ c e => c.2.1 e))
    have HPS4 := Lib.hid (HPS.out.kp k4 (fun j _ c e => c.2.1 e))
    have HK4 := Lib.hid (HKA.out.fin k4 (fun j e => Or.inr (by omega)))
    have yf7 := yf 7
    unfold rlC at hx4
    have HX4 := Lib.hid (cells_8 hx4)
    clear k4 hx4 hNx HS1 hf0
    rcases hc with hc | ⟨hc1, hc2⟩
    case' inl =>
      go_upto_region 3 with fail
      clear hc
    case' inr =>
      go_upto_region 3 with fail
      clear hc1 hc2
    all_goals (
      clear y0 y1 y2 y3 y4 y5 y6 y7 yf yf7
      generalize wA.setCell ⟨gx, 7, none⟩ (.bool true) = w4 at *
      obtain ⟨⟨y0, y1, y2, y3⟩, ⟨y4, y5, y6, y7⟩, -⟩ := HX4.out
      have hput := putL9_heap ao cap po pc (shutR m) hr4
      have kL := putL9_kp w4 gr ao cap po pc (shutR m)
      go_wp2_with (refine wpList_store_rlog rfl (.tmp 2) (.tmp 12) rfl gr ao cap po pc (shutR m) (by rfl) (by rfl) hr4 ?_)
      refine bodyPost_ret (v := .tuple #[rlV ao cap po pc (shutR m), .int .i64 2]) (by rw [results_rlog_tmp rfl _ _ gr _ rfl hput rfl]; rfl) rfl ?_
      exact ⟨⟨ao, cap, po, pc, rfl, (HRA4.out.kp kL (fun j _ c e => c.2.2 e)).mono (fun j _ c => c.1), (HPS4.out.kp kL (fun j _ c e => c.2.2 e)).mono (fun j _ c => c.1), HK4.out.fin kL (fun j e => Or.inr (by omega))⟩⟩)
  · have HR2 := HRR.out
    rw [if_neg (by rw [hc1, hc2]; simp)] at HR2
    subst HR2
    rw [hc1] at y7
    rw [hc2] at y4
    go_upto_region 4 with fail
    clear y0 y1 y2 y3 y4 y5 y6 y7 yf hc1 hc2
    have k0 : Kp Noone wA wA.drew := (Kp.refl _ _).drew
    obtain ⟨⟨y0, y1, y2, y3⟩, ⟨y4, y5, y6, y7⟩, -⟩ := cells_8 (k0.heap hx id)
    apply wp_region_four (G := fun _ _ o1 c1 wz => wz.heap[gr]? = some (.cells (rlC o1 c1 po pc m1) 37 (0, 0)) ∧ RA (fun j => P j ∧ j ≠ gx ∧ j ≠ gr) wz o1 m1.d.L.length c1 m1.d.L ∧ Kp (fun j => j = gr) wA wz)
    case h =>
      first
        | (go_region_law (first
            | (go_simp; go_at_call 43; refine (HTL.out _ _ (HPS.out.keep k0)).mono ?_; rintro e wt ⟨ro, rc, rfl, -, kt⟩; have k0 := k0.trans kt; obtain ⟨⟨y0, y1, y2, y3⟩, ⟨y4, y5, y6, y7⟩, -⟩ := cells_8 (k0.heap hx id))
            | (go_simp; go_at_call 58; refine (hNx _).mono ?_; rintro e wn ⟨rfl, kn⟩; have k0 := k0.trans kn; obtain ⟨⟨y0, y1, y2, y3⟩, ⟨y4, y5, y6, y7⟩, -⟩ := cells_8 (k0.heap hx id))
            | (go_simp; go_at_call 57; refine (HS1 (fun j => P j ∧ j ≠ gx ∧ j ≠ gr) _ (HRA.out.keep k0) (fun j hj => HP'.out j (Nat.le_trans k0.size hj))).mono ?_; rintro e w4 ⟨o1, c1, rfl, hra4, k4⟩; have k0 := k0.trans k4; obtain ⟨⟨u0, u1, u2, u3⟩, ⟨u4, u5, u6, u7⟩, uf⟩ := cells_8 (k0.heap hr id); have uf0 := uf 0; have uf1 := uf 1; have uf2 := uf 2; have uf3 := uf 3; have uf4 := uf 4; have uf5 := uf 5; have uf6 := uf 6; have uf7 := uf 7)))
        | fail
      all_goals (
        refine NoPanic.normal ⟨rfl, ro, rc, o1, c1, rfl, ?_⟩
        exact ⟨set8_heap (k0.heap hr id) _ _ _ _ _ _ _ _, hra4.kp (set8_kp (Kp.refl (fun j => j = gr) w4) (g := gr) rfl _ _ _ _ _ _ _ _) (fun j _ c e => c.2.2 e), set8_kp (Kp.none (S := fun j => j = gr) k0) (g := gr) rfl _ _ _ _ _ _ _ _⟩)
    case k =>
      intro ro rc o1 c1 w2 hG
      obtain ⟨hr2, hra2, k2⟩ := hG
      have HRA2 := Lib.hid hra2
      have HPS2 := Lib.hid (HPS.out.kp k2 (fun j _ c e => c.2.2 e))
      have HK2 := Lib.hid (HKA.out.fin k2 (fun j e => Or.inr (by omega)))
      clear hra2 k2 k0 y0 y1 y2 y3 y4 y5 y6 y7 HS1 hNx hf0
      go_wp2_with fail
      refine bodyPost_ret (v := .tuple #[rlV o1 c1 po pc m1, .int .i64 (e1 : Int)]) (by rw [results_rlog_tmp rfl _ _ gr _ rfl hr2 rfl]; rfl) rfl ?_
      refine ⟨⟨o1, c1, po, pc, rfl, HRA2.out.mono (fun j _ c => c.1), ?_, HK2.out⟩⟩
      simp only [HPE.out]
      exact HPS2.out.mono (fun j _ c => c.1)

end Go.Proofs.YtigdhdclfdojgaaGreat

