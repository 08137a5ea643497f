/-
  THE WALK of the document's log: Trim.
-/
import Derived.Test.YtigdhdclfdojgaaGreatWalRefHI
namespace Go.Proofs.YtigdhdclfdojgaaGreat
open Go.RowKit

theorem RPs.tail {P : Nat → Prop} {w : World} {g off n cap : Nat} {a : PcS} {ps : List PcS} (h : RPs P w (some ⟨g, off, none⟩) n cap (a :: ps)) (hn : 1 ≤ n) : RPs P w (some ⟨g, off + 3, none⟩) (n - 1) (cap - 1) ps := by
  have hl := h.len
  rw [List.length_cons] at hl
  refine ⟨by omega, by have := h.le; omega, by have := h.max; omega, fun i hi => ?_⟩
  obtain ⟨b, o2, ro, rc, h1, h2, h3, h4, h5, h6, h7⟩ := h.get (i + 1) (by rw [List.length_cons]; omega)
  cases h1
  simp only [List.getElem_cons_succ] at h4 h5 h6 h7
  have e : off + 3 + i * 3 = off + (i + 1) * 3 := by omega
  exact ⟨g, off + 3, ro, rc, rfl, h2, h3, by rw [e]; exact h4, by rw [e]; exact h5, by rw [e]; exact h6, h7⟩
theorem trimRL_short {idx : Int} {ps : List PcS} (h : ¬ 1 < ps.length) (m : RLog) : trimRL idx ps m = (m, 0) := by
  match ps, h with
  | [], _ => rfl
  | [_], _ => rfl
  | _ :: _ :: _, h => exact absurd (by simp) h
theorem trimRL_cons (idx : Int) (a b : PcS) (r : List PcS) (l : RLog) : trimRL idx (a :: b :: r) l = if (b.first : Int) ≤ idx then (if (stepR l (oDrop (walName a.num))).2 ≠ 0 then stepR l (oDrop (walName a.num)) else trimRL idx (b :: r) ⟨(stepR l (oDrop (walName a.num))).1.d, l.lim, b :: r, (stepR l (oDrop (walName a.num))).1.shut⟩) else (l, 0) := rfl
theorem trim_one {m : RLog} {s : DS} {l : LogP} {a b : PcS} {r : List PcS} (h : SimW m s l) (e : m.ps = a :: b :: r) (hd : DOk s) (hst : s.steps < 4611686018427387900) (h0 : (stepR m (oDrop (walName a.num))).2 = 0) :
    SimW ⟨(stepR m (oDrop (walName a.num))).1.d, m.lim, b :: r, (stepR m (oDrop (walName a.num))).1.shut⟩ (dropF s (walName a.num)).1 { l with pieces := heads (b :: r) } ∧ DOk (dropF s (walName a.num)).1 ∧ (dropF s (walName a.num)).1.steps ≤ s.steps + 1 := by
  have a1 := sim_drop h.d hd (walName a.num)
  have d1 := dropF_ok hd (walName a.num) (by omega)
  have s1 := dropF_steps s (walName a.num)
  have b1 := step_sim h a1
  have bb := step_zero h a1 (by rw [← b1.2, h0]; simp)
  have hl := h.last (by rw [e]; simp)
  rw [e] at hl
  refine ⟨⟨bb.d, h.lim, rfl, bb.shut, fun _ => ?_⟩, d1, by omega⟩
  have e1 : tailP (a :: b :: r) = tailP (b :: r) := by simp [tailP]
  unfold nextP9 at hl ⊢
  rw [e1] at hl
  exact hl
/-- Between two rounds of Trim. -/
structure TrQ (P : Nat → Prop) (wA : World) (gx gr : Nat) (idx : Int) (s0 : DS) (RES : RLE) (wr : World) : Prop where
  ex : ∃ ao cap po pc m s l, wr.heap[gx]? = some (.cells (rlC ao cap po pc m) 37 (0, 0)) ∧ wr.heap[gr]? = some (.cells rl0C 37 (0, 0)) ∧ RA (fun j => P j ∧ j ≠ gx ∧ j ≠ gr) wr ao m.d.L.length cap m.d.L ∧ RPs (fun j => P j ∧ j ≠ gx ∧ j ≠ gr) wr po m.ps.length pc m.ps ∧ Kp (fun j => j = gx) wA wr ∧
    SimW m s l ∧ DOk s ∧ RBd m ∧ s.steps + m.ps.length ≤ s0.steps + 100000 ∧ trimRL idx m.ps m = RES
def len9 (g : Nat) (w : World) : Nat := match w.cell? ⟨g, 6, none⟩ with
  | some (.slice _ n _) => n
  | _ => 0
attribute [local irreducible] putD doE putL9 stepR walName headerL trimRL

set_option maxHeartbeats 8000000 in
set_option maxRecDepth 100000 in
theorem trim_ref (P : Nat → Prop) (ao : Option Addr) (cap : Nat) (po : Option Addr) (pc : Nat) (m : RLog) (s : DS) (l : LogP) (idx : Int) (w : World) (h : RA P w ao m.d.L.length cap m.d.L) (hps : RPs P w po m.ps.length pc m.ps) (hP : ∀ j, w.heap.size ≤ j → P j) (hs : SimW m s l) (hd : DOk s) (hbd : RBd m) (hst : s.steps < 4611686018427000000) :
    Calls Tryz.prog 41 #[rlV ao cap po pc m, .int .i64 idx] w fun e w' => LogTo P w (trimR m idx) e w' := by
  obtain ⟨RES, hRES⟩ : ∃ x, Hid (trimR m idx = x) := ⟨_, Lib.hid rfl⟩
  rw [hRES.out]
  have HR := hRES.out
  unfold trimR at HR
  have hlen := hbd.len
  obtain ⟨hx, hr, kA, eA⟩ := two_new w (.cells (rlC ao cap po pc m) 37) (.cells rl0C 37)
  have HRR := Lib.hid HR
  clear hRES HR
  conv => unfold rlV
  simp only [rlC, rl0C] at hx hr kA eA ⊢
  have HH := Lib.hid (And.intro hs (And.intro hd (And.intro hbd hst)))
  clear hs hd hbd hst hlen
  go_enter Tryz.func41, Tryz.ntmps41
  go_upto_region 1 with fail
  generalize (w.alloc (.cells #[.slice ao m.d.L.length cap, .int .i64 m.d.room, .int .i64 m.d.steps, .int .i64 m.d.fuse, .bool m.d.down, .int .i64 (m.lim : Int), .slice po m.ps.length pc, .bool m.shut] 37)).alloc (.cells #[.slice none 0 0, .int .i64 0, .int .i64 0, .int .i64 0, .bool false, .int .i64 0, .slice none 0 0, .bool false] 37) = wA at *
  generalize hgr : w.heap.size + 1 = gr at *
  generalize hgx : w.heap.size = gx at *
  have HP' : Hid (∀ j, wA.heap.size ≤ j → P j ∧ j ≠ gx ∧ j ≠ gr) := Lib.hid (fun j hj => ⟨hP j (by omega), by omega, by omega⟩)
  have HRA := Lib.hid ((h.mono (Q := fun j => P j ∧ j ≠ gx ∧ j ≠ gr) (fun j hj c => ⟨c, by omega, by omega⟩)).keep kA)
  have HPS := Lib.hid ((hps.mono (Q := fun j => P j ∧ j ≠ gx ∧ j ≠ gr) (fun j hj c => ⟨c, by omega, by omega⟩)).keep kA)
  have HKA := Lib.hid kA
  clear h hps kA hP
  have hcs : (m.shut = true ∨ (m.shut = false ∧ m.d.down = true)) ∨ (m.shut = false ∧ m.d.down = false) := by
    cases m.shut with
    | true => exact Or.inl (Or.inl rfl)
    | false =>
      cases m.d.down with
      | true => exact Or.inl (Or.inr ⟨rfl, rfl⟩)
      | false => exact Or.inr ⟨rfl, rfl⟩
  obtain ⟨⟨y0, y1, y2, y3⟩, ⟨y4, y5, y6, y7⟩, yf⟩ := cells_8 hx
  rcases hcs with hc | ⟨hc1, hc2⟩
  · have HR2 := HRR.out
    rw [if_pos (hc.elim Or.inl (fun c => Or.inr c.2))] at HR2
    subst HR2
    have k4 := (Kp.refl (fun j => j = gx) wA).setCell (p := ⟨gx, 7, none⟩) (fun _ => rfl) (.bool true)
    have hx4 : (wA.setCell ⟨gx, 7, none⟩ (.bool true)).heap[gx]? = some (.cells (rlC ao cap po pc (shutR m)) 37 (0, 0)) := (heap_set_cell hx).trans (by simp [rlC, shutR])
    have hr4 := k4.heap hr (by omega)
    have HRA4 := Lib.hid (HRA.out.kp k4 (fun j _ c e => c.2.1 e))
    have HPS4 := Lib.hid (HPS.out.kp k4 (fun j _ c e => c.2.1 e))
    have HK4 := Lib.hid (HKA.out.fin k4 (fun j e => Or.inr (by omega)))
    have yf7 := yf 7
    unfold rlC at hx4
    have HX4 := Lib.hid (cells_8 hx4)
    clear k4 hx4
    rcases hc with hc | ⟨hc1, hc2⟩
    case' inl =>
      go_upto_region 3 with fail
      clear hc
    case' inr =>
      go_upto_region 3 with fail
      clear hc1 hc2
    all_goals (
      clear y0 y1 y2 y3 y4 y5 y6 y7 yf yf7
      generalize wA.setCell ⟨gx, 7, none⟩ (.bool true) = w4 at *
      obtain ⟨⟨y0, y1, y2, y3⟩, ⟨y4, y5, y6, y7⟩, -⟩ := HX4.out
      have hput := putL9_heap ao cap po pc (shutR m) hr4
      have kL := putL9_kp w4 gr ao cap po pc (shutR m)
      go_wp2_with (refine wpList_store_rlog rfl (.tmp 4) (.tmp 16) rfl gr ao cap po pc (shutR m) (by rfl) (by rfl) hr4 ?_)
      refine bodyPost_ret (v := .tuple #[rlV ao cap po pc (shutR m), .int .i64 2]) (by rw [results_rlog_tmp rfl _ _ gr _ rfl hput rfl]; rfl) rfl ?_
      exact ⟨⟨ao, cap, po, pc, rfl, (HRA4.out.kp kL (fun j _ c e => c.2.2 e)).mono (fun j _ c => c.1), (HPS4.out.kp kL (fun j _ c e => c.2.2 e)).mono (fun j _ c => c.1), HK4.out.fin kL (fun j e => Or.inr (by omega))⟩⟩)
  · have HR2 := HRR.out
    rw [if_neg (by rw [hc1, hc2]; simp)] at HR2
    clear HRR
    have R0 : Hid (TrQ P wA gx gr idx s RES wA) := Lib.hid ⟨⟨ao, cap, po, pc, m, s, l, hx, hr, HRA.out, HPS.out, Kp.refl _ _, HH.out.1, HH.out.2.1, HH.out.2.2.1, by have := HH.out.2.2.1.len; omega, HR2⟩⟩
    have HST := Lib.hid HH.out.2.2.2
    rw [hc1] at y7
    rw [hc2] at y4
    clear HR2 HH
    go_wp2_with fail
    clear y0 y1 y2 y3 y4 y5 y6 y7 yf hc1 hc2 hx hr HRA HPS
    go_loopw [7] (fun _ wr => TrQ P wA gx gr idx s RES wr) (fun _ wr => len9 gx wr)
    case atStart => exact R0.out
    case round =>
      clear R0
      obtain ⟨ao2, cap2, po2, pc2, m2, s2, l2, hx2, hr2, hra2, hps2, k2, hs2, hd2, hbd2, hst2, hf2⟩ := hrel.ex
      clear hrel
      have hz2 := k2.size
      have HFIN : Hid (∀ W, Kp (fun j => j = gr) wr W → trimRL idx m2.ps m2 = (m2, 0) → LogTo P w RES (.returned (.tuple #[rlV ao2 cap2 po2 pc2 m2, .int .i64 0])) W) := Lib.hid (fun W k e => by
        rw [hf2] at e
        rw [e]
        exact ⟨⟨ao2, cap2, po2, pc2, rfl, (hra2.kp k (fun j _ c e => c.2.2 e)).mono (fun j _ c => c.1), (hps2.kp k (fun j _ c e => c.2.2 e)).mono (fun j _ c => c.1), (HKA.out.fin k2 (fun j e => Or.inr (by omega))).fin k (fun j e => Or.inr (by omega))⟩⟩)
      have hput2 := putL9_heap ao2 cap2 po2 pc2 m2 hr2
      have kL2 := putL9_kp wr gr ao2 cap2 po2 pc2 m2
      have HPUT := Lib.hid (And.intro hput2 kL2)
      clear hput2 kL2
      simp only [rlC, rl0C] at hx2 hr2
      by_cases h1 : 1 < m2.ps.length
      case neg =>
        have HQ := Lib.hid (HFIN.out _ HPUT.out.2 (trimRL_short h1 m2))
        have h1i : ¬ (1 : Int) < (m2.ps.length : Int) := by omega
        obtain ⟨⟨y0, y1, y2, y3⟩, ⟨y4, y5, y6, y7⟩, -⟩ := cells_8 hx2
        clear HFIN hra2 hps2 hs2 hd2 hbd2 hst2 hf2
        go_wp2_with (refine wpList_store_rlog rfl (.tmp 4) (.tmp 51) rfl gr ao2 cap2 po2 pc2 m2 (by rfl) (by rfl) hr2 ?_)
        refine bodyPost_ret (v := .tuple #[rlV ao2 cap2 po2 pc2 m2, .int .i64 0]) (by rw [results_rlog_tmp rfl _ _ gr _ rfl HPUT.out.1 rfl]; rfl) rfl ?_
        exact HQ.out
      obtain ⟨a, b, r, hpe⟩ : ∃ a b r, m2.ps = a :: b :: r := by
        cases hq : m2.ps with
        | nil => rw [hq] at h1; simp at h1
        | cons a t =>
          cases t with
          | nil => rw [hq] at h1; simp at h1
          | cons b r => exact ⟨a, b, r, rfl⟩
      obtain ⟨g, off, ro0, rc0, hpo, hgl, hgP, c0, -⟩ := hps2.get 0 (by omega)
      obtain ⟨g', off', ro1, rc1, hpo', -, -, -, c1, -⟩ := hps2.get 1 h1
      subst hpo
      cases hpo'
      simp only [hpe, List.getElem_cons_zero, List.getElem_cons_succ] at c0 c1
      rw [Nat.zero_mul, Nat.add_zero] at c0
      have h1i : (1 : Int) < (m2.ps.length : Int) := by omega
      have h0i : (0 : Int) < (m2.ps.length : Int) := by omega
      have h0n : 0 < m2.ps.length := by omega
      have hlen2 := hbd2.len
      have HPE := Lib.hid hpe
      clear hpe
      by_cases hidx : (b.first : Int) ≤ idx
      case neg =>
        have HQ := Lib.hid (HFIN.out _ HPUT.out.2 (by rw [HPE.out, trimRL_cons, if_neg hidx]))
        obtain ⟨⟨y0, y1, y2, y3⟩, ⟨y4, y5, y6, y7⟩, -⟩ := cells_8 hx2
        clear HFIN hra2 hps2 hs2 hd2 hbd2 hst2 hf2
        go_wp2_with (refine wpList_store_rlog rfl (.tmp 4) (.tmp 51) rfl gr ao2 cap2 (some ⟨g, off, none⟩) pc2 m2 (by rfl) (by rfl) hr2 ?_)
        refine bodyPost_ret (v := .tuple #[rlV ao2 cap2 (some ⟨g, off, none⟩) pc2 m2, .int .i64 0]) (by rw [results_rlog_tmp rfl _ _ gr _ rfl HPUT.out.1 rfl]; rfl) rfl ?_
        exact HQ.out
      clear HFIN HPUT
      have hnum : a.num ≤ 999999 := hbd2.nums a (by rw [HPE.out]; exact List.mem_cons_self ..)
      have hnm := fun W => name_ref a.num W hnum
      have hst3 : s2.steps < 4611686018427387900 := by have := HST.out; omega
      have HS1 := fun (P' : Nat → Prop) (W : World) (hr : RA P' W ao2 m2.d.L.length cap2 m2.d.L) (hp : ∀ j, W.heap.size ≤ j → P' j) => step_ex P' ao2 cap2 (some ⟨g, off, none⟩) pc2 m2 s2 (oDrop (walName a.num)) none 0 0 W hr hp hs2.d hd2 (op_drop (walName_le a.num)) (BS.nil _ _) rfl (by omega)
      have hone := @trim_one m2 s2 l2 a b r hs2 HPE.out hd2 hst3
      have hps1 : (stepR m2 (oDrop (walName a.num))).1.ps = m2.ps := by unfold stepR; rfl
      have hlm1 : (stepR m2 (oDrop (walName a.num))).1.lim = m2.lim := by unfold stepR; rfl
      have hf3 := hf2
      rw [HPE.out, trimRL_cons, if_pos hidx] at hf3
      generalize stepR m2 (oDrop (walName a.num)) = r1 at *
      obtain ⟨m1, e1⟩ := r1
      simp only [] at hps1 hlm1 HS1 hone hf3
      have HPE1 := Lib.hid (And.intro hps1 hlm1)
      have HONE := Lib.hid hone
      have HF3 := Lib.hid hf3
      have HRA2 := Lib.hid hra2
      have HPS2 := Lib.hid hps2
      have HK2 := Lib.hid k2
      have HBD := Lib.hid hbd2
      have HST2 := Lib.hid hst2
      have HL1 : Hid (len9 gx wr = m2.ps.length) := Lib.hid (by unfold len9; rw [(cells_8 hx2).2.1.2.2.1])
      clear hps1 hlm1 hone hf3 hf2 hra2 hps2 k2 hbd2 hst2 hs2 hd2 hnum hst3
      have k0 : Kp Noone wr wr.drew := (Kp.refl _ _).drew
      have q0 := k0.cell c0 id
      have qv : ∀ o, (wr.alloc o).drew.cell? ⟨g, off, none⟩ = some (.int .i64 (a.num : Int)) := fun o => (((Kp.refl Noone wr).alloc o).drew).cell c0 id
      obtain ⟨-, ⟨-, -, x6, -⟩, -⟩ := cells_8 hx2
      go_upto_region 5 with fail
      clear x6 hidx h1i
      obtain ⟨⟨y0, y1, y2, y3⟩, ⟨y4, y5, y6, y7⟩, -⟩ := cells_8 (k0.heap hx2 id)
      obtain ⟨v0, v1, v2, v3, v4, v5, v6, v7⟩ := cells_8d hx2
      apply wp_region_3 (G := fun n o3 c3 wz => wz.heap[n]? = some (.cells (rlC o3 c3 (some ⟨g, off, none⟩) pc2 m1) 37 (0, 0)) ∧ wr.heap.size ≤ n ∧ RA (fun j => P j ∧ j ≠ gx ∧ j ≠ gr ∧ j ≠ n) wz o3 m1.d.L.length c3 m1.d.L ∧ Kp Noone wr wz)
      case h =>
        go_region_law (first
            | (go_simp; go_at_call 58; refine (hnm _).mono ?_; rintro e wn ⟨rfl, kn⟩; (try (have hZ := kn.heap (show (wr.alloc (.cells #[.slice none 0 0, .int .i64 0, .int .i64 0, .int .i64 0, .bool false, .int .i64 0, .slice none 0 0, .bool false] 37)).drew.heap[wr.heap.size]? = some (.cells #[.slice none 0 0, .int .i64 0, .int .i64 0, .int .i64 0, .bool false, .int .i64 0, .slice none 0 0, .bool false] 37) from heap_alloc_new wr (.cells #[.slice none 0 0, .int .i64 0, .int .i64 0, .int .i64 0, .bool false, .int .i64 0, .slice none 0 0, .bool false] 37)) id)); (first | have k0 := k0.trans kn | have k0 := (((Kp.refl Noone wr).alloc _).drew).trans kn); obtain ⟨⟨y0, y1, y2, y3⟩, ⟨y4, y5, y6, y7⟩, -⟩ := cells_8 (k0.heap hx2 id); obtain ⟨v0, v1, v2, v3, v4, v5, v6, v7⟩ := cells_8o hx2 k0)
            | (go_simp; go_at_call 57; first
              | (have hzl := (Array.getElem?_eq_some_iff.1 hZ).1; refine (HS1 (fun j => P j ∧ j ≠ gx ∧ j ≠ gr ∧ j ≠ wr.heap.size) _ ((HRA2.out.mono (fun j hj c => ⟨c.1, c.2.1, c.2.2, by omega⟩)).keep k0) (fun j hj => ⟨(HP'.out j (by have := k0.size; omega)).1, (HP'.out j (by have := k0.size; omega)).2.1, (HP'.out j (by have := k0.size; omega)).2.2, by have h : wr.heap.size < wn.heap.size := hzl; omega⟩)).mono ?_; rintro e w4 ⟨o3, c3, rfl, hra4, k4⟩; have k0 := k0.trans k4; have hZ4 : w4.heap[wr.heap.size]? = some (.cells #[.slice none 0 0, .int .i64 0, .int .i64 0, .int .i64 0, .bool false, .int .i64 0, .slice none 0 0, .bool false] 37 (0, 0)) := k4.heap hZ id; obtain ⟨⟨u0, u1, u2, u3⟩, ⟨u4, u5, u6, u7⟩, uf⟩ := cells_8 hZ4; have uf0 := uf 0; have uf1 := uf 1; have uf2 := uf 2; have uf3 := uf 3; have uf4 := uf 4; have uf5 := uf 5; have uf6 := uf 6; have uf7 := uf 7)
              | (refine (HS1 (fun j => P j ∧ j ≠ gx ∧ j ≠ gr ∧ j ≠ wn.heap.size) (wn.alloc (.cells #[.slice none 0 0, .int .i64 0, .int .i64 0, .int .i64 0, .bool false, .int .i64 0, .slice none 0 0, .bool false] 37)) ((HRA2.out.mono (fun j hj c => ⟨c.1, c.2.1, c.2.2, by have := k0.size; omega⟩)).keep (k0.alloc _)) (fun j hj => by rw [alloc_size] at hj; exact ⟨(HP'.out j (by have := k0.size; omega)).1, (HP'.out j (by have := k0.size; omega)).2.1, (HP'.out j (by have := k0.size; omega)).2.2, by omega⟩)).mono ?_; rintro e w4 ⟨o3, c3, rfl, hra4, k4⟩; have hZ5 := k4.heap (heap_alloc_new wn (.cells #[.slice none 0 0, .int .i64 0, .int .i64 0, .int .i64 0, .bool false, .int .i64 0, .slice none 0 0, .bool false] 37)) id; have hzn := k0.size; have k0 := (k0.alloc (.cells #[.slice none 0 0, .int .i64 0, .int .i64 0, .int .i64 0, .bool false, .int .i64 0, .slice none 0 0, .bool false] 37)).trans k4; obtain ⟨⟨u0, u1, u2, u3⟩, ⟨u4, u5, u6, u7⟩, uf⟩ := cells_8 hZ5; have uf0 := uf 0; have uf1 := uf 1; have uf2 := uf 2; have uf3 := uf 3; have uf4 := uf 4; have uf5 := uf 5; have uf6 := uf 6; have uf7 := uf 7)
              | (refine (HS1 (fun j => P j ∧ j ≠ gx ∧ j ≠ gr) wn (HRA2.out.keep k0) (fun j hj => HP'.out j (by have := k0.size; omega))).mono ?_; rintro e w4 ⟨o3, c3, rfl, hra4, k4⟩; have k0 := k0.trans k4; have hC6 : True := trivial)))
        all_goals (first
          | (have hz := hZ4
             have hk := k0
             generalize hn : wr.heap.size = n at *
             refine NoPanic.normal ⟨rfl, n, o3, c3, rfl, ?_⟩
             exact ⟨set8_heap hz _ _ _ _ _ _ _ _, Nat.le_refl _, hra4.kp (set8_kp (Kp.refl (fun j => j = n) w4) (g := n) rfl _ _ _ _ _ _ _ _) (fun j _ c e => c.2.2.2 e), hk.fin (set8_kp (Kp.refl (fun j => j = n) w4) (g := n) rfl _ _ _ _ _ _ _ _) (fun j e => Or.inr (by omega))⟩)
          | (have hz := hZ5
             have hk := k0
             have hz2 := hzn
             generalize hn : wn.heap.size = n at *
             refine NoPanic.normal ⟨rfl, n, o3, c3, rfl, ?_⟩
             exact ⟨set8_heap hz _ _ _ _ _ _ _ _, hz2, hra4.kp (set8_kp (Kp.refl (fun j => j = n) w4) (g := n) rfl _ _ _ _ _ _ _ _) (fun j _ c e => c.2.2.2 e), hk.fin (set8_kp (Kp.refl (fun j => j = n) w4) (g := n) rfl _ _ _ _ _ _ _ _) (fun j e => Or.inr (by omega))⟩)
          | (have hc := hC6
             have hk := k0
             have hs4 := k0.size
             have hn4 := fun o => heap_alloc_new w4 o
             generalize hn : w4.heap.size = n at *
             refine NoPanic.normal ⟨rfl, n, o3, c3, rfl, ?_⟩
             exact ⟨hn4 _, hs4, (hra4.mono (fun j hj c => ⟨c.1, c.2.1, c.2.2, by omega⟩)).keep ((Kp.refl _ _).alloc _), hk.alloc _⟩)
          | trace_state)
      case k =>
        intro n o3 c3 w4 hG
        obtain ⟨hy4, hn4, hra4, k4⟩ := hG
        unfold rlC at hy4
        have hx4 := k4.heap hx2 id
        have hr4 := k4.heap hr2 id
        have HPS4 := Lib.hid (HPS2.out.keep k4)
        have HK4 := Lib.hid (HK2.out.trans (Kp.none k4))
        have HRA4 := Lib.hid (hra4.mono (Q := fun j => P j ∧ j ≠ gx ∧ j ≠ gr) (fun j _ c => ⟨c.1, c.2.1, c.2.2.1⟩))
        clear HS1 hra4 k4 k0 y0 y1 y2 y3 y4 y5 y6 y7 v0 v1 v2 v3 v4 v5 v6 v7 hx2 hr2 HRA2 HPS2 HK2 q0 qv c0 c1
        obtain ⟨⟨y0, y1, y2, y3⟩, ⟨y4, y5, y6, y7⟩, -⟩ := cells_8 hy4
        have hx5 := putL9_heap o3 c3 (some ⟨g, off, none⟩) pc2 m1 hx4
        have k5 := putL9_kp w4 gx o3 c3 (some ⟨g, off, none⟩) pc2 m1
        have hr5 := k5.heap hr4 (by omega)
        have HRA5 := Lib.hid (HRA4.out.kp k5 (fun j _ c e => c.2.1 e))
        have HPS5 := Lib.hid (HPS4.out.kp k5 (fun j _ c e => c.2.1 e))
        have HK5 := Lib.hid (HK4.out.trans k5)
        go_upto_region 7 with (refine wpList_store_rlog rfl (.tmp 2) (.tmp 42) rfl gx o3 c3 (some ⟨g, off, none⟩) pc2 m1 (by rfl) (by rfl) hx4 ?_)
        clear y0 y1 y2 y3 y4 y5 y6 y7 k5 hx4 hr4 hy4 HRA4 HPS4 HK4
        generalize putL9 w4 gx o3 c3 (some ⟨g, off, none⟩) pc2 m1 = w5 at *
        unfold rlC at hx5
        obtain ⟨⟨y0, y1, y2, y3⟩, ⟨y4, y5, y6, y7⟩, yf⟩ := cells_8 hx5
        by_cases he : e1 = 0
        case neg =>
          have HR4 := HF3.out
          rw [if_pos (by simpa using he)] at HR4
          subst HR4
          have n3 : ((e1 : Int) != 0) = true := by simpa using he
          clear he
          go_wp2_with (refine wpList_store_rlog rfl (.tmp 4) (.tmp 45) rfl gr o3 c3 (some ⟨g, off, none⟩) pc2 m1 (by rfl) (by rfl) hr5 ?_)
          refine bodyPost_ret (v := .tuple #[rlV o3 c3 (some ⟨g, off, none⟩) pc2 m1, .int .i64 (e1 : Int)]) (by rw [results_rlog_tmp rfl _ _ gr _ rfl (putL9_heap o3 c3 (some ⟨g, off, none⟩) pc2 m1 hr5) rfl]; rfl) rfl ?_
          have kL := putL9_kp w5 gr o3 c3 (some ⟨g, off, none⟩) pc2 m1
          refine ⟨⟨o3, c3, (some ⟨g, off, none⟩), pc2, rfl, (HRA5.out.kp kL (fun j _ c e => c.2.2 e)).mono (fun j _ c => c.1), ?_, (HKA.out.fin HK5.out (fun j e => Or.inr (by omega))).fin kL (fun j e => Or.inr (by omega))⟩⟩
          simp only [HPE1.out.1]
          exact (HPS5.out.kp kL (fun j _ c e => c.2.2 e)).mono (fun j _ c => c.1)
        have HR4 := HF3.out
        rw [if_neg (by simpa using he)] at HR4
        have n3 : ((e1 : Int) != 0) = false := by subst he; rfl
        obtain ⟨hsw, hdo, hss⟩ := HONE.out he
        have HSW := Lib.hid (And.intro hsw (And.intro hdo hss))
        have HF4 := Lib.hid HR4
        have hn1 : m1.ps.length = m2.ps.length := by rw [HPE1.out.1]
        have hle := HPS5.out.le
        have HN1 := Lib.hid hn1
        have hcap : m1.ps.length ≤ pc2 := by omega
        have hcapi : (m1.ps.length : Int) ≤ (pc2 : Int) := by omega
        have hone : (1 : Int) ≤ (m1.ps.length : Int) := by omega
        have yf6 := yf 6
        have hpc1 : ¬ pc2 = 1 := by omega
        clear he hsw hdo hss HR4 HF3 HONE hn1 hle yf
        go_wp2_with fail
        have kq : Kp (fun j => j = gx) w5 (w5.setCell ⟨gx, 6, none⟩ (.slice (some ⟨g, off + 3, none⟩) (m1.ps.length - 1) (pc2 - 1))) := (Kp.refl (fun j => j = gx) w5).setCell (p := ⟨gx, 6, none⟩) (fun _ => rfl) _
        have hbr : (b :: r).length = m1.ps.length - 1 := by rw [HPE1.out.1, HPE.out]; rfl
        have hbx : (w5.setCell ⟨gx, 6, none⟩ (.slice (some ⟨g, off + 3, none⟩) (m1.ps.length - 1) (pc2 - 1))).heap[gx]? = some (.cells (rlC o3 c3 (some ⟨g, off + 3, none⟩) (pc2 - 1) ⟨m1.d, m2.lim, b :: r, m1.shut⟩) 37 (0, 0)) := (heap_set_cell hx5).trans (by unfold rlC; simp only [hbr, HPE1.out.2]; simp)
        have hp5 := HPS5.out
        rw [HPE.out] at hp5
        have hp6 : RPs (fun j => P j ∧ j ≠ gx ∧ j ≠ gr) (w5.setCell ⟨gx, 6, none⟩ (.slice (some ⟨g, off + 3, none⟩) (m1.ps.length - 1) (pc2 - 1))) (some ⟨g, off + 3, none⟩) (b :: r).length (pc2 - 1) (b :: r) := (RPs.tail hp5 (by simp)).kp kq (fun j _ c e => c.2.1 e)
        refine ⟨⟨o3, c3, some ⟨g, off + 3, none⟩, pc2 - 1, ⟨m1.d, m2.lim, b :: r, m1.shut⟩, _, _, hbx, kq.heap hr5 (by omega), HRA5.out.kp kq (fun j _ c e => c.2.1 e), hp6, HK5.out.trans kq, HSW.out.1, HSW.out.2.1, ?_, ?_, HF4.out⟩, ?_⟩
        · have o := HBD.out
          have hsub : ∀ p, p ∈ b :: r → p ∈ m2.ps := fun p hp => by rw [HPE.out]; exact List.mem_cons_of_mem _ hp
          exact ⟨by simp, by show (b :: r).length ≤ 100000; have := o.len; have := HN1.out; omega, fun p hp => o.nums p (hsub p hp), fun p hp => o.firsts p (hsub p hp), fun p hp => o.size p (hsub p hp)⟩
        · have h1 := HST2.out
          have h2 := HSW.out.2.2
          show (dropF s2 (walName a.num)).1.steps + ((b :: r).length : Int) ≤ s.steps + 100000
          have := HN1.out
          omega
        · have h8 := hbx
          unfold rlC at h8
          have h9 := (cells_8 h8).2.1.2.2.1
          have h10 : len9 gx (w5.setCell ⟨gx, 6, none⟩ (.slice (some ⟨g, off + 3, none⟩) (m1.ps.length - 1) (pc2 - 1))) = (b :: r).length := by unfold len9; rw [h9]
          rw [h10, HL1.out]
          have := HN1.out
          omega

end Go.Proofs.YtigdhdclfdojgaaGreat
