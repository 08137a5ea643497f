/-
  The texts Acc3, AccLog in one: what the claim reaches of them.
-/
import Derived.Test.YtgbgbokcohfnpaaGreatP21
import Derived.Test.YtgbgbokcohfnpaaGreatP22
import Derived.Test.YtgbgbokcohfnpaaGreatP20
import Derived.Test.YtgbgbokcohfnpaaGreatP12
/-
  THE WALK of replay: a record is taken in.
-/
namespace Go.Proofs.YtgbgbokcohfnpaaGreat
open Go.RowKit

theorem ValC.acc {B c : Nat} {col : Nat → Nat} {w w' : World} {q lq : Nat} {a : AcS} {v : ValR} {m : VLoc} (h : ValC (fun j => col j = 0) w v m) (hc0 : c ≠ 0) (t : AcTo B c col w q lq a w') :
    ∃ col', Ext B (SA c) col w col' w' ∧ AcAt c col' w' q lq a ∧ ValC (fun j => col' j = 0) w' v m := by
  obtain ⟨col', e, ha⟩ := t.ex
  exact ⟨col', e, ha, h.ext e (by unfold SA; omega)⟩
theorem max9 (b : BalR) (p : BalR) : 0 ≤ cmpB b p ↔ belowB b p = false := by
  have h := cmpB_neg b p
  cases hb : belowB b p with
  | true => rw [hb] at h; constructor
            · intro h1; have := h.2 rfl; omega
            · intro h1; cases h1
  | false => rw [hb] at h; constructor
             · intro _; rfl
             · intro _
               refine Classical.byContradiction fun c => ?_
               have := h.1 (by omega)
               cases this
theorem AcAt.cells {c : Nat} {col : Nat → Nat} {w : World} {q lq : Nat} {a : AcS} (h : AcAt c col w q lq a) : ∃ mb, Cells6 w q (.int .i64 a.epoch) (.int .i64 a.floor) (.int .i64 a.prom.round) (.int .i64 a.prom.node) (.map (some mb)) (.pointer (some ⟨lq, 0, none⟩)) := by
  obtain ⟨mb, L, hp⟩ := h
  have hbx := hp.box
  unfold acCs at hbx
  exact ⟨mb, cells_6v hbx⟩
/-- While a record is taken in: the state, the value, the record's box. -/
structure RepX (B c : Nat) (col : Nat → Nat) (w0 : World) (q lq g : Nat) (o : Obj) (v : ValR) (m : VLoc) (a : AcS) (w : World) : Prop where
  ex : ∃ col', Ext B (SA c) col w0 col' w ∧ AcAt c col' w q lq a ∧ ValC (fun j => col' j = 0) w v m
  box : w.heap[g]? = some o
theorem RepX.keep {B c : Nat} {col : Nat → Nat} {w0 w w' : World} {q lq g : Nat} {o : Obj} {v : ValR} {m : VLoc} {a : AcS} (h : RepX B c col w0 q lq g o v m a w) (k : Kp Noone w w') : RepX B c col w0 q lq g o v m a w' := by
  obtain ⟨⟨col', e, ha, hv⟩, hb⟩ := h
  exact ⟨⟨col', e.trans (Ext.quiet e.cols k), ha.keep k, hv.keep k⟩, k.heap hb id⟩
theorem RepX.call {B c : Nat} {col : Nat → Nat} {w0 w : World} {q lq g : Nat} {o : Obj} {v : ValR} {m : VLoc} {a a' : AcS} (h : RepX B c col w0 q lq g o v m a w) (hc0 : c ≠ 0) (hg : col g = 0) (hg2 : g < w0.heap.size) (hB : B ≤ w0.heap.size) {P : Program} {f : FuncId} {args : Array Value} {E : Ending}
    (k : ∀ col', AcAt c col' w q lq a → Cols B w col' → B ≤ w.heap.size → Calls P f args w fun e w' => e = E ∧ AcTo B c col' w q lq a' w') : Calls P f args w fun e w' => e = E ∧ RepX B c col w0 q lq g o v m a' w' := by
  obtain ⟨⟨col', e, ha, hv⟩, hb⟩ := h
  have h0 : ¬ SA c 0 := by unfold SA; omega
  refine (k col' ha e.cols (Nat.le_trans hB e.size)).mono (fun e' w' h9 => ⟨h9.1, ?_⟩)
  obtain ⟨col2, e2, ha2⟩ := h9.2.ex
  exact ⟨⟨col2, e.trans e2, ha2, hv.ext e2 h0⟩, e2.kp.heap hb (by rw [e.old g hg2, hg]; exact h0)⟩
theorem RepX.to {B c : Nat} {col : Nat → Nat} {w w0 w' : World} {q lq g : Nat} {o : Obj} {v : ValR} {m : VLoc} {a : AcS} (h : RepX B c col w0 q lq g o v m a w') (e : Ext B (SA c) col w col w0) : AcTo B c col w q lq a w' := by
  obtain ⟨⟨col', e2, ha, -⟩, -⟩ := h
  exact ⟨⟨col', e.trans e2, ha⟩⟩
/-- A region that ends in frames of four letters. -/
theorem wp_region_9 {P : Program} {id : Nat} {ops : Array Oper} {b : Bool} {Q : Exit → Act → World → Prop} {a : Act} {w : World} {F : VLoc → Act} {G : VLoc → World → Prop}
    (h : (Code.region id ops b).wp P (NoPanic fun e a' w' => e = .normal ∧ ∃ m, a' = F m ∧ G m w') a w) (k : ∀ m w', G m w' → Q .normal (F m) w') : (Code.region id ops b).wp P Q a w :=
  Code.wp_mono (fun e a' w' q => by
    obtain ⟨rfl, m, rfl, hg⟩ := NoPanic.imp e a' w' q
    exact k m w' hg) h
/-- A vote is put into the map. -/
theorem AcP.put {B c : Nat} {col : Nat → Nat} {w w7 w8 : World} {q lq : Nat} {a : AcS} {mb : Nat} {L : List VoteL} {x : VoteR} {m7 : VLoc} (h : AcP c col w q lq a mb L) (hc : Cols B w col) (hB : B ≤ w.heap.size) (_hc0 : c ≠ 0) (hup : Up9 a.votes)
    (k7 : Kp Noone w w7) (ho : ValOwn (Ex Noone w w7) w7 x.val m7) (ht : MapTo encI w7 w8 mb (alPut x.slot (voteV x m7) (voteM L))) :
    AcTo B c col w q lq { a with votes := putV x a.votes } w8 := by
  have e7 := Ext.born9 (S := SA c) hc hB k7 (c + 2) (Or.inr (Or.inr rfl))
  have hp7 := h.keep k7
  have hmb := h.map.lt
  have hq := (Array.getElem?_eq_some_iff.1 h.box).1
  have hmc := h.mc
  have hqc := h.qc
  have cm : paint col w w7 (c + 2) mb = c + 1 := (e7.old mb hmb).trans hmc
  have cq : paint col w w7 (c + 2) q = c := (e7.old q hq).trans hqc
  have e8 : Ext B (SA c) (paint col w w7 (c + 2)) w7 (paint col w w7 (c + 2)) w8 :=
    ⟨e7.cols.keep ht.2.size, fun _ _ => rfl, fun j hj hn => by have := e7.cols j hn; omega, ht.2.mono (fun j _ e => by subst e; rw [cm]; exact Or.inr (Or.inl rfl))⟩
  have hm := ht.1
  have ev : alPut x.slot (voteV x m7) (voteM L) = voteM (putL (x, m7) L) := voteM_put (x, m7) L
  rw [ev] at hm
  refine ⟨⟨_, e7.trans e8, mb, putL (x, m7) L, ht.2.heap hp7.box (by intro e; subst e; omega), cq, hm, cm, ?_, fun p hp => ?_⟩⟩
  · exact perm_put h.perm h.map.keys hm.keys hup
  · have hd : ∀ j, Col (paint col w w7 (c + 2)) (c + 2) j → ¬ j = mb := fun j d e => by
      have d1 : paint col w w7 (c + 2) j = c + 2 := d
      subst e
      omega
    rcases mem_putL hp with e | e
    · subst e
      exact ⟨(ho.cmds.born (col := col) (i := c + 2)).kp ht.2 hd, (ho.next.born (col := col) (i := c + 2)).kp ht.2 hd⟩
    · have h1 := ((h.vals p e).mono (G := fun j => Col col (c + 2) j ∧ j < w.heap.size) (fun j hj d => ⟨d, hj⟩)).keep k7
      exact (h1.mono (G := Col (paint col w w7 (c + 2)) (c + 2)) (fun j _ d => (e7.old j d.2).trans d.1)).kp ht.2 hd
set_option maxHeartbeats 4000000 in
set_option maxRecDepth 100000 in
theorem replay_a (B c : Nat) (col : Nat → Nat) (w : World) (q lq : Nat) (a : AcS) (x : RecR) (m : VLoc) (h : AcAt c col w q lq a) (hv : ValC (fun j => col j = 0) w x.val m) (hc : Cols B w col) (hB : B ≤ w.heap.size) (hc0 : c ≠ 0) (hup : Up9 a.votes) (hval : valF x.val = 0) :
    Calls Tryz.prog 45 #[.pointer (some ⟨q, 0, none⟩), recV x m] w fun e w' => e = .returned (.tuple #[]) ∧ AcTo B c col w q lq (replayA a x) w' := by
  have hc8 := valF_cmds hval
  have hn7 := valF_next hval
  obtain ⟨k, ep, sl, ⟨rd, nd⟩, v⟩ := x
  unfold recV
  simp only [] at hv hc8 hn7 hval ⊢
  have hb := heap_alloc_new w (.cells #[.int .i64 k, .int .i64 ep, .int .i64 sl, .int .i64 rd, .int .i64 nd, .int .i64 v.kind, .slice m.co v.cmds.length m.cc, .slice m.no v.next.length m.nc] 112)
  have kA : Kp Noone w (w.alloc (.cells #[.int .i64 k, .int .i64 ep, .int .i64 sl, .int .i64 rd, .int .i64 nd, .int .i64 v.kind, .slice m.co v.cmds.length m.cc, .slice m.no v.next.length m.nc] 112)) := (Kp.refl _ _).alloc _
  have HA := Lib.hid (h.keep kA)
  have HV := Lib.hid (hv.keep kA)
  have HE := Lib.hid (Ext.quiet (S := SA c) hc kA)
  have hg0 : col w.heap.size = 0 := Classical.byContradiction fun e => by have := hc _ e; omega
  have HG0 := Lib.hid hg0
  have HB0 := Lib.hid (Nat.le_trans hB kA.size)
  clear h hv hc kA hg0
  go_enter Tryz.func45, Tryz.ntmps45
  go_upto_region 1 with fail
  generalize w.alloc (.cells #[.int .i64 k, .int .i64 ep, .int .i64 sl, .int .i64 rd, .int .i64 nd, .int .i64 v.kind, .slice m.co v.cmds.length m.cc, .slice m.no v.next.length m.nc] 112) = w0 at *
  have HGL : Hid (w.heap.size < w0.heap.size) := Lib.hid (Array.getElem?_eq_some_iff.1 hb).1
  generalize w.heap.size = g at *
  have HB := Lib.hid hb
  obtain ⟨⟨z0, z1, z2, z3⟩, z4, z5, z6, z7⟩ := cells_8v hb
  clear hb
  have HX0 : Hid (RepX B c col w0 q lq g (.cells #[.int .i64 k, .int .i64 ep, .int .i64 sl, .int .i64 rd, .int .i64 nd, .int .i64 v.kind, .slice m.co v.cmds.length m.cc, .slice m.no v.next.length m.nc] 112) v m a w0) := Lib.hid ⟨⟨col, Ext.quiet HE.out.cols (Kp.refl _ _), HA.out, HV.out⟩, HB.out⟩
  obtain ⟨mb, ⟨x0, x1, x2, x3, x4, x5⟩⟩ := HA.out.cells
  clear z0 z2 z3 z4 z5 z6 z7 x1 x2 x3 x4 x5 HA HV HB
  by_cases h1 : ep < a.epoch
  · have HF : Hid (∀ n, AcTo B c col w q lq (replayA a ⟨k, ep, sl, ⟨rd, nd⟩, v⟩) (w0.drewN n)) := Lib.hid (fun n => by
      have hr : replayA a ⟨k, ep, sl, ⟨rd, nd⟩, v⟩ = a := by unfold replayA; rw [if_pos h1]
      rw [hr]
      exact (HX0.out.keep ((Kp.refl _ _).drewN n)).to HE.out)
    go_quiet (fail)
    go_wp2_with fail
    refine bodyPost_ret (results_none rfl _ _ _) rfl ?_
    exact ⟨rfl, HF.out _⟩
  obtain ⟨a1, ha1⟩ : ∃ a1, Hid (a1 = if a.epoch < ep then enterA ep 0 else a) := ⟨_, Lib.hid rfl⟩
  have HRP : Hid (replayA a ⟨k, ep, sl, ⟨rd, nd⟩, v⟩ = castA (promA a1 ⟨rd, nd⟩) ⟨k, ep, sl, ⟨rd, nd⟩, v⟩) := Lib.hid (by unfold replayA; rw [if_neg h1, ha1.out])
  have HUP : Hid (Up9 (promA a1 ⟨rd, nd⟩).votes) := Lib.hid (by
    have hu1 : Up9 a1.votes := by
      rw [ha1.out]
      split
      · exact List.Pairwise.nil
      · exact hup
    unfold promA
    split <;> exact hu1)
  have HEN := Lib.hid (fun col' W (hW : AcAt c col' W q lq a) hC hBW => enter_a B c col' W q lq a ep 0 hW hC hBW hc0)
  have HPR := Lib.hid (fun col' W (hW : AcAt c col' W q lq a1) hC hBW => promise_a B c col' W q lq a1 ⟨rd, nd⟩ hW hC hBW hc0)
  go_quiet (fail)
  have hx1 := HX0.out.keep ((Kp.refl Noone w0).drewN nq)
  have hk1 : w0.heap.size ≤ (w0.drewN nq).heap.size := Nat.le_refl _
  generalize w0.drewN nq = w1 at *
  have HX1 := Lib.hid hx1
  clear x0 z1 hx1 HX0
  obtain ⟨⟨z0, z1, z2, z3⟩, z4, z5, z6, z7⟩ := cells_8v HX1.out.box
  obtain ⟨mb2, ⟨x0, x1, x2, x3, x4, x5⟩⟩ := (show ∃ mb, Cells6 w1 q (.int .i64 a.epoch) (.int .i64 a.floor) (.int .i64 a.prom.round) (.int .i64 a.prom.node) (.map (some mb)) (.pointer (some ⟨lq, 0, none⟩)) by obtain ⟨col', -, h, -⟩ := HX1.out.ex; exact h.cells)
  clear z0 z2 z3 z4 z5 z6 z7 x1 x2 x3 x4 x5
  by_cases h2 : a.epoch < ep
  case' pos =>
    go_upto_region 2 with fail
    go_quiet (fail)
    have hx2 := HX1.out.keep ((Kp.refl Noone w1).drewN nq)
    have hk2 : w1.heap.size ≤ (w1.drewN nq).heap.size := Nat.le_refl _
    generalize w1.drewN nq = w2 at *
    have HX2 := Lib.hid hx2
    clear x0 z1 hx2 HX1
    obtain ⟨⟨z0, z1, z2, z3⟩, z4, z5, z6, z7⟩ := cells_8v HX2.out.box
    clear z0 z2 z3 z4 z5 z6 z7
    have hen := HX2.out.call hc0 HG0.out HGL.out HB0.out (a' := enterA ep 0) (fun col' hA hC hBW => HEN.out col' w2 hA hC hBW)
    rw [show enterA ep 0 = a1 by rw [ha1.out, if_pos h2]] at hen
    clear h2
    go_wp2_with fail
    refine hen.mono ?_
    clear hen
    rintro e w3 ⟨rfl, hx3⟩
    have HX3 := Lib.hid hx3
    clear hx3 HX2 z1
    obtain ⟨⟨z0, z1, z2, z3⟩, z4, z5, z6, z7⟩ := cells_8v HX3.out.box
    clear z0 z1 z2 z5 z6 z7
    go_wp2_with fail
  case' neg =>
    go_upto_region 2 with fail
    go_quiet (fail)
    have hx3 := HX1.out.keep ((Kp.refl Noone w1).drewN nq)
    rw [show a = a1 by rw [ha1.out, if_neg h2]] at hx3
    generalize w1.drewN nq = w3 at *
    have HX3 := Lib.hid hx3
    clear x0 z1 hx3 HX1
    obtain ⟨⟨z0, z1, z2, z3⟩, z4, z5, z6, z7⟩ := cells_8v HX3.out.box
    clear z0 z1 z2 z5 z6 z7 h2
    go_wp2_with fail
  all_goals (
    have hpr := HX3.out.call hc0 HG0.out HGL.out HB0.out (a' := promA a1 ⟨rd, nd⟩) (fun col' hA hC hBW => HPR.out col' w3 hA hC hBW)
    refine hpr.mono ?_
    clear hpr
    rintro e w4 ⟨rfl, hx4⟩
    have HX4 := Lib.hid hx4
    clear hx4 HX3 z3 z4
    generalize promA a1 ⟨rd, nd⟩ = a2 at *
    obtain ⟨⟨z0, z1, z2, z3⟩, z4, z5, z6, z7⟩ := cells_8v HX4.out.box
    clear z1 z3 z4 z5 z6 z7
    by_cases k3 : k = 3
    · subst k3
      have hra := HX4.out.call hc0 HG0.out HGL.out HB0.out (a' := raiseA a2 sl) (fun col' hA hC hBW => raise_a B c col' w4 q lq a2 sl hA hC hBW hc0)
      have HRE : Hid (replayA a ⟨3, ep, sl, ⟨rd, nd⟩, v⟩ = raiseA a2 sl) := Lib.hid (by rw [HRP.out]; unfold castA; rw [if_pos rfl])
      go_wp2_with fail
      refine hra.mono ?_
      clear hra
      rintro e w5 ⟨rfl, hx5⟩
      have HX5 := Lib.hid hx5
      clear hx5 z0 z2
      go_wp2_with fail
      go_end0
      exact ⟨rfl, by rw [HRE.out]; exact HX5.out.to HE.out⟩
    by_cases k2 : k = 2
    case neg =>
      have HRE : Hid (replayA a ⟨k, ep, sl, ⟨rd, nd⟩, v⟩ = a2) := Lib.hid (by rw [HRP.out]; unfold castA; rw [if_neg k3, if_neg (fun c => k2 c.1)])
      have q3 : (k == 3) = false := beq_eq_false_iff_ne.2 k3
      have q2 : (k == 2) = false := beq_eq_false_iff_ne.2 k2
      clear k2 k3
      go_wp2_with fail
      go_end0
      exact ⟨rfl, by rw [HRE.out]; exact HX4.out.to HE.out⟩
    subst k2
    have HRE : Hid (replayA a ⟨2, ep, sl, ⟨rd, nd⟩, v⟩ = if takesA a2 ⟨2, ep, sl, ⟨rd, nd⟩, v⟩ = true then { a2 with votes := putV ⟨sl, ⟨rd, nd⟩, v⟩ a2.votes } else a2) := Lib.hid (by
      rw [HRP.out]
      unfold castA
      simp only []
      rw [if_neg (by omega)]
      simp only [true_and])
    clear k3
    obtain ⟨⟨col4, e4, ⟨mb4, L, hp⟩, hv4⟩, hb4⟩ := HX4.out
    have HE4 := Lib.hid e4
    have HP := Lib.hid hp
    have HV4 := Lib.hid hv4
    have HB4 := Lib.hid hb4
    have hmap := hp.map
    have hbx := hp.box
    unfold acCs at hbx
    obtain ⟨x0, x1, x2, x3, x4, x5⟩ := cells_6v hbx
    have HGV := get_vote hp.perm hmap.keys sl
    have hlk := (hmap.kp ((Kp.refl Noone w4).drew) id).lookup (P := Tryz.prog) (t := 3) (m := 104) (e := 56) keyI9 Tryz.underlying104 (zero_vote _) sl true
    have hlk2 := (hmap.kp (((Kp.refl Noone w4).alloc (.cells #[.int .i64 0, .int .i64 0, .int .i64 0, .int .i64 0, .slice none 0 0, .slice none 0 0] 56)).drew) id).lookup (P := Tryz.prog) (t := 3) (m := 104) (e := 56) keyI9 Tryz.underlying104 (zero_vote _) sl true
    obtain ⟨ov, om, OK, hov, hcase⟩ : ∃ (ov : VoteR) (om : VLoc) (OK : Bool), (alGet sl (voteM L)).getD (.agg #[.int .i64 0, .int .i64 0, .int .i64 0, .int .i64 0, .slice none 0 0, .slice none 0 0]) = voteV ov om ∧ (OK = true ∧ (alGet sl (voteM L)).isSome = true ∧ getV sl a2.votes = some ov ∨ OK = false ∧ (alGet sl (voteM L)).isSome = false ∧ getV sl a2.votes = none) := by
      rcases HGV with ⟨p, hp1, hp2, hp3, hp4⟩ | ⟨hp3, hp4⟩
      · exact ⟨p.1, p.2, true, by rw [hp3]; rfl, Or.inl ⟨rfl, by rw [hp3]; rfl, hp4⟩⟩
      · exact ⟨⟨0, bal0, val0⟩, loc9, false, by rw [hp3]; rfl, Or.inr ⟨rfl, by rw [hp3]; rfl, hp4⟩⟩
    have hok : (alGet sl (voteM L)).isSome = OK := by rcases hcase with ⟨h1, h2, -⟩ | ⟨h1, h2, -⟩ <;> rw [h1, h2]
    have HCASE : Hid (getV sl a2.votes = if OK = true then some ov else none) := Lib.hid (by rcases hcase with ⟨h1, -, h2⟩ | ⟨h1, -, h2⟩ <;> rw [h1, h2] <;> rfl)
    rw [if_pos rfl, hov, hok] at hlk hlk2
    unfold encI voteV at hlk hlk2
    obtain ⟨os, ⟨or1, on1⟩, ovv⟩ := ov
    simp only [] at hlk hlk2
    clear e4 hp hv4 hb4 hbx x0 x1 x2 x3 x5 HX4 HGV hov hok hcase
    go_upto_region 9 with fail
    have hS : ∀ W, Kp Noone w4 W → W.cell? ⟨q, 4, none⟩ = some (.map (some mb4)) ∧ W.cell? ⟨g, 2, none⟩ = some (.int .i64 sl) := fun W kk => by
      have hbx := (HP.out.keep kk).box
      unfold acCs at hbx
      exact ⟨(cells_6v hbx).c4, (cells_8v (kk.heap HB4.out id)).1.2.2.1⟩
    have HS := Lib.hid hS
    clear hS
    apply wp_region_0 (G := fun wz => wz = (w4.alloc (.cells #[.int .i64 os, .int .i64 or1, .int .i64 on1, .int .i64 ovv.kind, .slice om.co ovv.cmds.length om.cc, .slice om.no ovv.next.length om.nc] 56)).drew)
    case h =>
      go_region_held3 (fun w' => w'.cell? ⟨q, 4, none⟩ = some (.map (some mb4)) ∧ w'.cell? ⟨g, 2, none⟩ = some (.int .i64 sl))
        (first | with_reducible exact HS.out _ ((Kp.refl _ _).drew) | with_reducible exact HS.out _ (((Kp.refl _ _).alloc _).drew))
        (fail)
      all_goals exact NoPanic.normal ⟨rfl, rfl, rfl⟩
    case k =>
      rintro w5 rfl
      have k5 : Kp Noone w4 ((w4.alloc (.cells #[.int .i64 os, .int .i64 or1, .int .i64 on1, .int .i64 ovv.kind, .slice om.co ovv.cmds.length om.cc, .slice om.no ovv.next.length om.nc] 56)).drew) := ((Kp.refl _ _).alloc _).drew
      have hob := heap_alloc_new w4 (.cells #[.int .i64 os, .int .i64 or1, .int .i64 on1, .int .i64 ovv.kind, .slice om.co ovv.cmds.length om.cc, .slice om.no ovv.next.length om.nc] 56)
      have HOB : Hid (((w4.alloc (.cells #[.int .i64 os, .int .i64 or1, .int .i64 on1, .int .i64 ovv.kind, .slice om.co ovv.cmds.length om.cc, .slice om.no ovv.next.length om.nc] 56)).drew).heap[w4.heap.size]? = some (.cells #[.int .i64 os, .int .i64 or1, .int .i64 on1, .int .i64 ovv.kind, .slice om.co ovv.cmds.length om.cc, .slice om.no ovv.next.length om.nc] 56 (0, 0))) := Lib.hid hob
      have HP5 := Lib.hid (HP.out.keep k5)
      have HV5 := Lib.hid (HV4.out.keep k5)
      have HB5 := Lib.hid (k5.heap HB4.out id)
      have HE5 := Lib.hid (HE4.out.trans (Ext.quiet HE4.out.cols k5))
      clear k5 hob hlk hlk2 x4 z0 z2 HP HV4 HB4 HE4 HS
      generalize (w4.alloc (.cells #[.int .i64 os, .int .i64 or1, .int .i64 on1, .int .i64 ovv.kind, .slice om.co ovv.cmds.length om.cc, .slice om.no ovv.next.length om.nc] 56)).drew = w5 at *
      generalize w4.heap.size = go at *
      have hS : ∀ W, Kp Noone w5 W → (W.cell? ⟨q, 1, none⟩ = some (.int .i64 a2.floor) ∧ W.cell? ⟨g, 2, none⟩ = some (.int .i64 sl) ∧ W.cell? ⟨g, 3, none⟩ = some (.int .i64 rd) ∧ W.cell? ⟨g, 4, none⟩ = some (.int .i64 nd)) ∧ W.cell? ⟨go, 1, none⟩ = some (.int .i64 or1) ∧ W.cell? ⟨go, 2, none⟩ = some (.int .i64 on1) := fun W kk => by
        have hbx := (HP5.out.keep kk).box
        unfold acCs at hbx
        have c6 := cells_6v hbx
        have c8 := cells_8v (kk.heap HB5.out id)
        have c9 := cells_6v (kk.heap HOB.out id)
        exact ⟨⟨c6.c1, c8.1.2.2.1, c8.1.2.2.2, c8.2.1⟩, c9.c1, c9.c2⟩
      have HS := Lib.hid hS
      obtain ⟨⟨x1, z2, z3, z4⟩, y1, y2⟩ := hS w5 (Kp.refl _ _)
      clear hS
      obtain ⟨TK, hTK⟩ : ∃ b, Hid (takesA a2 ⟨2, ep, sl, ⟨rd, nd⟩, v⟩ = b) := ⟨_, Lib.hid rfl⟩
      have HTK := hTK.out
      unfold takesA at HTK
      simp only [] at HTK
      rw [HCASE.out] at HTK
      have HTK := Lib.hid HTK
      have HRE := Lib.hid HRE.out
      rw [hTK.out] at HRE
      go_upto_region 10 with fail
      by_cases hfl : a2.floor < sl
      case neg =>
        have HT0 : Hid (TK = false) := Lib.hid (by rw [← HTK.out, decide_eq_false hfl]; rfl)
        have HF : Hid (∀ n, AcTo B c col w q lq (replayA a ⟨2, ep, sl, ⟨rd, nd⟩, v⟩) (w5.drewN n)) := Lib.hid (fun n => by
          have kq : Kp Noone w5 (w5.drewN n) := (Kp.refl _ _).drewN n
          rw [HRE.out, HT0.out, if_neg (by decide)]
          exact ⟨⟨col4, HE.out.trans (HE5.out.trans (Ext.quiet HE5.out.cols kq)), mb4, L, HP5.out.keep kq⟩⟩)
        go_quiet (fail)
        go_wp2_with fail
        go_end0
        exact ⟨rfl, HF.out _⟩
      have HFL := Lib.hid hfl
      cases OK
      case' false =>
        have HT1 : Hid (TK = true) := Lib.hid (by rw [← HTK.out, decide_eq_true HFL.out]; rfl)
        go_quiet (fail)
        have kq : Kp Noone w5 (w5.drewN nq) := (Kp.refl _ _).drewN nq
        have HK6 := Lib.hid kq
        generalize w5.drewN nq = w6 at *
        clear kq
        go_upto_region 11 with fail
      case' true =>
        have hcm := fun W => compare_any ⟨rd, nd⟩ ⟨or1, on1⟩ W
        have hz := max9 ⟨rd, nd⟩ ⟨or1, on1⟩
        simp only [] at hcm
        generalize cmpB ⟨rd, nd⟩ ⟨or1, on1⟩ = z at *
        have HZ := Lib.hid hz
        have kd : Kp Noone w5 w5.drew := (Kp.refl _ _).drew
        clear hz
        by_cases hzz : 0 ≤ z
        case neg =>
          have HT0 : Hid (TK = false) := Lib.hid (by
            rw [← HTK.out, decide_eq_true HFL.out]
            cases hb : belowB ⟨rd, nd⟩ ⟨or1, on1⟩ with
            | false => exact (hzz (HZ.out.2 hb)).elim
            | true => simp [hb])
          go_region_held3 (fun w' => (w'.cell? ⟨q, 1, none⟩ = some (.int .i64 a2.floor) ∧ w'.cell? ⟨g, 2, none⟩ = some (.int .i64 sl) ∧ w'.cell? ⟨g, 3, none⟩ = some (.int .i64 rd) ∧ w'.cell? ⟨g, 4, none⟩ = some (.int .i64 nd)) ∧ w'.cell? ⟨go, 1, none⟩ = some (.int .i64 or1) ∧ w'.cell? ⟨go, 2, none⟩ = some (.int .i64 on1))
            (first | with_reducible exact HS.out _ kd | with_reducible exact HS.out _ kk)
            (first | (go_at_call 41; refine (hcm _).mono ?_; rintro e w6 ⟨rfl, k6⟩; have kk := kd.trans k6; clear k6))
          have HF : Hid (AcTo B c col w q lq (replayA a ⟨2, ep, sl, ⟨rd, nd⟩, v⟩) w6) := Lib.hid (by
            rw [HRE.out, HT0.out, if_neg (by decide)]
            exact ⟨⟨col4, HE.out.trans (HE5.out.trans (Ext.quiet HE5.out.cols kk)), mb4, L, HP5.out.keep kk⟩⟩)
          clear kd kk
          go_wp2_with fail
          go_end0
          exact ⟨rfl, HF.out⟩
        have HT1 : Hid (TK = true) := Lib.hid (by
          rw [← HTK.out, decide_eq_true HFL.out, if_pos rfl]
          simp only [HZ.out.1 hzz]
          rfl)
        go_region_held3 (fun w' => (w'.cell? ⟨q, 1, none⟩ = some (.int .i64 a2.floor) ∧ w'.cell? ⟨g, 2, none⟩ = some (.int .i64 sl) ∧ w'.cell? ⟨g, 3, none⟩ = some (.int .i64 rd) ∧ w'.cell? ⟨g, 4, none⟩ = some (.int .i64 nd)) ∧ w'.cell? ⟨go, 1, none⟩ = some (.int .i64 or1) ∧ w'.cell? ⟨go, 2, none⟩ = some (.int .i64 on1))
          (first | with_reducible exact HS.out _ kd | with_reducible exact HS.out _ kk)
          (first | (go_at_call 41; refine (hcm _).mono ?_; rintro e w6 ⟨rfl, k6⟩; have kk := kd.trans k6; clear k6))
        have HK6 := Lib.hid kk
        clear kd kk hcm hzz
        go_upto_region 11 with fail
      all_goals (
        have HP6 := Lib.hid (HP5.out.keep HK6.out)
        have HV6 := Lib.hid (HV5.out.keep HK6.out)
        have HB6 := Lib.hid (HK6.out.heap HB5.out id)
        have HE6 := Lib.hid (HE5.out.trans (Ext.quiet HE5.out.cols HK6.out))
        have HBB : Hid (B ≤ w6.heap.size) := Lib.hid (Nat.le_trans HB0.out HE6.out.size)
        have hcl := fun W (kk : Kp Noone w6 W) => cloneVal_any v m W (HV6.out.keep kk).va (by omega) (by omega)
        unfold valV at hcl
        have hgm : g ≠ mb4 := fun e => by
          obtain ⟨es, cl, h, -⟩ := HP6.out.map
          rw [← e, HB6.out] at h
          cases h
        have hqm : q ≠ mb4 := fun e => by
          have h1 := HP6.out.mc
          have h2 := HP6.out.qc
          rw [← e] at h1
          omega
        have hS : ∀ W, Kp (fun j => j = mb4) w6 W → (W.cell? ⟨q, 4, none⟩ = some (.map (some mb4)) ∧ W.cell? ⟨g, 2, none⟩ = some (.int .i64 sl) ∧ W.cell? ⟨g, 3, none⟩ = some (.int .i64 rd) ∧ W.cell? ⟨g, 4, none⟩ = some (.int .i64 nd)) ∧ W.cell? ⟨g, 5, none⟩ = some (.int .i64 v.kind) ∧ W.cell? ⟨g, 6, none⟩ = some (.slice m.co v.cmds.length m.cc) ∧ W.cell? ⟨g, 7, none⟩ = some (.slice m.no v.next.length m.nc) := fun W kk => by
          have hbx := kk.heap HP6.out.box hqm
          unfold acCs at hbx
          have c6 := cells_6v hbx
          have c8 := cells_8v (kk.heap HB6.out hgm)
          exact ⟨⟨c6.c4, c8.1.2.2.1, c8.1.2.2.2, c8.2.1⟩, c8.2.2.1, c8.2.2.2.1, c8.2.2.2.2⟩
        have HS6 := Lib.hid hS
        clear hS hgm hqm HS x1 z2 z3 z4 y1 y2 HP5 HV5 HB5 HE5 HOB
        have kd : Kp Noone w6 w6.drew := (Kp.refl _ _).drew
        obtain ⟨⟨x4, z2, z3, z4⟩, z5, z6, z7⟩ := HS6.out _ kd.none
        apply wp_region_9 (G := fun _ wz => AcTo B c col w q lq (replayA a ⟨2, ep, sl, ⟨rd, nd⟩, v⟩) wz)
        case h =>
          go_region_held3 (fun w' => (w'.cell? ⟨q, 4, none⟩ = some (.map (some mb4)) ∧ w'.cell? ⟨g, 2, none⟩ = some (.int .i64 sl) ∧ w'.cell? ⟨g, 3, none⟩ = some (.int .i64 rd) ∧ w'.cell? ⟨g, 4, none⟩ = some (.int .i64 nd)) ∧ w'.cell? ⟨g, 5, none⟩ = some (.int .i64 v.kind) ∧ w'.cell? ⟨g, 6, none⟩ = some (.slice m.co v.cmds.length m.cc) ∧ w'.cell? ⟨g, 7, none⟩ = some (.slice m.no v.next.length m.nc))
            (first | with_reducible exact HS6.out _ kd.none | with_reducible exact HS6.out _ kk.none | with_reducible exact HS6.out _ k8)
            (first | (go_at_call 46; refine (hcl _ kd).mono ?_; rintro e w7 ⟨m7, rfl, hown, k7⟩; have kk := kd.trans k7; obtain ⟨w8, hrun, hto⟩ := (HP6.out.keep kk).map.update (P := Tryz.prog) (t := 3) (m := 104) (e := 56) keyI9 Tryz.underlying104 sl (voteV ⟨sl, ⟨rd, nd⟩, v⟩ m7); have k8 := (kk.none (S := fun j => j = mb4)).trans hto.2; unfold encI at hrun; unfold voteV at hrun; simp only [] at hrun))
          all_goals (
            refine NoPanic.normal ⟨rfl, m7, rfl, ?_⟩
            have hF := AcP.put (x := ⟨sl, ⟨rd, nd⟩, v⟩) (HP6.out.keep kd) (HE6.out.cols.keep kd.size) HBB.out hc0 HUP.out k7 hown hto
            rw [HRE.out, HT1.out, if_pos rfl]
            obtain ⟨col9, e9, h9⟩ := hF.ex
            exact ⟨⟨col9, HE.out.trans (HE6.out.trans ((Ext.quiet HE6.out.cols kd).trans e9)), h9⟩⟩)
        case k =>
          intro m7 w8 hF
          have HF := Lib.hid hF
          clear hF x4 z2 z3 z4 z5 z6 z7 kd hcl
          go_wp2_with fail
          go_end0
          exact ⟨rfl, HF.out⟩))

end Go.Proofs.YtgbgbokcohfnpaaGreat

/-
  THE WALK of write: records made safe.
-/
namespace Go.Proofs.YtgbgbokcohfnpaaGreat
open Go.RowKit

/-! ### Rows of structs of k cells -/

theorem flat_get {α : Type} (f : α → List Value) (k : Nat) (hf : ∀ x, (f x).length = k) (L : List α) (i j : Nat) (hi : i < L.length) (hj : j < k) : ((L.map f).flatten)[i * k + j]? = (f L[i])[j]? := by
  induction L generalizing i with
  | nil => simp at hi
  | cons a r ih =>
    rw [List.map_cons, List.flatten_cons]
    have hl := hf a
    cases i with
    | zero =>
      rw [List.getElem?_append_left (by omega)]
      simp
    | succ i =>
      have e : (i + 1) * k + j - k = i * k + j := by rw [Nat.add_mul]; omega
      rw [List.getElem?_append_right (by rw [Nat.add_mul]; omega), hl, e, ih i (by simpa using hi)]
      rfl
theorem flat_length {α : Type} (f : α → List Value) (k : Nat) (hf : ∀ x, (f x).length = k) (L : List α) : ((L.map f).flatten).length = L.length * k := by
  induction L with
  | nil => simp
  | cons a r ih => rw [List.map_cons, List.flatten_cons, List.length_append, ih, hf, List.length_cons, Nat.succ_mul]; omega
abbrev RecL := RecR × VLoc
def arCs (p : RecL) : List Value := [.int .i64 p.1.kind, .int .i64 p.1.epoch, .int .i64 p.1.slot, .int .i64 p.1.bal.round, .int .i64 p.1.bal.node, .int .i64 p.1.val.kind, .slice p.2.co p.1.val.cmds.length p.2.cc, .slice p.2.no p.1.val.next.length p.2.nc]
def arsV (L : List RecL) : List Value := (L.map arCs).flatten
theorem length_arsV (L : List RecL) : (arsV L).length = L.length * 8 := flat_length arCs 8 (fun _ => rfl) L
structure Cells8o (w : World) (b o : Nat) (p : RecL) : Prop where
  c0 : w.cell? ⟨b, o, none⟩ = some (.int .i64 p.1.kind)
  c1 : w.cell? ⟨b, o + 1, none⟩ = some (.int .i64 p.1.epoch)
  c2 : w.cell? ⟨b, o + 2, none⟩ = some (.int .i64 p.1.slot)
  c3 : w.cell? ⟨b, o + 3, none⟩ = some (.int .i64 p.1.bal.round)
  c4 : w.cell? ⟨b, o + 4, none⟩ = some (.int .i64 p.1.bal.node)
  c5 : w.cell? ⟨b, o + 5, none⟩ = some (.int .i64 p.1.val.kind)
  c6 : w.cell? ⟨b, o + 6, none⟩ = some (.slice p.2.co p.1.val.cmds.length p.2.cc)
  c7 : w.cell? ⟨b, o + 7, none⟩ = some (.slice p.2.no p.1.val.next.length p.2.nc)
/-- Records in a row of nobody's, with their values. -/
structure RecsC (P : Nat → Prop) (w : World) (ao : Option Addr) (L : List RecL) : Prop where
  row : Row w ao (arsV L)
  own : L ≠ [] → ∀ a, ao = some a → P a.block ∧ a.block < w.heap.size
  vals : ∀ p ∈ L, ValC P w p.1.val p.2
theorem RecsC.kp {P S : Nat → Prop} {w w' : World} {ao : Option Addr} {L : List RecL} (h : RecsC P w ao L) (k : Kp S w w') (hd : ∀ j, P j → ¬ S j) : RecsC P w' ao L := by
  refine ⟨?_, fun h0 a e => ⟨(h.own h0 a e).1, Nat.lt_of_lt_of_le (h.own h0 a e).2 k.size⟩, fun p hp => (h.vals p hp).kp k hd⟩
  by_cases h0 : L = []
  · rw [h0]; exact Or.inl rfl
  · exact h.row.kp k (fun a e => hd _ (h.own h0 a e).1)
theorem RecsC.ext {B : Nat} {S : Nat → Prop} {col col' : Nat → Nat} {w w' : World} {ao : Option Addr} {L : List RecL} (h : RecsC (fun j => col j = 0) w ao L) (e : Ext B S col w col' w') (h0 : ¬ S 0) : RecsC (fun j => col' j = 0) w' ao L := by
  refine ⟨?_, fun h1 a ha => ?_, fun p hp => (h.vals p hp).ext e h0⟩
  · by_cases h1 : L = []
    · rw [h1]; exact Or.inl rfl
    · exact h.row.kp e.kp (fun a ha s => by rw [(h.own h1 a ha).1] at s; exact h0 s)
  · have := h.own h1 a ha
    exact ⟨(e.old _ this.2).trans this.1, Nat.lt_of_lt_of_le this.2 e.size⟩
theorem Row.rec {w : World} {ao : Option Addr} {L : List RecL} (h : Row w ao (arsV L)) {k : Nat} (hk : k < L.length) : ∃ b off, ao = some ⟨b, off, none⟩ ∧ Cells8o w b (off + k * 8) L[k] := by
  have hl := length_arsV L
  rcases h with h0 | ⟨b, off, rfl, hr⟩
  · rw [h0] at hl
    simp at hl
    omega
  · have hc : ∀ j, j < 8 → w.cell? ⟨b, off + k * 8 + j, none⟩ = (arCs L[k])[j]? := fun j hj => by
      have h1 := hr (k * 8 + j) (by omega)
      rw [Nat.add_assoc, h1, ← flat_get arCs 8 (fun _ => rfl) L k j hk hj, List.getElem?_eq_getElem]
      rfl
    refine ⟨b, off, rfl, ?_, ?_, ?_, ?_, ?_, ?_, ?_, ?_⟩
    · exact hc 0 (by omega)
    · exact hc 1 (by omega)
    · exact hc 2 (by omega)
    · exact hc 3 (by omega)
    · exact hc 4 (by omega)
    · exact hc 5 (by omega)
    · exact hc 6 (by omega)
    · exact hc 7 (by omega)
/-- The acceptor and its log over its disk. -/
structure AcL (col : Nat → Nat) (w : World) (p ql q : Nat) (s : DS) (l : LogP) (a : AcS) : Prop where
  lg : Lg 5 0 col w p ql s l
  ac : AcAt 8 col w q ql a
theorem AcL.keep {col : Nat → Nat} {w w' : World} {p ql q : Nat} {s : DS} {l : LogP} {a : AcS} (h : AcL col w p ql q s l a) (k : Kp Noone w w') : AcL col w' p ql q s l a := ⟨h.lg.keep k, h.ac.keep k⟩
/-- The colours of a log, of an acceptor over it. -/
def SX : Nat → Prop := fun x => SL 0 5 x ∨ SA 8 x
theorem sl_ac (x : Nat) (h : SA 8 x) : ¬ SL 0 5 x := by unfold SA at h; unfold SL S3; omega
theorem sl_zero : ¬ SL 0 5 0 := by unfold SL S3; omega
theorem sx_zero : ¬ SX 0 := by unfold SX SL S3 SA; omega
/-- What write leaves. -/
structure WrtTo (B : Nat) (col : Nat → Nat) (w : World) (p ql q : Nat) (a : AcS) (R : DS × LogP × Nat × Nat) (K : Nat) (e : Ending) (w' : World) : Prop where
  ex : ∃ col', e = .returned (.tuple #[.int .i64 (R.2.2.1 : Int), .int .i64 (R.2.2.2 : Int)]) ∧ Ext B (SL 0 5) col w col' w' ∧ AcL col' w' p ql q R.1 R.2.1 a
  li : LI K R.1 R.2.1
/-- Between two records. -/
structure WrX (B : Nat) (col : Nat → Nat) (w : World) (p ql q : Nat) (a : AcS) (ro : Option Addr) (L : List RecL) (i : Nat) (R : DS × LogP × Nat × Nat) (j : Nat) (f : Nat) (wx : World) : Prop where
  ex : ∃ (col' : Nat → Nat) (s : DS) (l : LogP), Ext B (SL 0 5) col w col' wx ∧ AcL col' wx p ql q s l a ∧ RecsC (fun j => col' j = 0) wx ro L ∧ LI (i + j) s l ∧ writeF ((L.drop j).map (fun x => recL x.1)) (j == 0) f s l = R
theorem data_new {B : Nat} {col : Nat → Nat} {wA wB w1 : World} {e : Nat} {bo : Option Addr} {n c : Nat} {d : List UInt8} (hc : Cols B wA col) (k : Kp Noone wA wB) (h : Own (Ex Noone wB w1) w1 e 1 bo n c (bv d)) : DataP (fun j => col j = 0) w1 bo n c d := by
  refine ⟨h.bs, fun h0 a ha => ?_⟩
  have hl : 0 < (bv d).length := by rw [length_bv]; exact List.length_pos_iff.2 h0
  obtain ⟨b, off, e1, h1, h2, h3, -⟩ := h.at (k := 0) hl
  rw [ha] at e1
  cases e1
  have h4 := h1.none
  have h5 := k.size
  exact ⟨cols_new hc (show wA.heap.size ≤ b by omega), h4.2⟩
attribute [local irreducible] appendLF syncLF
set_option maxHeartbeats 4000000 in
set_option maxRecDepth 100000 in
theorem write_a (B : Nat) (col : Nat → Nat) (w : World) (p ql q : Nat) (s : DS) (l : LogP) (a : AcS) (ro : Option Addr) (rc : Nat) (L : List RecL) (i : Nat) (h : AcL col w p ql q s l a) (hc : Cols B w col) (hB : B ≤ w.heap.size) (hr : RecsC (fun j => col j = 0) w ro L) (hok : ∀ x ∈ L, RecOk x.1) (hL : L.length ≤ 1000) (hli : LI i s l) (hi : i ≤ 90000) :
    Calls Tryz.prog 42 #[.pointer (some ⟨q, 0, none⟩), .slice ro L.length rc] w fun e w' => WrtTo B col w p ql q a (writeF (L.map (fun x => recL x.1)) true 0 s l) (i + L.length + 1) e w' := by
  obtain ⟨R, hR⟩ : ∃ R, writeF (L.map (fun x => recL x.1)) true 0 s l = R := ⟨_, rfl⟩
  rw [hR]
  have H0 : Hid (WrX B col w p ql q a ro L i R 0 0 w) := Lib.hid ⟨⟨col, s, l, Ext.quiet hc (Kp.refl _ _), h, hr, hli, by rw [List.drop_zero]; exact hR⟩⟩
  have HOK := Lib.hid hok
  obtain ⟨n, hn⟩ : ∃ n, L.length = n := ⟨_, rfl⟩
  rw [hn] at hL ⊢
  have HN := Lib.hid hn
  clear h hc hr hok hli hR hn
  go_enter Tryz.func42, Tryz.ntmps42
  go_wp2_with fail
  go_loopw [6, 13] (fun v6 v13 wx => ∃ (j f : Nat), v13 = .int .i64 (j : Int) ∧ v6 = .int .i64 (f : Int) ∧ j ≤ n ∧ Hid (WrX B col w p ql q a ro L i R j f wx)) (fun _ u _ => (4194305 - intOf u).toNat)
  case atStart => exact ⟨0, 0, rfl, rfl, Nat.zero_le _, H0⟩
  case round =>
    obtain ⟨j, f, rfl, rfl, hj, hx⟩ := hrel
    clear H0
    obtain ⟨col1, s1, l1, e1, hA, hrc, hl1, hw1⟩ := hx.out.ex
    have HE1 := Lib.hid e1
    have HA := Lib.hid hA
    have HRC := Lib.hid hrc
    have HL1 := Lib.hid hl1
    have HW1 := Lib.hid hw1
    have HD1 := Lib.hid hA.lg.dk.2
    obtain ⟨b1, b2, b3, b4, b5⟩ := hl1.bd (by omega)
    have HB1 := Lib.hid (And.intro b1 (And.intro b2 (And.intro b3 (And.intro b4 b5))))
    clear e1 hA hl1 hw1 b1 b2 b3 b4 b5 hx
    by_cases hlt : j < n
    · have hltz : (j : Int) < (n : Int) := by omega
      have hwj : IntKind.i64.wrap ((j : Int) + 1) = (j : Int) + 1 := IntWalk.i64_in _ (by omega)
      obtain ⟨b, off, hno, ⟨y0, y1, y2, y3, y4, y5, y6, y7⟩⟩ := hrc.row.rec (k := j) (by have := HN.out; omega)
      have hLj : j < L.length := by have := HN.out; omega
      have HDR : Hid (L.drop j = L[j] :: L.drop (j + 1)) := Lib.hid (List.drop_eq_getElem_cons hLj)
      have hmem : L[j] ∈ L := List.getElem_mem hLj
      have HVC := Lib.hid (hrc.vals _ hmem)
      have HRO := Lib.hid (HOK.out _ hmem)
      generalize L[j] = x at *
      obtain ⟨x, m⟩ := x
      simp only [] at y0 y1 y2 y3 y4 y5 y6 y7 HVC HRO HDR
      have kA : Kp Noone wr (wr.alloc (.cells #[.int .i64 x.kind, .int .i64 x.epoch, .int .i64 x.slot, .int .i64 x.bal.round, .int .i64 x.bal.node, .int .i64 x.val.kind, .slice m.co x.val.cmds.length m.cc, .slice m.no x.val.next.length m.nc] 112)) := (Kp.refl _ _).alloc _
      have hbA := heap_alloc_new wr (.cells #[.int .i64 x.kind, .int .i64 x.epoch, .int .i64 x.slot, .int .i64 x.bal.round, .int .i64 x.bal.node, .int .i64 x.val.kind, .slice m.co x.val.cmds.length m.cc, .slice m.no x.val.next.length m.nc] 112)
      have HKA := Lib.hid kA
      have HBA := Lib.hid hbA
      subst hno
      clear hrc hLj hmem kA hbA
      go_upto_region 5 with fail
      generalize wr.alloc (.cells #[.int .i64 x.kind, .int .i64 x.epoch, .int .i64 x.slot, .int .i64 x.bal.round, .int .i64 x.bal.node, .int .i64 x.val.kind, .slice m.co x.val.cmds.length m.cc, .slice m.no x.val.next.length m.nc] 112) = wA at *
      have hg0 : col1 wr.heap.size = 0 := cols_new HE1.out.cols (Nat.le_refl _)
      generalize wr.heap.size = g at *
      have HEA := Lib.hid (HE1.out.trans (Ext.quiet HE1.out.cols HKA.out))
      have HAA := Lib.hid (HA.out.keep HKA.out)
      have HBW : Hid (∀ W, Kp Noone wA W → B ≤ W.heap.size) := Lib.hid (fun W kk => by have := HEA.out.size; have := kk.size; omega)
      have hby := fun W (kk : Kp Noone wA W) => bytes_any x m W ((HVC.out.keep HKA.out).keep kk).va HRO.out
      unfold recV at hby
      have hap : ∀ W bo c, Kp Noone wA W → DataP (fun j => col1 j = 0) W bo (recL x).length c (recL x) → Calls Tryz.prog 86 #[.pointer (some ⟨ql, 0, none⟩), .slice bo (recL x).length c] W fun e w' => LgTo B 5 0 col1 W p ql (appendLF s1 l1 (recL x)).1 (appendLF s1 l1 (recL x)).2.1 (.tuple #[.int .i64 ((appendLF s1 l1 (recL x)).2.2.1 : Int), .int .i64 ((appendLF s1 l1 (recL x)).2.2.2 : Int)]) e w' := fun W bo c kk hd => by
        obtain ⟨b1, b2, b3, b4, b5⟩ := HB1.out
        exact append_l B 5 0 col1 W p ql s1 l1 bo _ c _ (HAA.out.lg.keep kk) b1 (HEA.out.cols.keep kk.size) (HBW.out W kk) (by omega) hd (by omega) b2 b3 b4
      have HLN : Hid (LI (i + (j + 1)) (appendLF s1 l1 (recL x)).1 (appendLF s1 l1 (recL x)).2.1) := Lib.hid (HL1.out.append (by omega) HD1.out (recL x))
      have HWN : Hid (writeF ((L.drop j).map (fun x => recL x.1)) (j == 0) f s1 l1 = if (appendLF s1 l1 (recL x)).2.2.2 ≠ 0 then ((appendLF s1 l1 (recL x)).1, (appendLF s1 l1 (recL x)).2.1, 0, (appendLF s1 l1 (recL x)).2.2.2)
          else writeF ((L.drop (j + 1)).map (fun x => recL x.1)) false (if (j == 0) = true then (appendLF s1 l1 (recL x)).2.2.1 else f) (appendLF s1 l1 (recL x)).1 (appendLF s1 l1 (recL x)).2.1) := Lib.hid (by rw [HDR.out, List.map_cons, writeF])
      generalize appendLF s1 l1 (recL x) = AR at *
      obtain ⟨s2, l2, ix, er⟩ := AR
      simp only [] at hap HLN HWN
      have HQC : Hid (col1 q = 8) := Lib.hid (by obtain ⟨mb, M, h⟩ := HAA.out.ac; exact h.qc)
      have HSY : Hid (∀ W, Kp (fun j => SL 0 5 (col1 j)) wA W → (W.cell? ⟨q, 5, none⟩ = some (.pointer (some ⟨ql, 0, none⟩)) ∧ W.cell? ⟨g, 0, none⟩ = some (.int .i64 x.kind) ∧ W.cell? ⟨g, 1, none⟩ = some (.int .i64 x.epoch) ∧ W.cell? ⟨g, 2, none⟩ = some (.int .i64 x.slot) ∧ W.cell? ⟨g, 3, none⟩ = some (.int .i64 x.bal.round)) ∧ W.cell? ⟨g, 4, none⟩ = some (.int .i64 x.bal.node) ∧ W.cell? ⟨g, 5, none⟩ = some (.int .i64 x.val.kind) ∧ W.cell? ⟨g, 6, none⟩ = some (.slice m.co x.val.cmds.length m.cc) ∧ W.cell? ⟨g, 7, none⟩ = some (.slice m.no x.val.next.length m.nc)) := Lib.hid (fun W kk => by
        obtain ⟨mb, M, h⟩ := HAA.out.ac
        have hbx := kk.heap h.box (by rw [HQC.out]; exact sl_ac 8 (Or.inl rfl))
        unfold acCs at hbx
        have c6 := cells_6v hbx
        have c8 := cells_8v (kk.heap HBA.out (by rw [hg0]; exact sl_zero))
        exact ⟨⟨c6.c5, c8.1⟩, c8.2⟩)
      have kd : Kp Noone wA wA.drew := (Kp.refl _ _).drew
      obtain ⟨⟨z9, z0, z1, z2, z3⟩, z4, z5, z6, z7⟩ := HSY.out _ kd.none
      clear hg0 y0 y1 y2 y3 y4 y5 y6 y7
      go_region_held3 (fun W => (W.cell? ⟨q, 5, none⟩ = some (.pointer (some ⟨ql, 0, none⟩)) ∧ W.cell? ⟨g, 0, none⟩ = some (.int .i64 x.kind) ∧ W.cell? ⟨g, 1, none⟩ = some (.int .i64 x.epoch) ∧ W.cell? ⟨g, 2, none⟩ = some (.int .i64 x.slot) ∧ W.cell? ⟨g, 3, none⟩ = some (.int .i64 x.bal.round)) ∧ W.cell? ⟨g, 4, none⟩ = some (.int .i64 x.bal.node) ∧ W.cell? ⟨g, 5, none⟩ = some (.int .i64 x.val.kind) ∧ W.cell? ⟨g, 6, none⟩ = some (.slice m.co x.val.cmds.length m.cc) ∧ W.cell? ⟨g, 7, none⟩ = some (.slice m.no x.val.next.length m.nc))
        (first | with_reducible exact HSY.out _ kd.none | with_reducible exact HSY.out _ kk.none | with_reducible exact HSY.out _ kz)
        (first
          | (go_at_call 87; refine (hby _ kd).mono ?_; rintro e w1 ⟨bo, bc, rfl, hob, k1⟩; have kk := kd.trans k1; have hdp : DataP (fun j => col1 j = 0) w1 bo (recL x).length bc (recL x) := data_new HEA.out.cols kd hob)
          | (go_at_call 86; refine (hap _ bo bc kk hdp).mono ?_; rintro e w2 ⟨⟨col2, rfl, x2, lg2⟩⟩; have kz := (kk.none (S := fun j => SL 0 5 (col1 j))).trans x2.kp))
      have HE2 := Lib.hid (HEA.out.trans ((Ext.quiet HEA.out.cols kk).trans x2))
      have HA2 : Hid (AcL col2 w2 p ql q s2 l2 a) := Lib.hid ⟨lg2, (HAA.out.ac.keep kk).ext x2 (sl_ac 8 (Or.inl rfl)) (sl_ac 9 (Or.inr (Or.inl rfl))) (sl_ac 10 (Or.inr (Or.inr rfl)))⟩
      have HR2 := Lib.hid (((HRC.out.kp HKA.out (fun _ _ d => d)).kp kk (fun _ _ d => d)).ext x2 sl_zero)
      clear kd kk kz hdp hob k1 x2 lg2 z9 z0 z1 z2 z3 z4 z5 z6 z7 hby hap
      by_cases her : er = 0
      case neg =>
        have hne : ((er : Int) != 0) = true := by simp only [bne_iff_ne, ne_eq]; omega
        have HRR : Hid (R = (s2, l2, 0, er)) := Lib.hid (by rw [← HW1.out, HWN.out, if_pos her])
        clear her
        go_wp2_with fail
        go_ret2
        exact ⟨⟨col2, by rw [HRR.out]; rfl, HE2.out, by rw [HRR.out]; exact HA2.out⟩, by rw [HRR.out]; exact HLN.out.mono (by omega)⟩
      subst her
      obtain ⟨f2, hf2⟩ : ∃ f2, Hid (f2 = if (j == 0) = true then ix else f) := ⟨_, Lib.hid rfl⟩
      have HX2 : Hid (WrX B col w p ql q a _ L i R (j + 1) f2 w2) := Lib.hid ⟨⟨col2, s2, l2, HE2.out, HA2.out, HR2.out, HLN.out, by
        rw [← HW1.out, HWN.out, if_neg (by simp), ← hf2.out]
        rfl⟩⟩
      by_cases hj0 : j = 0
      · subst hj0
        have hfx : f2 = ix := by rw [hf2.out]; rfl
        subst hfx
        go_wp2_with fail
        go_roundw
        case rel => exact ⟨0 + 1, _, rfl, rfl, hlt, HX2⟩
        case measure => exact meas_small 0 n hlt (by omega)
      · have hfx : f2 = f := by rw [hf2.out, if_neg (by simpa using hj0)]
        subst hfx
        have hq : ((j : Int) == 0) = false := by rw [beq_eq_false_iff_ne]; omega
        clear hj0
        go_wp2_with fail
        go_roundw
        case rel => exact ⟨j + 1, _, rfl, rfl, hlt, HX2⟩
        case measure => exact meas_small j n hlt (by omega)
    · obtain rfl : j = n := by omega
      have HWZ : Hid (R = ((syncLF s1 l1).1, (syncLF s1 l1).2.1, f, (syncLF s1 l1).2.2)) := Lib.hid (by
        rw [← HW1.out, List.drop_eq_nil_of_le (by rw [HN.out]; exact Nat.le_refl _), List.map_nil, writeF])
      have hsy := sync_l B 5 0 col1 wr p ql s1 l1 HA.out.lg HB1.out.1 HE1.out.cols (by have := HE1.out.size; omega) (by omega) (by have := HB1.out.2.2.2.2; omega)
      have hz5 : wr.cell? ⟨q, 5, none⟩ = some (.pointer (some ⟨ql, 0, none⟩)) := by
        obtain ⟨mb, M, h⟩ := HA.out.ac
        have hbx := h.box
        unfold acCs at hbx
        exact (cells_6v hbx).c5
      have HLS := Lib.hid (HL1.out.sync (by omega) HD1.out)
      generalize syncLF s1 l1 = SR at *
      obtain ⟨s2, l2, er⟩ := SR
      simp only [] at hsy HWZ HLS
      clear hlt hrc
      go_wp2_with fail
      refine hsy.mono ?_
      clear hsy
      rintro e w2 hto
      obtain ⟨col2, rfl, x2, lg2⟩ := hto.ex
      have HE2 := Lib.hid (HE1.out.trans x2)
      have HA2 : Hid (AcL col2 w2 p ql q s2 l2 a) := Lib.hid ⟨lg2, HA.out.ac.ext x2 (sl_ac 8 (Or.inl rfl)) (sl_ac 9 (Or.inr (Or.inl rfl))) (sl_ac 10 (Or.inr (Or.inr rfl)))⟩
      clear hto x2 lg2 hz5
      go_wp2_with fail
      go_ret2
      exact ⟨⟨col2, by rw [HWZ.out]; rfl, HE2.out, by rw [HWZ.out]; exact HA2.out⟩, by rw [HWZ.out]; exact HLS.out⟩

end Go.Proofs.YtgbgbokcohfnpaaGreat
