/-
  The texts AccRaise, AccMsg in one: what the claim reaches of them.
-/
import Derived.Test.YtgbgbokcohfnpaaGreatP24
import Derived.Test.YtgbgbokcohfnpaaGreatP22
import Derived.Test.YtgbgbokcohfnpaaGreatP19
/-
  THE WALK of Raise.
-/
namespace Go.Proofs.YtgbgbokcohfnpaaGreat
open Go.RowKit

/-- An acceptor's state that its calls keep. -/
structure AOk (a : AcS) : Prop where
  ep : 0 ≤ a.epoch ∧ a.epoch ≤ 1099511627776
  fl : 0 ≤ a.floor ∧ a.floor ≤ 1099511627776
  rd : 0 ≤ a.prom.round ∧ a.prom.round ≤ 1099511627776
  nd : 0 ≤ a.prom.node ∧ a.prom.node ≤ 9
  up : Up9 a.votes
  vs : ∀ v ∈ a.votes, valF v.val = 0 ∧ a.floor < v.slot ∧ v.slot ≤ 1099511627776 ∧ (0 ≤ v.bal.round ∧ v.bal.round ≤ 1099511627776) ∧ (0 ≤ v.bal.node ∧ v.bal.node ≤ 9) ∧ belowB a.prom v.bal = false
theorem AOk.rcd {a : AcS} (h : AOk a) {v : VoteR} (hv : v ∈ a.votes) : RecOk (voteRec a.epoch v) := by
  obtain ⟨h1, h2, h3, h4, h5, h6⟩ := h.vs v hv
  have := h.fl
  exact ⟨show (0 : Int) ≤ 2 ∧ (2 : Int) ≤ 3 by decide, h.ep, ⟨by show 0 ≤ v.slot; omega, h3⟩, h4, h5, h1⟩
theorem AOk.small {a : AcS} (h : AOk a) {v : VoteR} (hv : v ∈ a.votes) : v.val.cmds.length ≤ 8 ∧ v.val.next.length ≤ 7 := ⟨valF_cmds (h.vs v hv).1, valF_next (h.vs v hv).1⟩
def vRecL (e : Int) (p : VoteL) : RecL := (voteRec e p.1, p.2)
theorem arsV_app (a b : List RecL) : arsV (a ++ b) = arsV a ++ arsV b := by unfold arsV; simp
theorem arsV_one (p : RecL) : arsV [p] = arCs p := by unfold arsV; simp
theorem arCs_one (p : RecL) : ∀ u ∈ arCs p, u.oneCell' = true := by
  intro u hu
  simp [arCs] at hu
  rcases hu with h | h | h | h | h | h | h | h <;> subst h <;> rfl
structure Cells6o (w : World) (b o : Nat) (p : VoteL) : Prop where
  c0 : w.cell? ⟨b, o, none⟩ = some (.int .i64 p.1.slot)
  c1 : w.cell? ⟨b, o + 1, none⟩ = some (.int .i64 p.1.bal.round)
  c2 : w.cell? ⟨b, o + 2, none⟩ = some (.int .i64 p.1.bal.node)
  c3 : w.cell? ⟨b, o + 3, none⟩ = some (.int .i64 p.1.val.kind)
  c4 : w.cell? ⟨b, o + 4, none⟩ = some (.slice p.2.co p.1.val.cmds.length p.2.cc)
  c5 : w.cell? ⟨b, o + 5, none⟩ = some (.slice p.2.no p.1.val.next.length p.2.nc)
theorem Row.vote {w : World} {ao : Option Addr} {L : List VoteL} (h : Row w ao (votesV L)) {k : Nat} (hk : k < L.length) : ∃ b off, ao = some ⟨b, off, none⟩ ∧ Cells6o w b (off + k * 6) L[k] := by
  have hl := length_votesV L
  rcases h with h0 | ⟨b, off, rfl, hr⟩
  · rw [h0] at hl
    simp at hl
    omega
  · have hc : ∀ j, j < 6 → w.cell? ⟨b, off + k * 6 + j, none⟩ = (voteCs L[k])[j]? := fun j hj => by
      have h1 := hr (k * 6 + j) (by omega)
      rw [Nat.add_assoc, h1, ← votesV_get L k j hk hj, List.getElem?_eq_getElem]
    refine ⟨b, off, rfl, ?_, ?_, ?_, ?_, ?_, ?_⟩
    · exact hc 0 (by omega)
    · exact hc 1 (by omega)
    · exact hc 2 (by omega)
    · exact hc 3 (by omega)
    · exact hc 4 (by omega)
    · exact hc 5 (by omega)
theorem own_new {F : Nat → Prop} {w : World} {g T sz : Nat} {cs : Array Value} (h : w.heap[g]? = some (.cells cs T (0, 0))) (hs : cs.size = sz) (hg : F g) : Own F w T sz (some ⟨g, 0, none⟩) 1 1 cs.toList := by
  refine ⟨by simp [hs], Nat.le_refl _, by decide, Or.inr ⟨g, 0, cs, rfl, hg, h, by omega, fun i hi => ?_⟩⟩
  have hi2 : i < cs.size := by simpa using hi
  rw [Nat.zero_add, Array.getElem?_eq_getElem hi2]
  simp
/-- The loop of Raise: j votes laid behind the base. -/
structure RaX (w wv : World) (g : Nat) (ep : Int) (L0 : RecL) (M : List VoteL) (xo : Option Addr) (xc j : Nat) (wx : World) : Prop where
  own : Own (fun b => b = g ∨ wv.heap.size ≤ b) wx 112 8 xo (1 + j) xc (arsV (L0 :: (M.take j).map (vRecL ep)))
  kp : Kp (fun b => b = g) wv wx
set_option maxHeartbeats 2000000 in
set_option maxRecDepth 100000 in
theorem raiseO_a (B : Nat) (col : Nat → Nat) (w : World) (p ql q : Nat) (s : DS) (l : LogP) (a : AcS) (fl : Int) (i : Nat) (h : AcL col w p ql q s l a) (hc : Cols B w col) (hB : B ≤ w.heap.size) (hli : LI i s l) (hi : i ≤ 80000) (ha : AOk a) (hlen : a.votes.length ≤ 900) :
    Calls Tryz.prog 14 #[.pointer (some ⟨q, 0, none⟩), .int .i64 fl] w fun e w' => CallTo B col w p ql q (raiseO s l a fl) (i + a.votes.length + 3) e w' := by
  obtain ⟨i0, hi0, hz0, hz1, hz2⟩ := info_parts (P := Tryz.prog) (e := 112) (z := .agg #[.int .i64 0, .int .i64 0, .int .i64 0, .int .i64 0, .int .i64 0, .int .i64 0, .slice none 0 0, .slice none 0 0]) (size := 8) (bytes := 96) (by kernel_rfl)
  obtain ⟨R, hR⟩ : ∃ R, Hid (raiseO s l a fl = R) := ⟨_, Lib.hid rfl⟩
  rw [hR.out]
  obtain ⟨mb, x0, x1, x2, x3, x4, x5⟩ := h.logc
  have HA := Lib.hid h
  have HC := Lib.hid hc
  have HB := Lib.hid hB
  have HLI := Lib.hid hli
  have HI := Lib.hid hi
  have HOK := Lib.hid ha
  have HLEN := Lib.hid hlen
  clear h hc hB hli hi ha hlen
  by_cases hbad : fl < a.floor ∨ 1099511627776 < fl
  · have HF : Hid (CallTo B col w p ql q R (i + a.votes.length + 3) (.returned (.int .i64 (1 : Int))) w) := Lib.hid (by
      have hr := hR.out
      unfold raiseO at hr
      rw [if_pos hbad] at hr
      subst hr
      exact ⟨⟨col, rfl, Ext.quiet HC.out (Kp.refl _ _), HA.out⟩, HLI.out.mono (by omega)⟩)
    go_enter Tryz.func14, Tryz.ntmps14
    by_cases h1 : fl < a.floor
    · clear hbad
      go_wp2_with fail
      go_ret
      exact HF.out
    have h4 : 1099511627776 < fl := by omega
    clear hbad
    go_wp2_with fail
    go_ret
    exact HF.out
  have h1 : ¬ fl < a.floor := fun c => hbad (Or.inl c)
  have h2 : ¬ 1099511627776 < fl := fun c => hbad (Or.inr c)
  by_cases heq : fl = a.floor
  · have HF : Hid (CallTo B col w p ql q R (i + a.votes.length + 3) (.returned (.int .i64 (0 : Int))) w) := Lib.hid (by
      have hr := hR.out
      unfold raiseO at hr
      rw [if_neg hbad, if_pos heq] at hr
      subst hr
      exact ⟨⟨col, rfl, Ext.quiet HC.out (Kp.refl _ _), HA.out⟩, HLI.out.mono (by omega)⟩)
    clear hbad
    subst heq
    go_enter Tryz.func14, Tryz.ntmps14
    go_wp2_with fail
    go_ret
    exact HF.out
  have HR2 : Hid (raiseW a fl (writeF ((raiseRecs a fl).map recL) true 0 s l) = R) := Lib.hid (by
    have hr := hR.out
    unfold raiseO at hr
    rw [if_neg hbad, if_neg heq] at hr
    exact hr)
  have hq : (fl == a.floor) = false := by rw [beq_eq_false_iff_ne]; exact heq
  clear hbad hR heq
  go_enter Tryz.func14, Tryz.ntmps14
  go_upto_region 5 with fail
  have kd : Kp Noone w w.drew := (Kp.refl _ _).drew
  have HS : Hid (∀ W, Kp Noone w W → (W.cell? ⟨q, 0, none⟩ = some (.int .i64 a.epoch) ∧ W.cell? ⟨q, 2, none⟩ = some (.int .i64 a.prom.round) ∧ W.cell? ⟨q, 3, none⟩ = some (.int .i64 a.prom.node))) := Lib.hid (fun W kk => by
    obtain ⟨mb, x0, x1, x2, x3, x4, x5⟩ := (HA.out.keep kk).logc
    exact ⟨x0, x2, x3⟩)
  have kA : Kp Noone w (w.alloc (.cells #[.int .i64 3, .int .i64 a.epoch, .int .i64 fl, .int .i64 a.prom.round, .int .i64 a.prom.node, .int .i64 0, .slice none 0 0, .slice none 0 0] 112)).drew := ((Kp.refl _ _).alloc _).drew
  have hrw : Row (w.alloc (.cells #[.int .i64 3, .int .i64 a.epoch, .int .i64 fl, .int .i64 a.prom.round, .int .i64 a.prom.node, .int .i64 0, .slice none 0 0, .slice none 0 0] 112)).drew (some ⟨w.heap.size, 0, none⟩) (arCs (⟨3, a.epoch, fl, a.prom, val0⟩, loc9)) := (Row.ofHeap (heap_alloc_new w _)).keep (Kp.refl _ _).drew
  have hnew : (w.alloc (.cells #[.int .i64 3, .int .i64 a.epoch, .int .i64 fl, .int .i64 a.prom.round, .int .i64 a.prom.node, .int .i64 0, .slice none 0 0, .slice none 0 0] 112)).drew.heap[w.heap.size]? = some (.cells #[.int .i64 3, .int .i64 a.epoch, .int .i64 fl, .int .i64 a.prom.round, .int .i64 a.prom.node, .int .i64 0, .slice none 0 0, .slice none 0 0] 112 (0, 0)) := heap_alloc_new w _
  clear x1 x4 x5
  go_region_held3 (fun W => W.cell? ⟨q, 0, none⟩ = some (.int .i64 a.epoch) ∧ W.cell? ⟨q, 2, none⟩ = some (.int .i64 a.prom.round) ∧ W.cell? ⟨q, 3, none⟩ = some (.int .i64 a.prom.node))
    (first | with_reducible exact HS.out _ kd | with_reducible exact HS.out _ kA)
    (fail)
  generalize (w.alloc (.cells #[.int .i64 3, .int .i64 a.epoch, .int .i64 fl, .int .i64 a.prom.round, .int .i64 a.prom.node, .int .i64 0, .slice none 0 0, .slice none 0 0] 112)).drew = wA at *
  have HRW := Lib.hid hrw
  have HNEW := Lib.hid hnew
  generalize hgs : w.heap.size = g at *
  have HGS := Lib.hid hgs
  have HKA := Lib.hid kA
  have HA1 := Lib.hid (HA.out.keep kA)
  have hok := HOK.out
  have hvo := votes_a 8 col wA q ql a (fl + 1) HA1.out.ac hok.up (fun v hv => hok.small hv) (by have := HLEN.out; omega)
  have hwf : IntKind.i64.wrap (fl + 1) = fl + 1 := IntWalk.i64_in _ (by have := hok.fl; omega)
  clear hok kA kd hrw hnew hgs x0 x2 x3
  go_wp2_with fail
  refine hvo.mono ?_
  clear hvo
  rintro e wv ⟨⟨vo, vc, M, D, rfl, hM, hown, hvals⟩, kv⟩
  have hn : (fromV a.votes (fl + 1)).length = M.length := by rw [← hM, List.length_map]
  have hML : M.length ≤ 900 := by
    have h1 : (fromV a.votes (fl + 1)).length ≤ a.votes.length := List.length_filter_le _ _
    have := HLEN.out
    omega
  have HM := Lib.hid hM
  have HN := Lib.hid hn
  rw [hn]
  obtain ⟨n, hnn⟩ : ∃ n, M.length = n := ⟨_, rfl⟩
  have HNN := Lib.hid hnn
  rw [hnn] at hML ⊢
  have HO := Lib.hid hown
  have HV := Lib.hid hvals
  have HKV := Lib.hid kv
  obtain ⟨L0, hL0⟩ : ∃ L0 : RecL, L0 = (⟨3, a.epoch, fl, a.prom, val0⟩, loc9) := ⟨_, rfl⟩
  have HL0 := Lib.hid hL0
  have H0 : Hid (RaX w wv g a.epoch L0 M (some ⟨g, 0, none⟩) 1 0 wv) := Lib.hid (by
    refine ⟨?_, Kp.refl _ _⟩
    rw [List.take_zero, List.map_nil, arsV_one, hL0]
    exact own_new (kv.heap HNEW.out id) rfl (Or.inl rfl))
  have HQV : Hid (AcL col wv p ql q s l a) := Lib.hid (HA1.out.keep kv)
  have HGL : Hid (g < wA.heap.size ∧ wA.heap.size ≤ wv.heap.size) := Lib.hid ⟨(Array.getElem?_eq_some_iff.1 HNEW.out).1, kv.size⟩
  have HQG : Hid (q < g) := Lib.hid (by
    obtain ⟨mb, M, h9⟩ := HA.out.ac
    have := (Array.getElem?_eq_some_iff.1 h9.box).1
    have := HGS.out
    omega)
  have HKW : Hid (Kp Noone w wv) := Lib.hid (HKA.out.trans kv)
  have HFB := Lib.hid (And.intro h1 h2)
  clear hM hn hnn hown hvals kv hL0 hq h1 h2
  clear HNEW HRW
  go_wp2_with fail
  go_loopw [5, 50] (fun v5 v50 wx => ∃ (j : Nat) (xo : Option Addr) (xc : Nat), v50 = .int .i64 (j : Int) ∧ v5 = .slice xo (1 + j) xc ∧ j ≤ n ∧ Hid (RaX w wv g a.epoch L0 M xo xc j wx)) (fun _ u _ => (4194305 - intOf u).toNat)
  case atStart => exact ⟨0, some ⟨g, 0, none⟩, 1, rfl, rfl, Nat.zero_le _, H0⟩
  case round =>
    obtain ⟨j, xo, xc, rfl, rfl, hj, hx⟩ := hrel
    clear H0
    have HX := Lib.hid hx.out.own
    have HKX := Lib.hid hx.out.kp
    clear hx
    by_cases hlt : j < n
    · have hltz : (j : Int) < (n : Int) := by omega
      have hwj : IntKind.i64.wrap ((j : Int) + 1) = (j : Int) + 1 := IntWalk.i64_in _ (by omega)
      have hjM : j < M.length := by have := HNN.out; omega
      have hrow : Row wr vo (votesV M) := (HO.out.kp HKX.out (fun b d e => by have := d.1.none; have := HGL.out; subst e; omega)).row
      obtain ⟨b, off, hvo, ⟨y0, y1, y2, y3, y4, y5⟩⟩ := hrow.vote hjM
      have HMJ : Hid (M.take (j + 1) = M.take j ++ [M[j]]) := Lib.hid (by rw [List.take_add_one, List.getElem?_eq_getElem hjM]; rfl)
      generalize M[j] = x at *
      obtain ⟨v, m⟩ := x
      simp only [] at y0 y1 y2 y3 y4 y5
      subst hvo
      have kA : Kp Noone wr (wr.alloc (.cells #[.int .i64 v.slot, .int .i64 v.bal.round, .int .i64 v.bal.node, .int .i64 v.val.kind, .slice m.co v.val.cmds.length m.cc, .slice m.no v.val.next.length m.nc] 56)) := (Kp.refl _ _).alloc _
      have hbA := heap_alloc_new wr (.cells #[.int .i64 v.slot, .int .i64 v.bal.round, .int .i64 v.bal.node, .int .i64 v.val.kind, .slice m.co v.val.cmds.length m.cc, .slice m.no v.val.next.length m.nc] 56)
      have HKA := Lib.hid kA
      have HBA := Lib.hid hbA
      clear hrow kA hbA hjM
      go_upto_region 9 with fail
      generalize wr.alloc (.cells #[.int .i64 v.slot, .int .i64 v.bal.round, .int .i64 v.bal.node, .int .i64 v.val.kind, .slice m.co v.val.cmds.length m.cc, .slice m.no v.val.next.length m.nc] 56) = wA at *
      have HXA := Lib.hid ((HX.out.mono (G := fun b => (b = g ∨ wv.heap.size ≤ b) ∧ b < wr.heap.size) (fun b hb d => ⟨d, hb⟩)).keep HKA.out)
      generalize hg2 : wr.heap.size = g2 at *
      have HG2 : Hid (wv.heap.size ≤ g2) := Lib.hid (by have := HKX.out.size; omega)
      clear hg2
      have HS9 : Hid (∀ W, Kp (fun b => (b = g ∨ wv.heap.size ≤ b) ∧ b < g2) wA W → W.cell? ⟨q, 0, none⟩ = some (.int .i64 a.epoch) ∧ (W.cell? ⟨g2, 0, none⟩ = some (.int .i64 v.slot) ∧ W.cell? ⟨g2, 1, none⟩ = some (.int .i64 v.bal.round) ∧ W.cell? ⟨g2, 2, none⟩ = some (.int .i64 v.bal.node)) ∧ W.cell? ⟨g2, 3, none⟩ = some (.int .i64 v.val.kind) ∧ W.cell? ⟨g2, 4, none⟩ = some (.slice m.co v.val.cmds.length m.cc) ∧ W.cell? ⟨g2, 5, none⟩ = some (.slice m.no v.val.next.length m.nc)) := Lib.hid (fun W kk => by
        obtain ⟨mb, M9, h9⟩ := HQV.out.ac
        have hb := ((HKX.out.heap h9.box (by have := HQG.out; omega)))
        have hq := (Array.getElem?_eq_some_iff.1 h9.box).1
        have hb := kk.heap (HKA.out.heap hb id) (fun d => by have := HQG.out; omega)
        unfold acCs at hb
        have c0 := cells_6v (kk.heap HBA.out (fun d => by omega))
        exact ⟨(cells_6v hb).c0, ⟨c0.c0, c0.c1, c0.c2⟩, c0.c3, c0.c4, c0.c5⟩)
      clear y0 y1 y2 y3 y4 y5
      have kd : Kp Noone wA wA.drew := (Kp.refl _ _).drew
      have kB : Kp Noone wA (wA.alloc (.cells #[.int .i64 2, .int .i64 a.epoch, .int .i64 v.slot, .int .i64 v.bal.round, .int .i64 v.bal.node, .int .i64 v.val.kind, .slice m.co v.val.cmds.length m.cc, .slice m.no v.val.next.length m.nc] 112)).drew := ((Kp.refl _ _).alloc _).drew
      have hrB : Row (wA.alloc (.cells #[.int .i64 2, .int .i64 a.epoch, .int .i64 v.slot, .int .i64 v.bal.round, .int .i64 v.bal.node, .int .i64 v.val.kind, .slice m.co v.val.cmds.length m.cc, .slice m.no v.val.next.length m.nc] 112)).drew (some ⟨wA.heap.size, 0, none⟩) (arCs (vRecL a.epoch (v, m))) := (Row.ofHeap (heap_alloc_new wA _)).keep (Kp.refl _ _).drew
      have hoB := HXA.out.keep kB
      have HKB := Lib.hid kB
      have HRB := Lib.hid hrB
      have HOB := Lib.hid hoB
      have kd9 := kd.none (S := fun b => (b = g ∨ wv.heap.size ≤ b) ∧ b < g2)
      have kB9 := kB.none (S := fun b => (b = g ∨ wv.heap.size ≤ b) ∧ b < g2)
      obtain ⟨y0, ⟨z0, z1, z2⟩, z3, z4, z5⟩ := HS9.out _ kd9
      clear hrB hoB
      go_region_held3 (fun W => W.cell? ⟨q, 0, none⟩ = some (.int .i64 a.epoch) ∧ (W.cell? ⟨g2, 0, none⟩ = some (.int .i64 v.slot) ∧ W.cell? ⟨g2, 1, none⟩ = some (.int .i64 v.bal.round) ∧ W.cell? ⟨g2, 2, none⟩ = some (.int .i64 v.bal.node)) ∧ W.cell? ⟨g2, 3, none⟩ = some (.int .i64 v.val.kind) ∧ W.cell? ⟨g2, 4, none⟩ = some (.slice m.co v.val.cmds.length m.cc) ∧ W.cell? ⟨g2, 5, none⟩ = some (.slice m.no v.val.next.length m.nc))
        (first | with_reducible exact HS9.out _ kd9 | with_reducible exact HS9.out _ kB9 | with_reducible exact HS9.out _ k9)
        (first
          | (refine step_append_gen rfl (.tmp 54) (.tmp 67) 116 (by dsimp only) 112 i0 (.agg #[.int .i64 0, .int .i64 0, .int .i64 0, .int .i64 0, .int .i64 0, .int .i64 0, .slice none 0 0, .slice none 0 0]) 8 96 Tryz.underlying116 hi0 hz0 hz1 hz2 rfl xo (1 + j) xc (by rfl) (some ⟨wA.heap.size, 0, none⟩) 1 1 (by rfl) _ _ HOB.out (arCs (vRecL a.epoch (v, m))) rfl HRB.out (arCs_one _) (by omega) (by unfold maxLen; omega) ?_; intro xo3 xc3 w3 ho3 k3; have k9 := kB9.trans k3))
      have HX3 : Hid (RaX w wv g a.epoch L0 M xo3 xc3 (j + 1) w3) := Lib.hid (by
        refine ⟨?_, ?_⟩
        · rw [HMJ.out, List.map_append, ← List.cons_append, arsV_app, List.map_cons, List.map_nil, arsV_one]
          exact ho3.mono (fun b hb d => by
            rcases d with d | d
            · exact d.1
            · have := HKB.out.size
              have := HKA.out.size
              have := HKX.out.size
              exact Or.inr (by omega))
        · exact ((HKX.out.trans (HKA.out.none (S := fun b => b = g))).trans (HKB.out.none (S := fun b => b = g))).fin k3 (fun b d => d.1))
      clear ho3 k3 k9 kd kB kd9 kB9 y0 z0 z1 z2 z3 z4 z5
      go_wp2_with fail
      go_roundw
      case rel => exact ⟨j + 1, _, _, rfl, rfl, hlt, HX3⟩
      case measure => exact meas_small j n hlt (by omega)
    · obtain rfl : j = n := by omega
      have HTK : Hid (M.take j = M) := Lib.hid (by rw [← HNN.out]; exact List.take_length)
      have HKN : Hid (Kp Noone w wr) := Lib.hid (HKW.out.fin HKX.out (fun b d => Or.inr (by have := HGS.out; omega)))
      have hL : (raiseRecs a fl).map recL = (L0 :: M.map (vRecL a.epoch)).map (fun x => recL x.1) := by
        unfold raiseRecs
        rw [← HM.out, List.map_cons, List.map_cons, HL0.out, List.map_map, List.map_map, List.map_map]
        rfl
      have hrc : RecsC (fun b => col b = 0) wr xo (L0 :: M.map (vRecL a.epoch)) := by
        have ho := HX.out
        rw [HTK.out] at ho
        refine ⟨ho.row, fun _ x e => ?_, fun p hp => ?_⟩
        · obtain ⟨b, off, e1, h1, h2, h3, -⟩ := ho.at (k := 0) (by rw [length_arsV]; simp)
          rw [e] at e1
          cases e1
          refine ⟨cols_new HC.out (show w.heap.size ≤ b from ?_), h2⟩
          have := HGS.out
          have := HKW.out.size
          rcases h1 with h1 | h1 <;> omega
        · rcases List.mem_cons.1 hp with hp | hp
          · rw [hp, HL0.out]; exact ValC.zero _ _
          · obtain ⟨x, hx, rfl⟩ := List.mem_map.1 hp
            have hv := ((HV.out x hx).kp HKX.out (fun b d e => by have := d.1.none; have := HGL.out; subst e; omega)).in
            exact hv.mono (fun b hb d => cols_new HC.out (by have := d.1.none; have := HKA.out.size; omega))
      have hok : ∀ x ∈ (L0 :: M.map (vRecL a.epoch)), RecOk x.1 := fun x hx => by
        rcases List.mem_cons.1 hx with hx | hx
        · rw [hx, HL0.out]
          have hk := HOK.out
          have hfb := HFB.out
          exact ⟨show (0 : Int) ≤ 3 ∧ (3 : Int) ≤ 3 by decide, hk.ep, ⟨by have := hk.fl; show 0 ≤ fl; omega, by show fl ≤ 1099511627776; omega⟩, hk.rd, hk.nd, show valF val0 = 0 by decide⟩
        · obtain ⟨y, hy, rfl⟩ := List.mem_map.1 hx
          have h1 : y.1 ∈ fromV a.votes (fl + 1) := by rw [← HM.out]; exact List.mem_map_of_mem (f := (·.1)) hy
          exact HOK.out.rcd (List.mem_filter.1 h1).1
      have hLl : (L0 :: M.map (vRecL a.epoch)).length = 1 + j := by rw [List.length_cons, List.length_map, HNN.out]; omega
      have hw := write_a B col wr p ql q s l a xo xc (L0 :: M.map (vRecL a.epoch)) i (HA.out.keep HKN.out) (HC.out.keep HKN.out.size) (by have := HKN.out.size; have := HB.out; have := HGS.out; omega) hrc hok (by omega) HLI.out (by have := HI.out; omega)
      rw [← hL, hLl] at hw
      have hij : i + (1 + j) + 1 ≤ i + a.votes.length + 2 := by
        have h1 : (fromV a.votes (fl + 1)).length ≤ a.votes.length := List.length_filter_le _ _
        have := HN.out
        have := HNN.out
        omega
      have HIJ := Lib.hid hij
      have eA := Ext.quiet (S := SX) HC.out HKN.out
      generalize writeF ((raiseRecs a fl).map recL) true 0 s l = WR at *
      obtain ⟨s2, l2, n2, e2⟩ := WR
      clear hok hrc hL hLl hlt hij
      go_wp2_with fail
      refine hw.mono ?_
      clear hw
      rintro e w1 hto
      obtain ⟨⟨col1, rfl, e1, hA1⟩, hl1⟩ := hto
      simp only [] at hA1 hl1 HR2 ⊢
      have HE1 := Lib.hid (eA.trans (e1.mono sl_sx))
      have HA1 := Lib.hid hA1
      have HL1 := Lib.hid hl1
      obtain ⟨mb1, y0, y1, y2, y3, y4, y5⟩ := hA1.logc
      clear eA e1 hA1 hl1 y0 y1 y2 y3 y4
      by_cases h0 : e2 = 0
      case neg =>
        have hne : ((e2 : Int) != 0) = true := by simp only [bne_iff_ne, ne_eq]; omega
        have HF : Hid (CallTo B col w p ql q R (i + a.votes.length + 3) (.returned (.int .i64 (e2 : Int))) w1) := Lib.hid (by
          rw [← HR2.out]
          unfold raiseW
          rw [if_pos h0]
          exact ⟨⟨col1, rfl, HE1.out, HA1.out⟩, HL1.out.mono (by have := HIJ.out; omega)⟩)
        clear h0
        go_wp2_with fail
        go_ret
        exact HF.out
      subst h0
      have hen := raise_a B 8 col1 w1 q ql a fl HA1.out.ac HE1.out.cols (by have := HB.out; have := HGS.out; have := HE1.out.size; omega) (by decide)
      go_wp2_with fail
      refine hen.mono ?_
      clear hen
      rintro e w2 ⟨rfl, ⟨col2, e2, ha2⟩⟩
      have HA2 := Lib.hid (HA1.out.ext_a HE1.out.cols e2 ha2)
      have HE2 := Lib.hid (HE1.out.trans (e2.mono sa_sx))
      obtain ⟨mb2, z0, z1, z2, z3, z4, z5⟩ := HA2.out.logc
      have hbd := HL1.out.bd (by have := HI.out; have := HIJ.out; have := HLEN.out; omega)
      have htr := trim_l B 5 0 col2 w2 p ql s2 l2 (n2 : Int) HA2.out.lg hbd.1 HE2.out.cols (by have := HB.out; have := HGS.out; have := HE2.out.size; omega) (by omega) (by have := hbd.2.2.2.2; omega)
      have HTI := Lib.hid (HL1.out.trim (by have := HI.out; have := HIJ.out; have := HLEN.out; omega) HA2.out.lg.dk.2 (n2 : Int))
      clear hbd e2 ha2 y5 z0 z1 z2 z3 z4
      go_wp2_with fail
      refine htr.mono ?_
      clear htr
      rintro e w3 ⟨⟨col3, rfl, e3, lg3⟩⟩
      have HF : Hid (CallTo B col w p ql q R (i + a.votes.length + 3) (.returned (.int .i64 ((trimLF s2 l2 (n2 : Int)).2.2 : Int))) w3) := Lib.hid (by
        rw [← HR2.out]
        unfold raiseW
        rw [if_neg (by simp)]
        exact ⟨⟨col3, rfl, HE2.out.trans (e3.mono sl_sx), HA2.out.ext_s e3 lg3⟩, HTI.out.mono (by have := HIJ.out; omega)⟩)
      clear e3 lg3 z5
      go_wp2_with fail
      go_ret
      exact HF.out

end Go.Proofs.YtgbgbokcohfnpaaGreat

/-
  A MESSAGE IN MEMORY: its 25 cells; what Prepare and Accept leave.
-/
namespace Go.Proofs.YtgbgbokcohfnpaaGreat
open Go.RowKit

/-- The cells of a message. -/
def msgCs (m : MsgR) (vo : Option Addr) (vc : Nat) (l : VLoc) : Array Value := #[.int .i64 m.kind, .int .i64 0, .int .i64 0, .int .i64 m.epoch, .int .i64 m.bal.round, .int .i64 m.bal.node, .int .i64 m.slot, .int .i64 m.low, .int .i64 0, .int .i64 m.val.kind, .slice l.co m.val.cmds.length l.cc, .slice l.no m.val.next.length l.nc, .slice vo m.votes.length vc,
  .int .i64 0, .int .i64 0, .int .i64 0, .int .i64 0, .int .i64 0, .int .i64 0, .int .i64 0, .int .i64 0, .int .i64 0, .int .i64 0, .int .i64 0, .slice none 0 0]
theorem info_msg : (Tryz.prog.info? 46).map (·.size) = some 25 := by kernel_rfl
/-- A block's cells are stored, all of them. -/
def putM (w : World) (g : Nat) (cs : Array Value) : World := w.setCells g 0 cs.toList
theorem putM_heap {w : World} {g e : Nat} {c0 cs : Array Value} (h : w.heap[g]? = some (.cells c0 e (0, 0))) (hs : c0.size = cs.size) : (putM w g cs).heap[g]? = some (.cells cs e (0, 0)) := by
  obtain ⟨cs', e1, e2, e3, e4, e5⟩ := set_cells cs.toList 0 w c0 h
  have : cs' = cs := by
    refine Array.ext (by omega) (fun i h1 h2 => ?_)
    have := e4 i (by simpa using h2) (by omega)
    rw [Nat.zero_add, Array.getElem?_eq_getElem h1] at this
    simpa using this
  rw [this] at e1
  exact e1
theorem putM_kp {w : World} {g : Nat} (cs : Array Value) : Kp (fun j => j = g) w (putM w g cs) := by
  unfold putM
  have : ∀ (vs : List Value) (o : Nat) (w : World), Kp (fun j => j = g) w (w.setCells g o vs) := by
    intro vs
    induction vs with
    | nil => intro o w; exact Kp.refl _ _
    | cons v r ih => intro o w; exact ((Kp.refl (fun j => j = g) w).setCell (p := ⟨g, o, none⟩) (fun _ => rfl) v).trans (ih (o + 1) _)
  exact this _ _ _
theorem there_all {w : World} {g e : Nat} {c0 : Array Value} (h : w.heap[g]? = some (.cells c0 e (0, 0))) : w.there g 0 c0.size := there_at9 h 0 (by omega)
theorem wpList_store_msg {ops : Array Oper} {rest : List Oper} {op : Oper} {a : Act} {w : World} {Q : Exit → Act → World → Prop} (hgd : op.guard = none) (x y : Operand) (ho : op.op = .store 46 x y)
    (g : Nat) (cs : Array Value) (hx : a.eval x = .pointer (some ⟨g, 0, none⟩)) (hy : a.eval y = .agg cs) (h1 : cs.all (·.oneCell') = true) (h25 : cs.size = 25) {c0 : Array Value} {T : TypeId} (hb : w.heap[g]? = some (.cells c0 T (0, 0))) (h0 : c0.size = 25)
    (h : wpList Tryz.prog ops Q rest (a.put op.dst undef) (putM w g cs)) : wpList Tryz.prog ops Q (op :: rest) a w :=
  wpList_store_mid hgd 46 x y ho g 0 cs hx hy (by have := there_all hb; rwa [h0, ← h25] at this) (by rw [h25]; exact info_msg) h1 h
/-- The store of a message, closed to the walk. -/
def stM (p v : Value) : Sem Unit := Instr.storeAt 46 p v
theorem stM_eq (p v : Value) : Instr.storeAt 46 p v = stM p v := rfl
theorem run_store_msg (g : Nat) (cs : Array Value) (h1 : cs.all (·.oneCell') = true) (h25 : cs.size = 25) {w : World} {c0 : Array Value} {T : TypeId} (hb : w.heap[g]? = some (.cells c0 T (0, 0))) (h0 : c0.size = 25) :
    (stM (.pointer (some ⟨g, 0, none⟩)) (.agg cs)).run Tryz.prog w = .ok () (putM w g cs) :=
  run_storeAt_mid (P := Tryz.prog) w g 0 46 cs (by have := there_all hb; rwa [h0, ← h25] at this) (by rw [h25]; exact info_msg) h1
theorem msg_load (w : World) (g : Nat) (cs : Array Value) (hg : w.heap[g]? = some (.cells cs 46 (0, 0))) (h25 : cs.size = 25) : (loadVar 46 ⟨g, 0, none⟩).run Tryz.prog w = .ok (.agg cs) w := by
  have h := run_loadVar_mid (P := Tryz.prog) w g 0 46 cs.toList _ (fun j v hv => by
    rw [Nat.zero_add, cell_of_row w g j cs _ (0, 0) hg]
    simpa using hv) Tryz.underlying46 rfl (by rw [info_msg, Array.length_toList, h25])
  simpa using h
theorem results_msg_tmp {fn : Func} {p u : Tmp} (h : fn.results = #[.cell p 46, .tmp u]) (tmps : Array Value) (w : World) (g : Nat) (cs : Array Value)
    (hp : tmps.getD p undef = .pointer (some ⟨g, 0, none⟩)) (hg : w.heap[g]? = some (.cells cs 46 (0, 0))) (h25 : cs.size = 25) :
    (results fn tmps).run Tryz.prog w = .ok (.tuple #[.agg cs, tmps.getD u undef]) w := by
  have hp' : tmps[p]?.getD undef = .pointer (some ⟨g, 0, none⟩) := by simpa using hp
  simp [results, h, hp', asAddr, msg_load w g cs hg h25]
theorem msgCs_one (m : MsgR) (vo : Option Addr) (vc : Nat) (l : VLoc) : (msgCs m vo vc l).all (·.oneCell') = true := by
  unfold msgCs
  simp [Value.oneCell']
/-- A message whose slices are of P. -/
structure MsgAt (P : Nat → Prop) (w : World) (m : MsgR) (vo : Option Addr) (vc : Nat) (l : VLoc) : Prop where
  votes : ∃ (M : List VoteL) (D : Nat → Prop), M.map (·.1) = m.votes ∧ Own (fun j => P j ∧ D j) w 56 6 vo m.votes.length vc (votesV M) ∧ ∀ p ∈ M, ValOwn (fun j => P j ∧ ¬ D j) w p.1.val p.2
  val : ValOwn P w m.val l
theorem MsgAt.none (P : Nat → Prop) (w : World) (m : MsgR) (hv : m.val = val0) (hs : m.votes = []) : MsgAt P w m none 0 loc9 := by
  refine ⟨⟨[], fun _ => False, by rw [hs]; rfl, ?_, fun p hp => by cases hp⟩, by rw [hv]; exact ValOwn.zero _ _⟩
  rw [hs]
  exact Own.nil _ _ _ _ _
/-- What Prepare and Accept leave. -/
structure MsgTo (B : Nat) (col : Nat → Nat) (w : World) (p ql q : Nat) (o : AO) (K : Nat) (e : Ending) (w' : World) : Prop where
  ex : ∃ (col' : Nat → Nat) (vo : Option Addr) (vc : Nat) (l : VLoc), e = .returned (.tuple #[.agg (msgCs o.m vo vc l), .int .i64 (o.e : Int)]) ∧ Ext B SX col w col' w' ∧ AcL col' w' p ql q o.s o.l o.a ∧ MsgAt (fun j => w.heap.size ≤ j ∧ col' j = 0) w' o.m vo vc l
  li : LI K o.s o.l
/-- A store into a block of nobody's. -/
theorem Ext.zero9 {B : Nat} {col : Nat → Nat} {w w' : World} {g : Nat} (hc : Cols B w col) (k : Kp (fun j => j = g) w w') (hg : col g = 0) : Ext B (fun x => x = 0) col w col w' :=
  ⟨hc.keep k.size, fun _ _ => rfl, fun j hj hn => by have := hc j hn; omega, k.mono (fun j _ e => by subst e; exact hg)⟩
theorem AcL.ext_z {B : Nat} {col col' : Nat → Nat} {w w' : World} {p ql q : Nat} {s : DS} {l : LogP} {a : AcS} (h : AcL col w p ql q s l a) (hc : Cols B w col) (e : Ext B (fun x => x = 0) col w col' w') : AcL col' w' p ql q s l a := by
  obtain ⟨⟨hk, po, pc, hl⟩, ha⟩ := h
  exact ⟨⟨hk.ext hc e (fun c hx => by unfold S3 at hx; omega), po, pc, hl.ext e (by decide) (by decide)⟩, ha.ext e (by decide) (by decide) (by decide)⟩
/-- The new message's box is written; all else stays. -/
theorem msg_put {B : Nat} {col col1 : Nat → Nat} {w w1 w2 : World} {p ql q g : Nat} {s : DS} {l : LogP} {a : AcS} (he : Ext B SX col w col1 w1) (h : AcL col1 w1 p ql q s l a) (k : Kp (fun j => j = g) w1 w2) (hg : col1 g = 0) (hge : w.heap.size ≤ g) : Ext B SX col w col1 w2 ∧ AcL col1 w2 p ql q s l a :=
  ⟨⟨he.cols.keep k.size, he.old, he.fresh, he.kp.fin k (fun j d => Or.inr (by subst d; exact hge))⟩, h.ext_z he.cols (Ext.zero9 he.cols k hg)⟩
theorem own_take {F : Nat → Prop} {w : World} {e sz : Nat} {ao : Option Addr} {n cap : Nat} {xs : List Value} (h : Own F w e sz ao n cap xs) (k : Nat) (hk : k ≤ n) : Own F w e sz ao k cap (xs.take (k * sz)) := by
  obtain ⟨h1, h2, h3, h4⟩ := h
  have hm : k * sz ≤ n * sz := Nat.mul_le_mul_right _ hk
  refine ⟨by rw [List.length_take]; omega, by omega, h3, ?_⟩
  rcases h4 with h4 | ⟨g, off, cur, ha, hg, hh, hb, hr⟩
  · exact Or.inl h4
  · refine Or.inr ⟨g, off, cur, ha, hg, hh, hb, fun i hi => ?_⟩
    have hi2 : i < xs.length := by rw [List.length_take] at hi; omega
    rw [hr i hi2, List.getElem_take]
theorem votesV_take (M : List VoteL) (k : Nat) : (votesV M).take (k * 6) = votesV (M.take k) := by
  induction M generalizing k with
  | nil => simp [votesV]
  | cons a r ih =>
    cases k with
    | zero => simp [votesV]
    | succ k =>
      have e : votesV (a :: r) = voteCs a ++ votesV r := by unfold votesV; simp
      have e2 : votesV ((a :: r).take (k + 1)) = voteCs a ++ votesV (r.take k) := by unfold votesV; simp
      rw [e, e2, ← ih k, List.take_append, show (voteCs a).length = 6 from rfl, List.take_of_length_le (by show 6 ≤ _; omega)]
      congr 2
      omega

end Go.Proofs.YtgbgbokcohfnpaaGreat
