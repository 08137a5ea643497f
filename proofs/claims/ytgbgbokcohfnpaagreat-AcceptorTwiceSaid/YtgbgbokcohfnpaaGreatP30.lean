/-
  The texts AccHead, AccGet in one: what the claim reaches of them.
-/
import Derived.Test.YtgbgbokcohfnpaaGreatP29
import Derived.Test.YtgbgbokcohfnpaaGreatP25
/-
  acceptor: THE WALK of the laws' head.
-/
namespace Go.Proofs.YtgbgbokcohfnpaaGreat
open Go.RowKit

def ah0 : DS × LogP × Nat := beginF (newF 1000) (freshL 500) 1 1
def ah1 : AO := prepA ah0.1 ah0.2.1 (enterA 0 0) ⟨1, 2⟩ 1
def ah2 : AO := accA ah1.s ah1.l ah1.a ⟨1, 2⟩ 3 val0
def ah3 : AO := prepA ah2.s ah2.l ah2.a ⟨1, 1⟩ 1
def ah4 : AO := prepA ah3.s ah3.l ah3.a ⟨2, 1⟩ 1
theorem ah_0 : ah0.2.2 = 0 := by decide +kernel
theorem ah_1 : ah1.e = 0 ∧ ah1.m.kind = 2 ∧ ah1.m.votes.length = 0 := by decide +kernel
theorem ah_2 : ah2.e = 0 ∧ ah2.m.kind = 5 ∧ ah2.m.slot = 3 := by decide +kernel
theorem ah_3 : ah3.e = 60 ∧ ah3.m.kind = 3 := by decide +kernel
theorem ah_4 : ah4.e = 0 ∧ ah4.m.votes.length = 1 := by decide +kernel
theorem ah_open : openF (newF 1000) 500 = (ah0.1, some (ah0.2.1, []), 0) := by
  rw [openF_new]
  show openNew ah0 = _
  unfold openNew
  rw [if_neg (by rw [ah_0]; simp)]
theorem ah_inv : AInv ah1.a ∧ AInv ah2.a ∧ AInv ah3.a := by
  have h1 : AInv ah1.a := AInv.start.prep _ _ _ _
  have h2 : AInv ah2.a := h1.acc _ _ _ _ _
  exact ⟨h1, h2, h2.prep _ _ _ _⟩
theorem sx_ne (x : Nat) (h : SX x) : x ≠ 0 := fun e => by subst e; exact sx_zero h
attribute [local irreducible] openF newF prepA accA msgCs
attribute [local go_sem ↓] stM_eq
set_option maxHeartbeats 4000000 in
set_option maxRecDepth 100000 in
theorem head14_of (s0 : DS) (l0 : LogP) (ah1 ah2 ah3 ah4 : AO) (ah_open : openF (newF 1000) 500 = (s0, some (l0, []), 0)) (e1 : prepA s0 l0 (enterA 0 0) ⟨1, 2⟩ 1 = ah1) (e2 : accA ah1.s ah1.l ah1.a ⟨1, 2⟩ 3 val0 = ah2) (e3 : prepA ah2.s ah2.l ah2.a ⟨1, 1⟩ 1 = ah3) (e4 : prepA ah3.s ah3.l ah3.a ⟨2, 1⟩ 1 = ah4)
    (ah_1 : ah1.e = 0 ∧ ah1.m.kind = 2 ∧ ah1.m.votes.length = 0) (ah_2 : ah2.e = 0 ∧ ah2.m.kind = 5 ∧ ah2.m.slot = 3) (ah_3 : ah3.e = 60 ∧ ah3.m.kind = 3) (ah_4 : ah4.e = 0 ∧ ah4.m.votes.length = 1) (ah_inv : AInv ah1.a ∧ AInv ah2.a ∧ AInv ah3.a) (W : World) : Calls Tryz.prog 9 #[] W fun e w' => e = .returned (.bool true) ∧ Kp Noone W w' := by
  have hfr := fresh_any 1000 500 W
  rw [ah_open] at hfr
  have E1 := Lib.hid e1
  have E2 := Lib.hid e2
  have E3 := Lib.hid e3
  have E4 := Lib.hid e4
  have F1 := Lib.hid ah_1
  have F2 := Lib.hid ah_2
  have F3 := Lib.hid ah_3
  have F4 := Lib.hid ah_4
  have FI := Lib.hid ah_inv
  clear e1 e2 e3 e4 ah_1 ah_2 ah_3 ah_4 ah_inv ah_open
  go_enter Tryz.func9, Tryz.ntmps9
  go_wp2_with fail
  refine hfr.mono ?_
  clear hfr
  rintro e w1 ⟨⟨c1, p, x1, hcase⟩⟩
  rcases hcase with ⟨h, -⟩ | ⟨l, q, ql, hR, rfl, hA, hL⟩
  · cases h
  have hl0 : l0 = l := by
    have := congrArg (fun x : OpenR => x.2.1.map (·.1)) hR
    simpa using this
  subst hl0
  simp only [] at hA hL
  have X1 := Lib.hid x1
  have A1 := Lib.hid hA
  have L1 := Lib.hid hL
  clear hR x1 hA hL
  have hc1 : Calls Tryz.prog 11 #[.pointer (some ⟨q, 0, none⟩), .agg #[.int .i64 1, .int .i64 2], .int .i64 1] w1 fun e w' => ∃ (vo : Option Addr) (vc : Nat) (m : VLoc), e = .returned (.tuple #[.agg #[.int .i64 2, .int .i64 0, .int .i64 0, .int .i64 ah1.m.epoch, .int .i64 ah1.m.bal.round, .int .i64 ah1.m.bal.node, .int .i64 ah1.m.slot, .int .i64 ah1.m.low, .int .i64 0, .int .i64 ah1.m.val.kind, .slice m.co ah1.m.val.cmds.length m.cc, .slice m.no ah1.m.val.next.length m.nc, .slice vo 0 vc, .int .i64 0, .int .i64 0, .int .i64 0, .int .i64 0, .int .i64 0, .int .i64 0, .int .i64 0, .int .i64 0, .int .i64 0, .int .i64 0, .int .i64 0, .slice none 0 0], .int .i64 0]) ∧ ∃ col', Ext W.heap.size (fun c => c ≠ 0) (fun _ => 0) W col' w' ∧ Ext W.heap.size SX c1 w1 col' w' ∧ AcL col' w' p ql q ah1.s ah1.l ah1.a ∧ LI 3 ah1.s ah1.l := by
    have h := prep_a W.heap.size c1 w1 p ql q s0 l0 (enterA 0 0) ⟨1, 2⟩ 1 1 A1.out X1.out.cols X1.out.size L1.out (by decide) AInv.start.ok (by decide)
    rw [E1.out] at h
    refine h.mono ?_
    rintro e w' ⟨⟨col', vo, vc, m, rfl, he, ha, -⟩, hl⟩
    refine ⟨vo, vc, m, ?_, col', X1.out.trans (he.mono sx_ne), he, ha, hl⟩
    obtain ⟨f1, f2, f3⟩ := F1.out
    unfold msgCs
    rw [f1, f2, f3]
    rfl
  go_wp2_with fail
  refine hc1.mono ?_
  clear hc1
  rintro e v1 ⟨vo, vc, m, rfl, c2, x, xx, hA, hL⟩
  have hb0 := heap_alloc_new v1 (.cells #[.int .i64 0, .int .i64 0, .int .i64 0, .int .i64 0, .int .i64 0, .int .i64 0, .int .i64 0, .int .i64 0, .int .i64 0, .int .i64 0, .slice none 0 0, .slice none 0 0, .slice none 0 0, .int .i64 0, .int .i64 0, .int .i64 0, .int .i64 0, .int .i64 0, .int .i64 0, .int .i64 0, .int .i64 0, .int .i64 0, .int .i64 0, .int .i64 0, .slice none 0 0] 46)
  have hst : (stM (.pointer (some ⟨v1.heap.size, 0, none⟩)) (.agg #[.int .i64 2, .int .i64 0, .int .i64 0, .int .i64 ah1.m.epoch, .int .i64 ah1.m.bal.round, .int .i64 ah1.m.bal.node, .int .i64 ah1.m.slot, .int .i64 ah1.m.low, .int .i64 0, .int .i64 ah1.m.val.kind, .slice m.co ah1.m.val.cmds.length m.cc, .slice m.no ah1.m.val.next.length m.nc, .slice vo 0 vc, .int .i64 0, .int .i64 0, .int .i64 0, .int .i64 0, .int .i64 0, .int .i64 0, .int .i64 0, .int .i64 0, .int .i64 0, .int .i64 0, .int .i64 0, .slice none 0 0])).run Tryz.prog (v1.alloc (.cells #[.int .i64 0, .int .i64 0, .int .i64 0, .int .i64 0, .int .i64 0, .int .i64 0, .int .i64 0, .int .i64 0, .int .i64 0, .int .i64 0, .slice none 0 0, .slice none 0 0, .slice none 0 0, .int .i64 0, .int .i64 0, .int .i64 0, .int .i64 0, .int .i64 0, .int .i64 0, .int .i64 0, .int .i64 0, .int .i64 0, .int .i64 0, .int .i64 0, .slice none 0 0] 46)) = .ok () (putM (v1.alloc (.cells #[.int .i64 0, .int .i64 0, .int .i64 0, .int .i64 0, .int .i64 0, .int .i64 0, .int .i64 0, .int .i64 0, .int .i64 0, .int .i64 0, .slice none 0 0, .slice none 0 0, .slice none 0 0, .int .i64 0, .int .i64 0, .int .i64 0, .int .i64 0, .int .i64 0, .int .i64 0, .int .i64 0, .int .i64 0, .int .i64 0, .int .i64 0, .int .i64 0, .slice none 0 0] 46)) v1.heap.size #[.int .i64 2, .int .i64 0, .int .i64 0, .int .i64 ah1.m.epoch, .int .i64 ah1.m.bal.round, .int .i64 ah1.m.bal.node, .int .i64 ah1.m.slot, .int .i64 ah1.m.low, .int .i64 0, .int .i64 ah1.m.val.kind, .slice m.co ah1.m.val.cmds.length m.cc, .slice m.no ah1.m.val.next.length m.nc, .slice vo 0 vc, .int .i64 0, .int .i64 0, .int .i64 0, .int .i64 0, .int .i64 0, .int .i64 0, .int .i64 0, .int .i64 0, .int .i64 0, .int .i64 0, .int .i64 0, .slice none 0 0]) := run_store_msg _ _ (by simp [Value.oneCell']) rfl hb0 rfl
  have hb := putM_heap (cs := #[.int .i64 2, .int .i64 0, .int .i64 0, .int .i64 ah1.m.epoch, .int .i64 ah1.m.bal.round, .int .i64 ah1.m.bal.node, .int .i64 ah1.m.slot, .int .i64 ah1.m.low, .int .i64 0, .int .i64 ah1.m.val.kind, .slice m.co ah1.m.val.cmds.length m.cc, .slice m.no ah1.m.val.next.length m.nc, .slice vo 0 vc, .int .i64 0, .int .i64 0, .int .i64 0, .int .i64 0, .int .i64 0, .int .i64 0, .int .i64 0, .int .i64 0, .int .i64 0, .int .i64 0, .int .i64 0, .slice none 0 0]) hb0 rfl
  have kX : Kp Noone v1 (putM (v1.alloc (.cells #[.int .i64 0, .int .i64 0, .int .i64 0, .int .i64 0, .int .i64 0, .int .i64 0, .int .i64 0, .int .i64 0, .int .i64 0, .int .i64 0, .slice none 0 0, .slice none 0 0, .slice none 0 0, .int .i64 0, .int .i64 0, .int .i64 0, .int .i64 0, .int .i64 0, .int .i64 0, .int .i64 0, .int .i64 0, .int .i64 0, .int .i64 0, .int .i64 0, .slice none 0 0] 46)) v1.heap.size #[.int .i64 2, .int .i64 0, .int .i64 0, .int .i64 ah1.m.epoch, .int .i64 ah1.m.bal.round, .int .i64 ah1.m.bal.node, .int .i64 ah1.m.slot, .int .i64 ah1.m.low, .int .i64 0, .int .i64 ah1.m.val.kind, .slice m.co ah1.m.val.cmds.length m.cc, .slice m.no ah1.m.val.next.length m.nc, .slice vo 0 vc, .int .i64 0, .int .i64 0, .int .i64 0, .int .i64 0, .int .i64 0, .int .i64 0, .int .i64 0, .int .i64 0, .int .i64 0, .int .i64 0, .int .i64 0, .slice none 0 0]) := ((Kp.refl Noone v1).alloc (.cells #[.int .i64 0, .int .i64 0, .int .i64 0, .int .i64 0, .int .i64 0, .int .i64 0, .int .i64 0, .int .i64 0, .int .i64 0, .int .i64 0, .slice none 0 0, .slice none 0 0, .slice none 0 0, .int .i64 0, .int .i64 0, .int .i64 0, .int .i64 0, .int .i64 0, .int .i64 0, .int .i64 0, .int .i64 0, .int .i64 0, .int .i64 0, .int .i64 0, .slice none 0 0] 46)).fin (putM_kp _) (fun j d => Or.inr (by omega))
  clear hb0
  go_upto_region 5 with fail
  clear hst
  generalize hw : putM (v1.alloc (.cells #[.int .i64 0, .int .i64 0, .int .i64 0, .int .i64 0, .int .i64 0, .int .i64 0, .int .i64 0, .int .i64 0, .int .i64 0, .int .i64 0, .slice none 0 0, .slice none 0 0, .slice none 0 0, .int .i64 0, .int .i64 0, .int .i64 0, .int .i64 0, .int .i64 0, .int .i64 0, .int .i64 0, .int .i64 0, .int .i64 0, .int .i64 0, .int .i64 0, .slice none 0 0] 46)) v1.heap.size #[.int .i64 2, .int .i64 0, .int .i64 0, .int .i64 ah1.m.epoch, .int .i64 ah1.m.bal.round, .int .i64 ah1.m.bal.node, .int .i64 ah1.m.slot, .int .i64 ah1.m.low, .int .i64 0, .int .i64 ah1.m.val.kind, .slice m.co ah1.m.val.cmds.length m.cc, .slice m.no ah1.m.val.next.length m.nc, .slice vo 0 vc, .int .i64 0, .int .i64 0, .int .i64 0, .int .i64 0, .int .i64 0, .int .i64 0, .int .i64 0, .int .i64 0, .int .i64 0, .int .i64 0, .int .i64 0, .slice none 0 0] = w2 at *
  generalize hg : v1.heap.size = g1 at *
  have B1 : Hid (w2.heap[g1]? = some (.cells #[.int .i64 2, .int .i64 0, .int .i64 0, .int .i64 ah1.m.epoch, .int .i64 ah1.m.bal.round, .int .i64 ah1.m.bal.node, .int .i64 ah1.m.slot, .int .i64 ah1.m.low, .int .i64 0, .int .i64 ah1.m.val.kind, .slice m.co ah1.m.val.cmds.length m.cc, .slice m.no ah1.m.val.next.length m.nc, .slice vo 0 vc, .int .i64 0, .int .i64 0, .int .i64 0, .int .i64 0, .int .i64 0, .int .i64 0, .int .i64 0, .int .i64 0, .int .i64 0, .int .i64 0, .int .i64 0, .slice none 0 0] 46 (0, 0)) ∧ c2 g1 = 0 ∧ g1 < w2.heap.size) := Lib.hid ⟨hb, cols_new x.cols (by omega), (Array.getElem?_eq_some_iff.1 hb).1⟩
  have X2 := Lib.hid (x.trans (Ext.quiet x.cols kX))
  have A2 := Lib.hid (hA.keep kX)
  have L2 := Lib.hid hL
  clear x xx hA hL hb kX hw hg X1 A1 L1
  have hc2 : Calls Tryz.prog 12 #[.pointer (some ⟨q, 0, none⟩), .agg #[.int .i64 1, .int .i64 2], .int .i64 3, .agg #[.int .i64 0, .slice none 0 0, .slice none 0 0]] w2 fun e w' => ∃ (vo : Option Addr) (vc : Nat) (m : VLoc), e = .returned (.tuple #[.agg #[.int .i64 5, .int .i64 0, .int .i64 0, .int .i64 ah2.m.epoch, .int .i64 ah2.m.bal.round, .int .i64 ah2.m.bal.node, .int .i64 3, .int .i64 ah2.m.low, .int .i64 0, .int .i64 ah2.m.val.kind, .slice m.co ah2.m.val.cmds.length m.cc, .slice m.no ah2.m.val.next.length m.nc, .slice vo ah2.m.votes.length vc, .int .i64 0, .int .i64 0, .int .i64 0, .int .i64 0, .int .i64 0, .int .i64 0, .int .i64 0, .int .i64 0, .int .i64 0, .int .i64 0, .int .i64 0, .slice none 0 0], .int .i64 0]) ∧ ∃ col', Ext W.heap.size (fun c => c ≠ 0) (fun _ => 0) W col' w' ∧ Ext W.heap.size SX c2 w2 col' w' ∧ AcL col' w' p ql q ah2.s ah2.l ah2.a ∧ LI 5 ah2.s ah2.l := by
    have h := acc_a W.heap.size c2 w2 p ql q ah1.s ah1.l ah1.a ⟨1, 2⟩ 3 val0 loc9 3 A2.out X2.out.cols X2.out.size L2.out (by decide) FI.out.1.ok (ValC.zero _ _) (by decide) (by decide)
    rw [E2.out] at h
    refine h.mono ?_
    rintro e w' ⟨⟨col', vo, vc, m, rfl, he, ha, -⟩, hl⟩
    refine ⟨vo, vc, m, ?_, col', X2.out.trans (he.mono sx_ne), he, ha, hl⟩
    obtain ⟨f1, f2, f3⟩ := F2.out
    unfold msgCs
    rw [f1, f2, f3]
    rfl
  go_wp2_with fail
  refine hc2.mono ?_
  clear hc2
  rintro e v2 ⟨vo, vc, m, rfl, c3, x, xx, hA, hL⟩
  have hb0 := heap_alloc_new v2 (.cells #[.int .i64 0, .int .i64 0, .int .i64 0, .int .i64 0, .int .i64 0, .int .i64 0, .int .i64 0, .int .i64 0, .int .i64 0, .int .i64 0, .slice none 0 0, .slice none 0 0, .slice none 0 0, .int .i64 0, .int .i64 0, .int .i64 0, .int .i64 0, .int .i64 0, .int .i64 0, .int .i64 0, .int .i64 0, .int .i64 0, .int .i64 0, .int .i64 0, .slice none 0 0] 46)
  have hst : (stM (.pointer (some ⟨v2.heap.size, 0, none⟩)) (.agg #[.int .i64 5, .int .i64 0, .int .i64 0, .int .i64 ah2.m.epoch, .int .i64 ah2.m.bal.round, .int .i64 ah2.m.bal.node, .int .i64 3, .int .i64 ah2.m.low, .int .i64 0, .int .i64 ah2.m.val.kind, .slice m.co ah2.m.val.cmds.length m.cc, .slice m.no ah2.m.val.next.length m.nc, .slice vo ah2.m.votes.length vc, .int .i64 0, .int .i64 0, .int .i64 0, .int .i64 0, .int .i64 0, .int .i64 0, .int .i64 0, .int .i64 0, .int .i64 0, .int .i64 0, .int .i64 0, .slice none 0 0])).run Tryz.prog (v2.alloc (.cells #[.int .i64 0, .int .i64 0, .int .i64 0, .int .i64 0, .int .i64 0, .int .i64 0, .int .i64 0, .int .i64 0, .int .i64 0, .int .i64 0, .slice none 0 0, .slice none 0 0, .slice none 0 0, .int .i64 0, .int .i64 0, .int .i64 0, .int .i64 0, .int .i64 0, .int .i64 0, .int .i64 0, .int .i64 0, .int .i64 0, .int .i64 0, .int .i64 0, .slice none 0 0] 46)) = .ok () (putM (v2.alloc (.cells #[.int .i64 0, .int .i64 0, .int .i64 0, .int .i64 0, .int .i64 0, .int .i64 0, .int .i64 0, .int .i64 0, .int .i64 0, .int .i64 0, .slice none 0 0, .slice none 0 0, .slice none 0 0, .int .i64 0, .int .i64 0, .int .i64 0, .int .i64 0, .int .i64 0, .int .i64 0, .int .i64 0, .int .i64 0, .int .i64 0, .int .i64 0, .int .i64 0, .slice none 0 0] 46)) v2.heap.size #[.int .i64 5, .int .i64 0, .int .i64 0, .int .i64 ah2.m.epoch, .int .i64 ah2.m.bal.round, .int .i64 ah2.m.bal.node, .int .i64 3, .int .i64 ah2.m.low, .int .i64 0, .int .i64 ah2.m.val.kind, .slice m.co ah2.m.val.cmds.length m.cc, .slice m.no ah2.m.val.next.length m.nc, .slice vo ah2.m.votes.length vc, .int .i64 0, .int .i64 0, .int .i64 0, .int .i64 0, .int .i64 0, .int .i64 0, .int .i64 0, .int .i64 0, .int .i64 0, .int .i64 0, .int .i64 0, .slice none 0 0]) := run_store_msg _ _ (by simp [Value.oneCell']) rfl hb0 rfl
  have hb := putM_heap (cs := #[.int .i64 5, .int .i64 0, .int .i64 0, .int .i64 ah2.m.epoch, .int .i64 ah2.m.bal.round, .int .i64 ah2.m.bal.node, .int .i64 3, .int .i64 ah2.m.low, .int .i64 0, .int .i64 ah2.m.val.kind, .slice m.co ah2.m.val.cmds.length m.cc, .slice m.no ah2.m.val.next.length m.nc, .slice vo ah2.m.votes.length vc, .int .i64 0, .int .i64 0, .int .i64 0, .int .i64 0, .int .i64 0, .int .i64 0, .int .i64 0, .int .i64 0, .int .i64 0, .int .i64 0, .int .i64 0, .slice none 0 0]) hb0 rfl
  have kX : Kp Noone v2 (putM (v2.alloc (.cells #[.int .i64 0, .int .i64 0, .int .i64 0, .int .i64 0, .int .i64 0, .int .i64 0, .int .i64 0, .int .i64 0, .int .i64 0, .int .i64 0, .slice none 0 0, .slice none 0 0, .slice none 0 0, .int .i64 0, .int .i64 0, .int .i64 0, .int .i64 0, .int .i64 0, .int .i64 0, .int .i64 0, .int .i64 0, .int .i64 0, .int .i64 0, .int .i64 0, .slice none 0 0] 46)) v2.heap.size #[.int .i64 5, .int .i64 0, .int .i64 0, .int .i64 ah2.m.epoch, .int .i64 ah2.m.bal.round, .int .i64 ah2.m.bal.node, .int .i64 3, .int .i64 ah2.m.low, .int .i64 0, .int .i64 ah2.m.val.kind, .slice m.co ah2.m.val.cmds.length m.cc, .slice m.no ah2.m.val.next.length m.nc, .slice vo ah2.m.votes.length vc, .int .i64 0, .int .i64 0, .int .i64 0, .int .i64 0, .int .i64 0, .int .i64 0, .int .i64 0, .int .i64 0, .int .i64 0, .int .i64 0, .int .i64 0, .slice none 0 0]) := ((Kp.refl Noone v2).alloc (.cells #[.int .i64 0, .int .i64 0, .int .i64 0, .int .i64 0, .int .i64 0, .int .i64 0, .int .i64 0, .int .i64 0, .int .i64 0, .int .i64 0, .slice none 0 0, .slice none 0 0, .slice none 0 0, .int .i64 0, .int .i64 0, .int .i64 0, .int .i64 0, .int .i64 0, .int .i64 0, .int .i64 0, .int .i64 0, .int .i64 0, .int .i64 0, .int .i64 0, .slice none 0 0] 46)).fin (putM_kp _) (fun j d => Or.inr (by omega))
  clear hb0
  have hk1 := kX.heap (xx.kp.heap B1.out.1 (by rw [B1.out.2.1]; exact sx_zero)) id
  have hn1 := (xx.old g1 B1.out.2.2).trans B1.out.2.1
  go_upto_region 6 with fail
  clear hst
  generalize hw : putM (v2.alloc (.cells #[.int .i64 0, .int .i64 0, .int .i64 0, .int .i64 0, .int .i64 0, .int .i64 0, .int .i64 0, .int .i64 0, .int .i64 0, .int .i64 0, .slice none 0 0, .slice none 0 0, .slice none 0 0, .int .i64 0, .int .i64 0, .int .i64 0, .int .i64 0, .int .i64 0, .int .i64 0, .int .i64 0, .int .i64 0, .int .i64 0, .int .i64 0, .int .i64 0, .slice none 0 0] 46)) v2.heap.size #[.int .i64 5, .int .i64 0, .int .i64 0, .int .i64 ah2.m.epoch, .int .i64 ah2.m.bal.round, .int .i64 ah2.m.bal.node, .int .i64 3, .int .i64 ah2.m.low, .int .i64 0, .int .i64 ah2.m.val.kind, .slice m.co ah2.m.val.cmds.length m.cc, .slice m.no ah2.m.val.next.length m.nc, .slice vo ah2.m.votes.length vc, .int .i64 0, .int .i64 0, .int .i64 0, .int .i64 0, .int .i64 0, .int .i64 0, .int .i64 0, .int .i64 0, .int .i64 0, .int .i64 0, .int .i64 0, .slice none 0 0] = w3 at *
  generalize hg : v2.heap.size = g2 at *
  have B2 : Hid (w3.heap[g2]? = some (.cells #[.int .i64 5, .int .i64 0, .int .i64 0, .int .i64 ah2.m.epoch, .int .i64 ah2.m.bal.round, .int .i64 ah2.m.bal.node, .int .i64 3, .int .i64 ah2.m.low, .int .i64 0, .int .i64 ah2.m.val.kind, .slice m.co ah2.m.val.cmds.length m.cc, .slice m.no ah2.m.val.next.length m.nc, .slice vo ah2.m.votes.length vc, .int .i64 0, .int .i64 0, .int .i64 0, .int .i64 0, .int .i64 0, .int .i64 0, .int .i64 0, .int .i64 0, .int .i64 0, .int .i64 0, .int .i64 0, .slice none 0 0] 46 (0, 0)) ∧ c3 g2 = 0 ∧ g2 < w3.heap.size) := Lib.hid ⟨hb, cols_new x.cols (by omega), (Array.getElem?_eq_some_iff.1 hb).1⟩
  have B1 := Lib.hid (And.intro hk1 (And.intro hn1 (Array.getElem?_eq_some_iff.1 hk1).1))
  clear hk1 hn1
  have X3 := Lib.hid (x.trans (Ext.quiet x.cols kX))
  have A3 := Lib.hid (hA.keep kX)
  have L3 := Lib.hid hL
  clear x xx hA hL hb kX hw hg X2 A2 L2
  have hc3 : Calls Tryz.prog 11 #[.pointer (some ⟨q, 0, none⟩), .agg #[.int .i64 1, .int .i64 1], .int .i64 1] w3 fun e w' => ∃ (vo : Option Addr) (vc : Nat) (m : VLoc), e = .returned (.tuple #[.agg #[.int .i64 3, .int .i64 0, .int .i64 0, .int .i64 ah3.m.epoch, .int .i64 ah3.m.bal.round, .int .i64 ah3.m.bal.node, .int .i64 ah3.m.slot, .int .i64 ah3.m.low, .int .i64 0, .int .i64 ah3.m.val.kind, .slice m.co ah3.m.val.cmds.length m.cc, .slice m.no ah3.m.val.next.length m.nc, .slice vo ah3.m.votes.length vc, .int .i64 0, .int .i64 0, .int .i64 0, .int .i64 0, .int .i64 0, .int .i64 0, .int .i64 0, .int .i64 0, .int .i64 0, .int .i64 0, .int .i64 0, .slice none 0 0], .int .i64 60]) ∧ ∃ col', Ext W.heap.size (fun c => c ≠ 0) (fun _ => 0) W col' w' ∧ Ext W.heap.size SX c3 w3 col' w' ∧ AcL col' w' p ql q ah3.s ah3.l ah3.a ∧ LI 7 ah3.s ah3.l := by
    have h := prep_a W.heap.size c3 w3 p ql q ah2.s ah2.l ah2.a ⟨1, 1⟩ 1 5 A3.out X3.out.cols X3.out.size L3.out (by decide) FI.out.2.1.ok (Nat.le_trans (FI.out.2.1.ok.len FI.out.2.1.win) (by decide))
    rw [E3.out] at h
    refine h.mono ?_
    rintro e w' ⟨⟨col', vo, vc, m, rfl, he, ha, -⟩, hl⟩
    refine ⟨vo, vc, m, ?_, col', X3.out.trans (he.mono sx_ne), he, ha, hl⟩
    obtain ⟨f1, f2⟩ := F3.out
    unfold msgCs
    rw [f1, f2]
    rfl
  go_wp2_with fail
  refine hc3.mono ?_
  clear hc3
  rintro e v3 ⟨vo, vc, m, rfl, c4, x, xx, hA, hL⟩
  have hb0 := heap_alloc_new v3 (.cells #[.int .i64 0, .int .i64 0, .int .i64 0, .int .i64 0, .int .i64 0, .int .i64 0, .int .i64 0, .int .i64 0, .int .i64 0, .int .i64 0, .slice none 0 0, .slice none 0 0, .slice none 0 0, .int .i64 0, .int .i64 0, .int .i64 0, .int .i64 0, .int .i64 0, .int .i64 0, .int .i64 0, .int .i64 0, .int .i64 0, .int .i64 0, .int .i64 0, .slice none 0 0] 46)
  have hst : (stM (.pointer (some ⟨v3.heap.size, 0, none⟩)) (.agg #[.int .i64 3, .int .i64 0, .int .i64 0, .int .i64 ah3.m.epoch, .int .i64 ah3.m.bal.round, .int .i64 ah3.m.bal.node, .int .i64 ah3.m.slot, .int .i64 ah3.m.low, .int .i64 0, .int .i64 ah3.m.val.kind, .slice m.co ah3.m.val.cmds.length m.cc, .slice m.no ah3.m.val.next.length m.nc, .slice vo ah3.m.votes.length vc, .int .i64 0, .int .i64 0, .int .i64 0, .int .i64 0, .int .i64 0, .int .i64 0, .int .i64 0, .int .i64 0, .int .i64 0, .int .i64 0, .int .i64 0, .slice none 0 0])).run Tryz.prog (v3.alloc (.cells #[.int .i64 0, .int .i64 0, .int .i64 0, .int .i64 0, .int .i64 0, .int .i64 0, .int .i64 0, .int .i64 0, .int .i64 0, .int .i64 0, .slice none 0 0, .slice none 0 0, .slice none 0 0, .int .i64 0, .int .i64 0, .int .i64 0, .int .i64 0, .int .i64 0, .int .i64 0, .int .i64 0, .int .i64 0, .int .i64 0, .int .i64 0, .int .i64 0, .slice none 0 0] 46)) = .ok () (putM (v3.alloc (.cells #[.int .i64 0, .int .i64 0, .int .i64 0, .int .i64 0, .int .i64 0, .int .i64 0, .int .i64 0, .int .i64 0, .int .i64 0, .int .i64 0, .slice none 0 0, .slice none 0 0, .slice none 0 0, .int .i64 0, .int .i64 0, .int .i64 0, .int .i64 0, .int .i64 0, .int .i64 0, .int .i64 0, .int .i64 0, .int .i64 0, .int .i64 0, .int .i64 0, .slice none 0 0] 46)) v3.heap.size #[.int .i64 3, .int .i64 0, .int .i64 0, .int .i64 ah3.m.epoch, .int .i64 ah3.m.bal.round, .int .i64 ah3.m.bal.node, .int .i64 ah3.m.slot, .int .i64 ah3.m.low, .int .i64 0, .int .i64 ah3.m.val.kind, .slice m.co ah3.m.val.cmds.length m.cc, .slice m.no ah3.m.val.next.length m.nc, .slice vo ah3.m.votes.length vc, .int .i64 0, .int .i64 0, .int .i64 0, .int .i64 0, .int .i64 0, .int .i64 0, .int .i64 0, .int .i64 0, .int .i64 0, .int .i64 0, .int .i64 0, .slice none 0 0]) := run_store_msg _ _ (by simp [Value.oneCell']) rfl hb0 rfl
  have hb := putM_heap (cs := #[.int .i64 3, .int .i64 0, .int .i64 0, .int .i64 ah3.m.epoch, .int .i64 ah3.m.bal.round, .int .i64 ah3.m.bal.node, .int .i64 ah3.m.slot, .int .i64 ah3.m.low, .int .i64 0, .int .i64 ah3.m.val.kind, .slice m.co ah3.m.val.cmds.length m.cc, .slice m.no ah3.m.val.next.length m.nc, .slice vo ah3.m.votes.length vc, .int .i64 0, .int .i64 0, .int .i64 0, .int .i64 0, .int .i64 0, .int .i64 0, .int .i64 0, .int .i64 0, .int .i64 0, .int .i64 0, .int .i64 0, .slice none 0 0]) hb0 rfl
  have kX : Kp Noone v3 (putM (v3.alloc (.cells #[.int .i64 0, .int .i64 0, .int .i64 0, .int .i64 0, .int .i64 0, .int .i64 0, .int .i64 0, .int .i64 0, .int .i64 0, .int .i64 0, .slice none 0 0, .slice none 0 0, .slice none 0 0, .int .i64 0, .int .i64 0, .int .i64 0, .int .i64 0, .int .i64 0, .int .i64 0, .int .i64 0, .int .i64 0, .int .i64 0, .int .i64 0, .int .i64 0, .slice none 0 0] 46)) v3.heap.size #[.int .i64 3, .int .i64 0, .int .i64 0, .int .i64 ah3.m.epoch, .int .i64 ah3.m.bal.round, .int .i64 ah3.m.bal.node, .int .i64 ah3.m.slot, .int .i64 ah3.m.low, .int .i64 0, .int .i64 ah3.m.val.kind, .slice m.co ah3.m.val.cmds.length m.cc, .slice m.no ah3.m.val.next.length m.nc, .slice vo ah3.m.votes.length vc, .int .i64 0, .int .i64 0, .int .i64 0, .int .i64 0, .int .i64 0, .int .i64 0, .int .i64 0, .int .i64 0, .int .i64 0, .int .i64 0, .int .i64 0, .slice none 0 0]) := ((Kp.refl Noone v3).alloc (.cells #[.int .i64 0, .int .i64 0, .int .i64 0, .int .i64 0, .int .i64 0, .int .i64 0, .int .i64 0, .int .i64 0, .int .i64 0, .int .i64 0, .slice none 0 0, .slice none 0 0, .slice none 0 0, .int .i64 0, .int .i64 0, .int .i64 0, .int .i64 0, .int .i64 0, .int .i64 0, .int .i64 0, .int .i64 0, .int .i64 0, .int .i64 0, .int .i64 0, .slice none 0 0] 46)).fin (putM_kp _) (fun j d => Or.inr (by omega))
  clear hb0
  have hk1 := kX.heap (xx.kp.heap B1.out.1 (by rw [B1.out.2.1]; exact sx_zero)) id
  have hn1 := (xx.old g1 B1.out.2.2).trans B1.out.2.1
  have hk2 := kX.heap (xx.kp.heap B2.out.1 (by rw [B2.out.2.1]; exact sx_zero)) id
  have hn2 := (xx.old g2 B2.out.2.2).trans B2.out.2.1
  go_upto_region 7 with fail
  clear hst
  generalize hw : putM (v3.alloc (.cells #[.int .i64 0, .int .i64 0, .int .i64 0, .int .i64 0, .int .i64 0, .int .i64 0, .int .i64 0, .int .i64 0, .int .i64 0, .int .i64 0, .slice none 0 0, .slice none 0 0, .slice none 0 0, .int .i64 0, .int .i64 0, .int .i64 0, .int .i64 0, .int .i64 0, .int .i64 0, .int .i64 0, .int .i64 0, .int .i64 0, .int .i64 0, .int .i64 0, .slice none 0 0] 46)) v3.heap.size #[.int .i64 3, .int .i64 0, .int .i64 0, .int .i64 ah3.m.epoch, .int .i64 ah3.m.bal.round, .int .i64 ah3.m.bal.node, .int .i64 ah3.m.slot, .int .i64 ah3.m.low, .int .i64 0, .int .i64 ah3.m.val.kind, .slice m.co ah3.m.val.cmds.length m.cc, .slice m.no ah3.m.val.next.length m.nc, .slice vo ah3.m.votes.length vc, .int .i64 0, .int .i64 0, .int .i64 0, .int .i64 0, .int .i64 0, .int .i64 0, .int .i64 0, .int .i64 0, .int .i64 0, .int .i64 0, .int .i64 0, .slice none 0 0] = w4 at *
  generalize hg : v3.heap.size = g3 at *
  have B3 : Hid (w4.heap[g3]? = some (.cells #[.int .i64 3, .int .i64 0, .int .i64 0, .int .i64 ah3.m.epoch, .int .i64 ah3.m.bal.round, .int .i64 ah3.m.bal.node, .int .i64 ah3.m.slot, .int .i64 ah3.m.low, .int .i64 0, .int .i64 ah3.m.val.kind, .slice m.co ah3.m.val.cmds.length m.cc, .slice m.no ah3.m.val.next.length m.nc, .slice vo ah3.m.votes.length vc, .int .i64 0, .int .i64 0, .int .i64 0, .int .i64 0, .int .i64 0, .int .i64 0, .int .i64 0, .int .i64 0, .int .i64 0, .int .i64 0, .int .i64 0, .slice none 0 0] 46 (0, 0)) ∧ c4 g3 = 0 ∧ g3 < w4.heap.size) := Lib.hid ⟨hb, cols_new x.cols (by omega), (Array.getElem?_eq_some_iff.1 hb).1⟩
  have B1 := Lib.hid (And.intro hk1 (And.intro hn1 (Array.getElem?_eq_some_iff.1 hk1).1))
  clear hk1 hn1
  have B2 := Lib.hid (And.intro hk2 (And.intro hn2 (Array.getElem?_eq_some_iff.1 hk2).1))
  clear hk2 hn2
  have X4 := Lib.hid (x.trans (Ext.quiet x.cols kX))
  have A4 := Lib.hid (hA.keep kX)
  have L4 := Lib.hid hL
  clear x xx hA hL hb kX hw hg X3 A3 L3
  have hc4 : Calls Tryz.prog 11 #[.pointer (some ⟨q, 0, none⟩), .agg #[.int .i64 2, .int .i64 1], .int .i64 1] w4 fun e w' => ∃ (vo : Option Addr) (vc : Nat) (m : VLoc), e = .returned (.tuple #[.agg #[.int .i64 ah4.m.kind, .int .i64 0, .int .i64 0, .int .i64 ah4.m.epoch, .int .i64 ah4.m.bal.round, .int .i64 ah4.m.bal.node, .int .i64 ah4.m.slot, .int .i64 ah4.m.low, .int .i64 0, .int .i64 ah4.m.val.kind, .slice m.co ah4.m.val.cmds.length m.cc, .slice m.no ah4.m.val.next.length m.nc, .slice vo 1 vc, .int .i64 0, .int .i64 0, .int .i64 0, .int .i64 0, .int .i64 0, .int .i64 0, .int .i64 0, .int .i64 0, .int .i64 0, .int .i64 0, .int .i64 0, .slice none 0 0], .int .i64 0]) ∧ ∃ col', Ext W.heap.size (fun c => c ≠ 0) (fun _ => 0) W col' w' ∧ Ext W.heap.size SX c4 w4 col' w' ∧ AcL col' w' p ql q ah4.s ah4.l ah4.a ∧ LI 9 ah4.s ah4.l := by
    have h := prep_a W.heap.size c4 w4 p ql q ah3.s ah3.l ah3.a ⟨2, 1⟩ 1 7 A4.out X4.out.cols X4.out.size L4.out (by decide) FI.out.2.2.ok (Nat.le_trans (FI.out.2.2.ok.len FI.out.2.2.win) (by decide))
    rw [E4.out] at h
    refine h.mono ?_
    rintro e w' ⟨⟨col', vo, vc, m, rfl, he, ha, -⟩, hl⟩
    refine ⟨vo, vc, m, ?_, col', X4.out.trans (he.mono sx_ne), he, ha, hl⟩
    obtain ⟨f1, f3⟩ := F4.out
    unfold msgCs
    rw [f1, f3]
    rfl
  go_wp2_with fail
  refine hc4.mono ?_
  clear hc4
  rintro e v4 ⟨vo, vc, m, rfl, c5, x, xx, hA, hL⟩
  have hb0 := heap_alloc_new v4 (.cells #[.int .i64 0, .int .i64 0, .int .i64 0, .int .i64 0, .int .i64 0, .int .i64 0, .int .i64 0, .int .i64 0, .int .i64 0, .int .i64 0, .slice none 0 0, .slice none 0 0, .slice none 0 0, .int .i64 0, .int .i64 0, .int .i64 0, .int .i64 0, .int .i64 0, .int .i64 0, .int .i64 0, .int .i64 0, .int .i64 0, .int .i64 0, .int .i64 0, .slice none 0 0] 46)
  have hst : (stM (.pointer (some ⟨v4.heap.size, 0, none⟩)) (.agg #[.int .i64 ah4.m.kind, .int .i64 0, .int .i64 0, .int .i64 ah4.m.epoch, .int .i64 ah4.m.bal.round, .int .i64 ah4.m.bal.node, .int .i64 ah4.m.slot, .int .i64 ah4.m.low, .int .i64 0, .int .i64 ah4.m.val.kind, .slice m.co ah4.m.val.cmds.length m.cc, .slice m.no ah4.m.val.next.length m.nc, .slice vo 1 vc, .int .i64 0, .int .i64 0, .int .i64 0, .int .i64 0, .int .i64 0, .int .i64 0, .int .i64 0, .int .i64 0, .int .i64 0, .int .i64 0, .int .i64 0, .slice none 0 0])).run Tryz.prog (v4.alloc (.cells #[.int .i64 0, .int .i64 0, .int .i64 0, .int .i64 0, .int .i64 0, .int .i64 0, .int .i64 0, .int .i64 0, .int .i64 0, .int .i64 0, .slice none 0 0, .slice none 0 0, .slice none 0 0, .int .i64 0, .int .i64 0, .int .i64 0, .int .i64 0, .int .i64 0, .int .i64 0, .int .i64 0, .int .i64 0, .int .i64 0, .int .i64 0, .int .i64 0, .slice none 0 0] 46)) = .ok () (putM (v4.alloc (.cells #[.int .i64 0, .int .i64 0, .int .i64 0, .int .i64 0, .int .i64 0, .int .i64 0, .int .i64 0, .int .i64 0, .int .i64 0, .int .i64 0, .slice none 0 0, .slice none 0 0, .slice none 0 0, .int .i64 0, .int .i64 0, .int .i64 0, .int .i64 0, .int .i64 0, .int .i64 0, .int .i64 0, .int .i64 0, .int .i64 0, .int .i64 0, .int .i64 0, .slice none 0 0] 46)) v4.heap.size #[.int .i64 ah4.m.kind, .int .i64 0, .int .i64 0, .int .i64 ah4.m.epoch, .int .i64 ah4.m.bal.round, .int .i64 ah4.m.bal.node, .int .i64 ah4.m.slot, .int .i64 ah4.m.low, .int .i64 0, .int .i64 ah4.m.val.kind, .slice m.co ah4.m.val.cmds.length m.cc, .slice m.no ah4.m.val.next.length m.nc, .slice vo 1 vc, .int .i64 0, .int .i64 0, .int .i64 0, .int .i64 0, .int .i64 0, .int .i64 0, .int .i64 0, .int .i64 0, .int .i64 0, .int .i64 0, .int .i64 0, .slice none 0 0]) := run_store_msg _ _ (by simp [Value.oneCell']) rfl hb0 rfl
  have hb := putM_heap (cs := #[.int .i64 ah4.m.kind, .int .i64 0, .int .i64 0, .int .i64 ah4.m.epoch, .int .i64 ah4.m.bal.round, .int .i64 ah4.m.bal.node, .int .i64 ah4.m.slot, .int .i64 ah4.m.low, .int .i64 0, .int .i64 ah4.m.val.kind, .slice m.co ah4.m.val.cmds.length m.cc, .slice m.no ah4.m.val.next.length m.nc, .slice vo 1 vc, .int .i64 0, .int .i64 0, .int .i64 0, .int .i64 0, .int .i64 0, .int .i64 0, .int .i64 0, .int .i64 0, .int .i64 0, .int .i64 0, .int .i64 0, .slice none 0 0]) hb0 rfl
  have kX : Kp Noone v4 (putM (v4.alloc (.cells #[.int .i64 0, .int .i64 0, .int .i64 0, .int .i64 0, .int .i64 0, .int .i64 0, .int .i64 0, .int .i64 0, .int .i64 0, .int .i64 0, .slice none 0 0, .slice none 0 0, .slice none 0 0, .int .i64 0, .int .i64 0, .int .i64 0, .int .i64 0, .int .i64 0, .int .i64 0, .int .i64 0, .int .i64 0, .int .i64 0, .int .i64 0, .int .i64 0, .slice none 0 0] 46)) v4.heap.size #[.int .i64 ah4.m.kind, .int .i64 0, .int .i64 0, .int .i64 ah4.m.epoch, .int .i64 ah4.m.bal.round, .int .i64 ah4.m.bal.node, .int .i64 ah4.m.slot, .int .i64 ah4.m.low, .int .i64 0, .int .i64 ah4.m.val.kind, .slice m.co ah4.m.val.cmds.length m.cc, .slice m.no ah4.m.val.next.length m.nc, .slice vo 1 vc, .int .i64 0, .int .i64 0, .int .i64 0, .int .i64 0, .int .i64 0, .int .i64 0, .int .i64 0, .int .i64 0, .int .i64 0, .int .i64 0, .int .i64 0, .slice none 0 0]) := ((Kp.refl Noone v4).alloc (.cells #[.int .i64 0, .int .i64 0, .int .i64 0, .int .i64 0, .int .i64 0, .int .i64 0, .int .i64 0, .int .i64 0, .int .i64 0, .int .i64 0, .slice none 0 0, .slice none 0 0, .slice none 0 0, .int .i64 0, .int .i64 0, .int .i64 0, .int .i64 0, .int .i64 0, .int .i64 0, .int .i64 0, .int .i64 0, .int .i64 0, .int .i64 0, .int .i64 0, .slice none 0 0] 46)).fin (putM_kp _) (fun j d => Or.inr (by omega))
  clear hb0
  have hk1 := kX.heap (xx.kp.heap B1.out.1 (by rw [B1.out.2.1]; exact sx_zero)) id
  have hn1 := (xx.old g1 B1.out.2.2).trans B1.out.2.1
  have hk2 := kX.heap (xx.kp.heap B2.out.1 (by rw [B2.out.2.1]; exact sx_zero)) id
  have hn2 := (xx.old g2 B2.out.2.2).trans B2.out.2.1
  have hk3 := kX.heap (xx.kp.heap B3.out.1 (by rw [B3.out.2.1]; exact sx_zero)) id
  have hn3 := (xx.old g3 B3.out.2.2).trans B3.out.2.1
  go_upto_region 8 with fail
  clear hst
  generalize hw : putM (v4.alloc (.cells #[.int .i64 0, .int .i64 0, .int .i64 0, .int .i64 0, .int .i64 0, .int .i64 0, .int .i64 0, .int .i64 0, .int .i64 0, .int .i64 0, .slice none 0 0, .slice none 0 0, .slice none 0 0, .int .i64 0, .int .i64 0, .int .i64 0, .int .i64 0, .int .i64 0, .int .i64 0, .int .i64 0, .int .i64 0, .int .i64 0, .int .i64 0, .int .i64 0, .slice none 0 0] 46)) v4.heap.size #[.int .i64 ah4.m.kind, .int .i64 0, .int .i64 0, .int .i64 ah4.m.epoch, .int .i64 ah4.m.bal.round, .int .i64 ah4.m.bal.node, .int .i64 ah4.m.slot, .int .i64 ah4.m.low, .int .i64 0, .int .i64 ah4.m.val.kind, .slice m.co ah4.m.val.cmds.length m.cc, .slice m.no ah4.m.val.next.length m.nc, .slice vo 1 vc, .int .i64 0, .int .i64 0, .int .i64 0, .int .i64 0, .int .i64 0, .int .i64 0, .int .i64 0, .int .i64 0, .int .i64 0, .int .i64 0, .int .i64 0, .slice none 0 0] = w5 at *
  generalize hg : v4.heap.size = g4 at *
  have B4 : Hid (w5.heap[g4]? = some (.cells #[.int .i64 ah4.m.kind, .int .i64 0, .int .i64 0, .int .i64 ah4.m.epoch, .int .i64 ah4.m.bal.round, .int .i64 ah4.m.bal.node, .int .i64 ah4.m.slot, .int .i64 ah4.m.low, .int .i64 0, .int .i64 ah4.m.val.kind, .slice m.co ah4.m.val.cmds.length m.cc, .slice m.no ah4.m.val.next.length m.nc, .slice vo 1 vc, .int .i64 0, .int .i64 0, .int .i64 0, .int .i64 0, .int .i64 0, .int .i64 0, .int .i64 0, .int .i64 0, .int .i64 0, .int .i64 0, .int .i64 0, .slice none 0 0] 46 (0, 0)) ∧ c5 g4 = 0 ∧ g4 < w5.heap.size) := Lib.hid ⟨hb, cols_new x.cols (by omega), (Array.getElem?_eq_some_iff.1 hb).1⟩
  have B1 := Lib.hid (And.intro hk1 (And.intro hn1 (Array.getElem?_eq_some_iff.1 hk1).1))
  clear hk1 hn1
  have B2 := Lib.hid (And.intro hk2 (And.intro hn2 (Array.getElem?_eq_some_iff.1 hk2).1))
  clear hk2 hn2
  have B3 := Lib.hid (And.intro hk3 (And.intro hn3 (Array.getElem?_eq_some_iff.1 hk3).1))
  clear hk3 hn3
  have X5 := Lib.hid (x.trans (Ext.quiet x.cols kX))
  have A5 := Lib.hid (hA.keep kX)
  have L5 := Lib.hid hL
  clear x xx hA hL hb kX hw hg X4 A4 L4
  have y0 := cell_of_row _ g1 0 _ _ (0, 0) B1.out.1
  have y9 := cell_of_row _ g1 12 _ _ (0, 0) B1.out.1
  have u0 := cell_of_row _ g2 0 _ _ (0, 0) B2.out.1
  have u6 := cell_of_row _ g2 6 _ _ (0, 0) B2.out.1
  have t0 := cell_of_row _ g3 0 _ _ (0, 0) B3.out.1
  have z9 := cell_of_row _ g4 12 _ _ (0, 0) B4.out.1
  simp only [List.getElem?_toArray, List.getElem?_cons_zero, List.getElem?_cons_succ] at y0 y9 u0 u6 t0 z9
  go_wp2_with fail
  go_ret
  exact ⟨rfl, X5.out.kp.mono (fun j hj c => absurd rfl c)⟩
theorem head14_any (W : World) : Calls Tryz.prog 9 #[] W fun e w' => e = .returned (.bool true) ∧ Kp Noone W w' :=
  head14_of ah0.1 ah0.2.1 ah1 ah2 ah3 ah4 ah_open rfl rfl rfl rfl ah_1 ah_2 ah_3 ah_4 ah_inv W

end Go.Proofs.YtgbgbokcohfnpaaGreat

/-
  WALKS of small readers: Epoch, Floor, Promised; the document's Below, Ints, Same of values.
-/
namespace Go.Proofs.YtgbgbokcohfnpaaGreat
open Go.RowKit

theorem two_set9 {w : World} {g e : Nat} {a b x y : Value} (h : w.heap[g]? = some (.cells #[a, b] e (0, 0))) : ((w.setCell ⟨g, 0, none⟩ x).setCell ⟨g, 1, none⟩ y).heap[g]? = some (.cells #[x, y] e (0, 0)) ∧ Kp (fun j => j = g) w ((w.setCell ⟨g, 0, none⟩ x).setCell ⟨g, 1, none⟩ y) :=
  ⟨(heap_set_cell (heap_set_cell h)).trans (by simp), ((Kp.refl (fun j => j = g) w).setCell (p := ⟨g, 0, none⟩) (fun _ => rfl) x).setCell (p := ⟨g, 1, none⟩) (fun _ => rfl) y⟩
set_option maxHeartbeats 2000000 in
set_option maxRecDepth 100000 in
theorem refInts_any (ao bo : Option Addr) (n m cap cap2 : Nat) (cs ds : List Int) (w : World) (h : IS w ao n cap cs) (h2 : IS w bo m cap2 ds) (hn : n ≤ 4194304) :
    Calls Tryz.prog 64 #[.slice ao n cap, .slice bo m cap2] w fun e w' => e = .returned (.bool (decide (cs = ds))) ∧ ∃ q, w' = w.drewN q := by
  have hl := h.len
  have hl2 := h2.len
  have H := Lib.hid h
  have H2 := Lib.hid h2
  clear h h2
  by_cases hnm : n = m
  case neg =>
    have HR : Hid (decide (cs = ds) = false) := Lib.hid (decide_eq_false (fun e => hnm (by rw [← hl, ← hl2, e])))
    have hq : ((n : Int) != (m : Int)) = true := by simp only [bne_iff_ne, ne_eq]; omega
    clear hnm hl hl2
    go_enter Tryz.func64, Tryz.ntmps64
    go_wp2_with fail
    go_ret
    exact ⟨ret_eq (by rw [HR.out]; rfl), 0, rfl⟩
  subst hnm
  have HL := Lib.hid hl
  have HL2 := Lib.hid hl2
  clear hl hl2
  go_enter Tryz.func64, Tryz.ntmps64
  go_wp2_with fail
  go_loopw [13] (fun v13 wx => ∃ j : Nat, v13 = .int .i64 (j : Int) ∧ j ≤ n ∧ Hid (cs.take j = ds.take j) ∧ Hid (∃ q, wx = w.drewN q)) (fun u _ => (4194305 - intOf u).toNat)
  case atStart => exact ⟨0, rfl, Nat.zero_le _, Lib.hid rfl, Lib.hid ⟨0, rfl⟩⟩
  case round =>
    obtain ⟨j, rfl, hj, htk, hq⟩ := hrel
    by_cases hlt : j < n
    · have hltz : (j : Int) < (n : Int) := by omega
      have hwj : IntKind.i64.wrap ((j : Int) + 1) = (j : Int) + 1 := IntWalk.i64_in _ (by omega)
      have hk : Kp Noone w wr := by obtain ⟨q, rfl⟩ := hq.out; exact (Kp.refl _ _).drewN q
      obtain ⟨b1, o1, l1, e1, -, x0⟩ := (H.out.keep hk).at hlt
      obtain ⟨b2, o2, l2, e2, -, y0⟩ := (H2.out.keep hk).at hlt
      have HT := Lib.hid (fun he => take_eq_succ (l := cs) (m := ds) l1 l2 htk.out he)
      have HN := Lib.hid (fun he => take_ne (l := cs) (m := ds) l1 l2 he)
      generalize cs[j] = c at *
      generalize ds[j] = d at *
      subst e1 e2
      by_cases he : c = d
      · have HT2 := Lib.hid (HT.out he)
        subst he
        clear hk
        go_wp2_with fail
        go_quiet (fail)
        go_wp2_with fail
        go_roundw
        case rel => exact ⟨j + 1, rfl, hlt, HT2, Lib.hid (by obtain ⟨q, rfl⟩ := hq.out; exact ⟨_, World.drewN_drewN _ _ _⟩)⟩
        case measure => exact meas_small j n hlt hn
      · have HR : Hid (decide (cs = ds) = false) := Lib.hid (decide_eq_false (HN.out he))
        have hq3 : (c != d) = true := by simp only [bne_iff_ne, ne_eq]; exact he
        clear hk he
        go_wp2_with fail
        go_quiet (fail)
        go_wp2_with fail
        go_ret
        exact ⟨ret_eq (by rw [HR.out]; rfl), by obtain ⟨q, rfl⟩ := hq.out; exact ⟨_, World.drewN_drewN _ _ _⟩⟩
    · obtain rfl : j = n := by omega
      have HR : Hid (decide (cs = ds) = true) := Lib.hid (decide_eq_true (by
        have := htk.out
        rwa [List.take_of_length_le (by rw [HL.out]; exact Nat.le_refl _), List.take_of_length_le (by rw [HL2.out]; exact Nat.le_refl _)] at this))
      clear hlt
      go_wp2_with fail
      go_ret
      exact ⟨ret_eq (by rw [HR.out]; rfl), hq.out⟩

end Go.Proofs.YtgbgbokcohfnpaaGreat
