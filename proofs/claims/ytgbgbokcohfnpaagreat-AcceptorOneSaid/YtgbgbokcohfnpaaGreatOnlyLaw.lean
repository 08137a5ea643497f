/-
  THE WALK of AcceptorOne.
-/
import Derived.Test.YtgbgbokcohfnpaaGreatQ34
import Derived.Test.YtgbgbokcohfnpaaGreatQ30
import Derived.Deep.CutBlock
namespace Go.Proofs.YtgbgbokcohfnpaaGreat
open Go.RowKit Go.ChangeShapes Go.WideShapes Go.ChangeAt

def tn0 : DS × LogP × Nat := beginF (newF 4194304) (freshL 300) 1 1
theorem tn_0 : tn0.2.2 = 0 := by decide +kernel
theorem tn_open : openF (newF 4194304) 300 = (tn0.1, some (tn0.2.1, []), 0) := by
  rw [openF_new]
  show openNew tn0 = _
  unfold openNew
  rw [if_neg (by rw [tn_0]; simp)]
/-- Behind the switch of a round. -/
structure OnlyR (w1 : World) (p ql q : Nat) (a : AcS) (K : Nat) (bs : List (Nat × Obj)) (n : Nat) (v : Value) (wx : World) : Prop where
  ex : ∃ (s' : DS) (l' : LogP) (a' : AcS) (S' : List SentL) (so' : Option Addr) (cap' : Nat) (D' : Nat → Prop) (col' : Nat → Nat), v = .slice so' S'.length cap' ∧ S'.length ≤ n ∧ (∀ j, D' j → j < wx.heap.size) ∧ KnowT a (S'.map (·.1)) a' ∧ LawY w1 p ql q s' l' a' K bs (SentAt w1.heap.size D' so' cap' S') col' wx
/-- The law's slice, beside a box of the law's own. -/
structure SentG (B : Nat) (D : Nat → Prop) (g : Nat) (so : Option Addr) (cap : Nat) (S : List SentL) (col : Nat → Nat) (w : World) : Prop where
  own : Own (fun j => B ≤ j ∧ col j = 0 ∧ D j) w 83 7 so S.length cap (sentV S)
  vals : ∀ p ∈ S, ValC (fun j => col j = 0 ∧ ¬ D j ∧ j ≠ g) w p.1.val p.2
theorem SentG.stab (B : Nat) (D : Nat → Prop) (g : Nat) (so : Option Addr) (cap : Nat) (S : List SentL) : StabX B (SentG B D g so cap S) := by
  intro col w col' w' e h
  refine ⟨?_, fun p hp => ?_⟩
  · have h1 := (h.own.mono (G := fun j => (B ≤ j ∧ col j = 0 ∧ D j) ∧ j < w.heap.size) (fun j hj d => ⟨d, hj⟩)).kp e.kp (fun j d c => by rw [d.1.2.1] at c; exact sx_zero c)
    exact h1.mono (fun j _ d => ⟨d.1.1, (e.old j d.2).trans d.1.2.1, d.1.2.2⟩)
  · have h1 := ((h.vals p hp).mono (Q := fun j => (col j = 0 ∧ ¬ D j ∧ j ≠ g) ∧ j < w.heap.size) (fun j hj d => ⟨d, hj⟩)).kp e.kp (fun j d c => by rw [d.1.1] at c; exact sx_zero c)
    exact h1.mono (fun j _ d => ⟨(e.old j d.2).trans d.1.1, d.1.2⟩)
theorem SentAt.late {B : Nat} {D : Nat → Prop} {so : Option Addr} {cap : Nat} {S : List SentL} {col : Nat → Nat} {w w' : World} (h : SentAt B D so cap S col w) (k : Kp Noone w w') : SentG B D w.heap.size so cap S col w' :=
  ⟨h.own.keep k, fun p hp => ((h.vals p hp).mono (Q := fun j => col j = 0 ∧ ¬ D j ∧ j ≠ w.heap.size) (fun j hj d => ⟨d.1, d.2, by omega⟩)).keep k⟩
theorem SentG.back {B : Nat} {D : Nat → Prop} {g : Nat} {so : Option Addr} {cap : Nat} {S : List SentL} {col : Nat → Nat} {w w' : World} (h : SentG B D g so cap S col w) (k : Kp (fun j => j = g) w w') (hD : ¬ D g) : SentAt B D so cap S col w' :=
  ⟨h.own.kp k (fun j d e => by subst e; exact hD d.2.2), fun p hp => ((h.vals p hp).kp k (fun j d e => d.2.2 e)).mono (fun j _ d => ⟨d.1, d.2.1⟩)⟩
theorem LawY.late {W : World} {p ql q : Nat} {s : DS} {l : LogP} {a : AcS} {K : Nat} {bs : List (Nat × Obj)} {D : Nat → Prop} {so : Option Addr} {cap : Nat} {S : List SentL} {col : Nat → Nat} {wx : World} (h : LawY W p ql q s l a K bs (SentAt W.heap.size D so cap S) col wx) (o : Obj) :
    LawY W p ql q s l a K ((wx.heap.size, o) :: bs) (SentG W.heap.size D wx.heap.size so cap S) col (wx.alloc o) := by
  have h1 := h.boxed o
  exact ⟨h1.ext, h1.ac, h1.box, h.own.late ((Kp.refl _ _).alloc _), SentG.stab _ _ _ _ _ _, h1.inv, h1.li⟩
theorem putM_new (w : World) (o : Obj) (cs : Array Value) : Kp Noone w (putM (w.alloc o) w.heap.size cs) := ((Kp.refl Noone w).alloc o).fin (putM_kp _) (fun j d => Or.inr (by omega))
/-- Behind 'x, e := a.Accept(..)': the box of the message. -/
structure AccCut (W : World) (p ql q : Nat) (x : AO) (K : Nat) (bs : List (Nat × Obj)) (D : Nat → Prop) (so : Option Addr) (cap : Nat) (S : List SentL) (n0 : Nat) (v11 v12 : Value) (wx : World) : Prop where
  ex : ∃ (g11 : Nat) (col4 : Nat → Nat) (vo9 : Option Addr) (vc9 : Nat) (m9 : VLoc), v11 = .pointer (some ⟨g11, 0, none⟩) ∧ v12 = .int .i64 (x.e : Int) ∧ wx.heap[g11]? = some (.cells (msgCs x.m vo9 vc9 m9) 46 (0, 0)) ∧ LawY W p ql q x.s x.l x.a K bs (SentAt W.heap.size D so cap S) col4 wx ∧ ValC (fun j => col4 j = 0 ∧ ¬ D j) wx x.m.val m9
  size : n0 ≤ wx.heap.size
theorem AccCut.early {W : World} {p ql q : Nat} {x : AO} {K K' : Nat} {bs : List (Nat × Obj)} {D : Nat → Prop} {so : Option Addr} {cap : Nat} {S : List SentL} {n0 n g : Nat} {col4 : Nat → Nat} {w4 : World} {vo9 : Option Addr} {vc9 : Nat} {m9 : VLoc}
    (h : LawY W p ql q x.s x.l x.a K ((g, .cells #[.int .i64 0, .int .i64 0, .int .i64 0, .int .i64 0, .int .i64 0, .int .i64 0, .int .i64 0, .int .i64 0, .int .i64 0, .int .i64 0, .slice none 0 0, .slice none 0 0, .slice none 0 0, .int .i64 0, .int .i64 0, .int .i64 0, .int .i64 0, .int .i64 0, .int .i64 0, .int .i64 0, .int .i64 0, .int .i64 0, .int .i64 0, .int .i64 0, .slice none 0 0] 46 (0, 0)) :: bs) (SentG W.heap.size D g so cap S) col4 w4) (hm : MsgAt (fun j => n ≤ j ∧ col4 j = 0) w4 x.m vo9 vc9 m9) (hg : W.heap.size ≤ g) (hDg : ¬ D g) (hgn : g < n) (hDn : ∀ j, D j → j < n0) (hbs : ∀ y ∈ bs, y.1 < n0) (hng : n0 ≤ g) (hz : n ≤ w4.heap.size) (hK : K ≤ K') :
    AccCut W p ql q x K' bs D so cap S n0 (.pointer (some ⟨g, 0, none⟩)) (.int .i64 (x.e : Int)) (putM w4 g (msgCs x.m vo9 vc9 m9)) := by
  have k := putM_kp (w := w4) (g := g) (msgCs x.m vo9 vc9 m9)
  obtain ⟨hb, hc⟩ := h.box (g, _) (List.mem_cons_self ..)
  refine ⟨⟨g, col4, vo9, vc9, m9, rfl, rfl, putM_heap hb rfl, ?_, ?_⟩, by have := k.size; omega⟩
  · exact ((h.less (fun y hy => List.mem_cons_of_mem _ hy)).put k (fun j d => by subst d; exact ⟨hg, hc⟩) (fun y hy e => by have := hbs y hy; have e : y.1 = g := e; omega) (h.own.back k hDg) (SentAt.stab _ _ _ _ _)).mono hK
  · exact (hm.val.in.kp k (fun j d e => by have := d.1; omega)).mono (fun j _ d => ⟨d.2, fun c => by have := hDn j c; have := d.1; omega⟩)
theorem AccCut.late {W : World} {p ql q : Nat} {x : AO} {K K' : Nat} {bs : List (Nat × Obj)} {D : Nat → Prop} {so : Option Addr} {cap : Nat} {S : List SentL} {n0 n : Nat} {col4 : Nat → Nat} {w4 : World} {vo9 : Option Addr} {vc9 : Nat} {m9 : VLoc}
    (h : LawY W p ql q x.s x.l x.a K bs (SentAt W.heap.size D so cap S) col4 w4) (hm : MsgAt (fun j => n ≤ j ∧ col4 j = 0) w4 x.m vo9 vc9 m9) (hDn : ∀ j, D j → j < n0) (hn0 : n0 ≤ n) (hz : n ≤ w4.heap.size) (hK : K ≤ K') :
    AccCut W p ql q x K' bs D so cap S n0 (.pointer (some ⟨w4.heap.size, 0, none⟩)) (.int .i64 (x.e : Int)) (putM (w4.alloc (.cells #[.int .i64 0, .int .i64 0, .int .i64 0, .int .i64 0, .int .i64 0, .int .i64 0, .int .i64 0, .int .i64 0, .int .i64 0, .int .i64 0, .slice none 0 0, .slice none 0 0, .slice none 0 0, .int .i64 0, .int .i64 0, .int .i64 0, .int .i64 0, .int .i64 0, .int .i64 0, .int .i64 0, .int .i64 0, .int .i64 0, .int .i64 0, .int .i64 0, .slice none 0 0] 46)) w4.heap.size (msgCs x.m vo9 vc9 m9)) := by
  have k := putM_new w4 (.cells #[.int .i64 0, .int .i64 0, .int .i64 0, .int .i64 0, .int .i64 0, .int .i64 0, .int .i64 0, .int .i64 0, .int .i64 0, .int .i64 0, .slice none 0 0, .slice none 0 0, .slice none 0 0, .int .i64 0, .int .i64 0, .int .i64 0, .int .i64 0, .int .i64 0, .int .i64 0, .int .i64 0, .int .i64 0, .int .i64 0, .int .i64 0, .int .i64 0, .slice none 0 0] 46) (msgCs x.m vo9 vc9 m9)
  refine ⟨⟨w4.heap.size, col4, vo9, vc9, m9, rfl, rfl, putM_heap (heap_alloc_new _ _) rfl, (h.keep k).mono hK, ?_⟩, Nat.le_trans (Nat.le_trans hn0 hz) k.size⟩
  exact (hm.val.in.keep k).mono (fun j _ d => ⟨d.2, fun c => by have := hDn j c; have := d.1; omega⟩)
/-- At a round's head. -/
structure OnlyH (w1 : World) (p ql q : Nat) (K : Nat) (n : Nat) (v : Value) (wx : World) : Prop where
  ex : ∃ (s' : DS) (l' : LogP) (a' : AcS) (S' : List SentL) (so' : Option Addr) (cap' : Nat) (D' : Nat → Prop) (col' : Nat → Nat), v = .slice so' S'.length cap' ∧ S'.length ≤ n ∧ (∀ j, D' j → j < wx.heap.size) ∧ KnowI a' (S'.map (·.1)) ∧ LawY w1 p ql q s' l' a' K [] (SentAt w1.heap.size D' so' cap' S') col' wx
theorem wp_region_two9 {P : Program} {id : Nat} {ops : Array Oper} {b : Bool} {Q : Exit → Act → World → Prop} {a : Act} {w : World} {F : Option Addr → Nat → Act} {G : Option Addr → Nat → World → Prop}
    (h : (Code.region id ops b).wp P (NoPanic fun e a' w' => e = .normal ∧ ∃ ao cap, a' = F ao cap ∧ G ao cap w') a w) (k : ∀ ao cap w', G ao cap w' → Q .normal (F ao cap) w') : (Code.region id ops b).wp P Q a w :=
  Code.wp_mono (fun e a' w' q => by
    obtain ⟨rfl, ao, cap, rfl, hg⟩ := NoPanic.imp e a' w' q
    exact k ao cap w' hg) h
theorem wpAnyH_skip9 {P : Program} {ops : Array Oper} {Q : Exit → Act → World → Prop} {md : Region.Mode} {S : World → Prop} {i : Nat} {o : Oper} {fuel : Nat} {listed : Array Bool} {a : Act} {w : World} (hr : Region.ready md ops listed = [i]) (ho : ops[i]? = some o) (hw : Region.wanted o (yielded ops a.tmps) = false) (hS : S w)
    (h : wpAnyH P md ops Q S fuel (listed.setIfInBounds i true) (a.put o.dst undef) w) : wpAnyH P md ops Q S (fuel + 1) listed a w :=
  wpAnyH_ready hr (by simp) (AllReadyH.cons ho (fun K hK => by rw [if_neg (by rw [hw]; decide)]; exact hK.out _ _ hS (fun _ => h)) AllReadyH.nil)
theorem wpAnyH_call9 {P : Program} {ops : Array Oper} {Q : Exit → Act → World → Prop} {md : Region.Mode} {S : World → Prop} {i : Nat} {o : Oper} {fuel : Nat} {listed : Array Bool} {a : Act} {w : World} (hr : Region.ready md ops listed = [i]) (ho : ops[i]? = some o) (hw : Region.wanted o (yielded ops a.tmps) = true)
    (h : ∀ K : Act → World → Prop, (∀ a w, S w → (S w → wpAnyH P md ops Q S fuel (listed.setIfInBounds i true) a w) → K a w) → Oper.wp P o a w K Q) : wpAnyH P md ops Q S (fuel + 1) listed a w :=
  wpAnyH_ready hr (by simp) (AllReadyH.cons ho (fun K hK => by rw [if_pos hw]; exact h K (fun a w hS hW => hK.out a w hS hW)) AllReadyH.nil)
theorem opc9 {w : World} {g : Nat} {a b c d e f k i j : Value} {T : TypeId} {fr : Nat × Nat} (h : w.heap[g]? = some (.cells #[a, b, c, d, e, f, k, i, j] T fr)) :
    (w.cell? ⟨g, 1, none⟩ = some b ∧ w.cell? ⟨g, 2, none⟩ = some c ∧ w.cell? ⟨g, 3, none⟩ = some d) ∧ w.cell? ⟨g, 5, none⟩ = some f ∧ w.cell? ⟨g, 6, none⟩ = some k ∧ w.cell? ⟨g, 7, none⟩ = some i := by
  obtain ⟨⟨-, h1, h2, h3⟩, -, h5, h6, h7, -⟩ := cells_9v h
  exact ⟨⟨h1, h2, h3⟩, h5, h6, h7⟩
theorem cells_7v {w : World} {g : Nat} {a b c d e f k : Value} {T : TypeId} {fr : Nat × Nat} (h : w.heap[g]? = some (.cells #[a, b, c, d, e, f, k] T fr)) :
    w.cell? ⟨g, 0, none⟩ = some a ∧ w.cell? ⟨g, 1, none⟩ = some b ∧ w.cell? ⟨g, 2, none⟩ = some c ∧ w.cell? ⟨g, 3, none⟩ = some d ∧ w.cell? ⟨g, 4, none⟩ = some e ∧ w.cell? ⟨g, 5, none⟩ = some f ∧ w.cell? ⟨g, 6, none⟩ = some k :=
  ⟨cell_of_row w g 0 _ T fr h, cell_of_row w g 1 _ T fr h, cell_of_row w g 2 _ T fr h, cell_of_row w g 3 _ T fr h, cell_of_row w g 4 _ T fr h, cell_of_row w g 5 _ T fr h, cell_of_row w g 6 _ T fr h⟩
attribute [local irreducible] prepA accA raiseO enterO openF newF Calls

attribute [local go_sem ↓] stM_eq
set_option maxHeartbeats 20000000 in
set_option maxRecDepth 100000 in
theorem only_of (s0 : DS) (l0 : LogP) (hop : openF (newF 4194304) 300 = (s0, some (l0, []), 0)) (ao : Option Addr) (n cap : Nat) (ps : List OpA) (W : World) (h : OpAS W ao n cap ps) :
    Calls Tryz.prog 5 #[.slice ao n cap] W fun e w' => e = .returned (.bool true) ∧ Kp Noone W w' := by
  obtain ⟨i0, hi, hz0, hz1, hz2⟩ := info_parts (P := Tryz.prog) (e := 83) (z := .agg #[.int .i64 0, .int .i64 0, .int .i64 0, .int .i64 0, .int .i64 0, .slice none 0 0, .slice none 0 0]) (size := 7) (bytes := 88) (by kernel_rfl)
  have HOP := Lib.hid hop
  have HPS := Lib.hid h
  have hcap := h.max
  have hncap := h.le
  clear hop h
  have hhd := head14_any W
  go_enter Tryz.func5, Tryz.ntmps5
  go_wp2_with fail
  refine hhd.mono ?_
  clear hhd
  rintro e w1 ⟨rfl, k1⟩
  have HK1 := Lib.hid k1
  clear k1
  have hfr := fresh_any 4194304 300 w1
  rw [HOP.out] at hfr
  go_wp2_with fail
  refine hfr.mono ?_
  clear hfr
  rintro e w2 ⟨⟨c2, p, x2, hcase⟩⟩
  rcases hcase with ⟨hx, -⟩ | ⟨l, q, ql, hR, rfl, hA, hL⟩
  · cases hx
  cases hR
  simp only [] at hA hL
  have HX0 : Hid (∀ w' (so : Option Addr), Kp Noone w2 w' → OnlyH w1 p ql q 1 0 (.slice so 0 0) w') := Lib.hid (fun w' so kk =>
    ⟨s0, l0, enterA 0 0, [], so, 0, fun _ => False, c2, rfl, Nat.le_refl _, fun j d => d.elim, KnowI.start, x2.trans (Ext.quiet x2.cols kk), hA.keep kk, fun y hy => (by cases hy), SentAt.nil _ _ _ _ _, SentAt.stab _ _ _ _ _, AInv.start, hL⟩)
  clear x2 hA hL
  go_upto_region 7 with fail
  have HX0 : Hid (OnlyH w1 p ql q 1 0 (.slice (some ⟨w2.heap.size, 0, none⟩) 0 0) (w2.alloc (.cells #[] 83))) := Lib.hid (HX0.out _ _ ((Kp.refl _ _).alloc _))
  generalize w2.alloc (.cells #[] 83) = w3 at *
  generalize w2.heap.size = g6 at *
  go_wp2_with fail
  go_loopw [6, 7] (fun v6 v7 wx => ∃ i : Nat, v7 = .int .i64 (i : Int) ∧ i ≤ 80 ∧ Hid (OnlyH w1 p ql q (1 + 70 * i) i v6 wx)) (fun _ u _ => (81 - intOf u).toNat)
  case atStart => exact ⟨0, rfl, Nat.zero_le _, HX0⟩
  case round =>
    obtain ⟨i, rfl, hi60, hx⟩ := hrel
    clear HX0
    obtain ⟨s, l, a, S, so, scap, D, col, rfl, hSn, hD, hkn, hx⟩ := hx.out.ex
    have HX := Lib.hid hx
    have HKN := Lib.hid hkn
    have HD := Lib.hid hD
    have HSN := Lib.hid hSn
    clear hx hkn hD hSn
    by_cases hgo : i < n ∧ i < 80
    case neg =>
      have HFIN : Hid (Kp Noone W wr) := Lib.hid (HK1.out.trans HX.out.old)
      rcases (by omega : ¬ (i : Int) < (n : Int) ∨ ((i : Int) < (n : Int) ∧ ¬ (i : Int) < 80)) with hend | ⟨hend, hend2⟩
      all_goals (
        clear hgo
        go_wp2_with fail
        go_ret
        exact ⟨rfl, HFIN.out⟩)
    obtain ⟨hin, hi6⟩ := hgo
    have hinz : (i : Int) < (n : Int) := by omega
    have hi6z : (i : Int) < 80 := by omega
    have hwi : IntKind.i64.wrap ((i : Int) + 1) = (i : Int) + 1 := IntWalk.i64_in _ (by omega)
    obtain ⟨pb, off, lv, ko, kc, hl, hao, hat⟩ := HPS.out.at9 (HK1.out.trans HX.out.old) hin
    generalize ps[i] = o at *
    obtain ⟨ok, ⟨ord, ond⟩, on, om, ov, okeep⟩ := o
    obtain ⟨-, ⟨⟨y0, y1, y2, y3⟩, y4, y5, y6, y7, y8⟩, hva, -, hlen⟩ := hat
    simp only [] at y0 y1 y2 y3 y4 y5 y6 y7 y8 hva hlen
    subst hao
    have HVA := Lib.hid hva
    have HLN := Lib.hid hlen
    have HX1 := Lib.hid (HX.out.boxed (.cells #[.int .i64 ok, .int .i64 ord, .int .i64 ond, .int .i64 on, .int .i64 om, .int .i64 ov.kind, .slice lv.co ov.cmds.length lv.cc, .slice lv.no ov.next.length lv.nc, .slice ko okeep.length kc] 36))
    have kB : Kp Noone wr (wr.alloc (.cells #[.int .i64 ok, .int .i64 ord, .int .i64 ond, .int .i64 on, .int .i64 om, .int .i64 ov.kind, .slice lv.co ov.cmds.length lv.cc, .slice lv.no ov.next.length lv.nc, .slice ko okeep.length kc] 36)) := (Kp.refl _ _).alloc _
    have HVB := Lib.hid (hva.keep kB)
    have HD1 : Hid (¬ D wr.heap.size ∧ ∀ j, D j → j < (wr.alloc (.cells #[.int .i64 ok, .int .i64 ord, .int .i64 ond, .int .i64 on, .int .i64 om, .int .i64 ov.kind, .slice lv.co ov.cmds.length lv.cc, .slice lv.no ov.next.length lv.nc, .slice ko okeep.length kc] 36)).heap.size) := Lib.hid ⟨fun d => by have := HD.out _ d; omega, fun j d => Nat.lt_of_lt_of_le (HD.out j d) kB.size⟩
    clear hva hlen hl kB
    go_upto_region 11 with fail
    clear y0 y1 y2 y3 y4 y5 y6 y7 y8
    generalize wr.alloc (.cells #[.int .i64 ok, .int .i64 ord, .int .i64 ond, .int .i64 on, .int .i64 om, .int .i64 ov.kind, .slice lv.co ov.cmds.length lv.cc, .slice lv.no ov.next.length lv.nc, .slice ko okeep.length kc] 36) = wB at *
    generalize wr.heap.size = gB at *
    have hpr := promised_a col wB p ql q s l a HX1.out.ac
    go_wp2_with fail
    refine hpr.mono ?_
    clear hpr
    rintro e wP ⟨rfl, kP⟩
    have HX2 := Lib.hid ((HX1.out.keep kP).boxed (.cells #[.int .i64 a.prom.round, .int .i64 a.prom.node] 24))
    have kC : Kp Noone wB (wP.alloc (.cells #[.int .i64 a.prom.round, .int .i64 a.prom.node] 24)) := kP.alloc _
    have HVC := Lib.hid (HVB.out.keep kC)
    have HD2 : Hid ((¬ D gB ∧ ¬ D wP.heap.size) ∧ ∀ j, D j → j < (wP.alloc (.cells #[.int .i64 a.prom.round, .int .i64 a.prom.node] 24)).heap.size) := Lib.hid ⟨⟨HD1.out.1, fun d => by have := HD1.out.2 _ d; have := kP.size; omega⟩, fun j d => Nat.lt_of_lt_of_le (HD1.out.2 j d) kC.size⟩
    clear kP kC
    go_upto_region 12 with fail
    generalize wP.alloc (.cells #[.int .i64 a.prom.round, .int .i64 a.prom.node] 24) = wC at *
    generalize wP.heap.size = gC at *
    have hep := epoch_a col wC p ql q s l a HX2.out.ac
    go_wp2_with fail
    refine hep.mono ?_
    clear hep
    rintro e wE ⟨rfl, rfl⟩
    obtain ⟨⟨z0, z1, z2, z3⟩, z4, z5, z6, z7, -⟩ := cells_9v (HX2.out.cell9 (x := (gB, _)) (List.mem_cons_of_mem _ (List.mem_cons_self ..)))
    go_upto_block 2 with fail
    go_cut [6, 11, 12, 14] from 29 to 167 (fun v6 _ _ _ wx => Hid (OnlyR w1 p ql q a (1 + 70 * (i + 1)) [(gC, (.cells #[.int .i64 a.prom.round, .int .i64 a.prom.node] 24))] (i + 1) v6 wx))
    case first =>
      rcases (by omega : ok = 0 ∨ ok = 1 ∨ ok = 2 ∨ ok = 3 ∨ (ok ≠ 0 ∧ ok ≠ 1 ∧ ok ≠ 2 ∧ ok ≠ 3)) with rfl | rfl | rfl | rfl | ⟨k0, k1, k2, k3⟩
      · have hp := HX2.out.prepare (by omega) ⟨ord, ond⟩ on
        clear z4 z5 z6 z7
        have HKT := Lib.hid (HKN.out.prep s l ⟨ord, ond⟩ on)
        have HSZ := Lib.hid (HX2.out.ext.size)
        go_wp2_with fail
        refine hp.mono ?_
        clear hp z0 z1 z2 z3
        rintro e w4 ⟨⟨col', vo, vc, m, hlaw, rfl, -⟩, hz4⟩
        have HR : Hid (OnlyR w1 p ql q a (1 + 70 * (i + 1)) [(gC, (.cells #[.int .i64 a.prom.round, .int .i64 a.prom.node] 24))] (i + 1) (.slice so S.length scap) w4) := Lib.hid ⟨⟨_, _, _, S, so, scap, D, col', rfl, by have := HSN.out; omega, fun j d => Nat.lt_of_lt_of_le (HD2.out.2 j d) hz4, HKT.out, (hlaw.less (fun x hx => List.mem_cons.2 (Or.inl (List.mem_singleton.1 hx)))).mono (by omega)⟩⟩
        clear hlaw hz4
        go_wp2_with fail
        go_meet
        case rel => exact HR
      · have kd : Kp Noone wC wC.drew := (Kp.refl _ _).drew
        have hcp := refCopy_any ov lv wC.drew (HVC.out.keep kd) (by have := HLN.out; omega) (by have := HLN.out; omega)
        unfold valV at hcp
        have HX3 := Lib.hid (HX2.out.keep kd)
        have HSX : Hid (∀ W', Kp Noone wC W' → (W'.cell? ⟨gB, 1, none⟩ = some (.int .i64 ord) ∧ W'.cell? ⟨gB, 2, none⟩ = some (.int .i64 ond) ∧ W'.cell? ⟨gB, 3, none⟩ = some (.int .i64 on)) ∧ W'.cell? ⟨gB, 5, none⟩ = some (.int .i64 ov.kind) ∧ W'.cell? ⟨gB, 6, none⟩ = some (.slice lv.co ov.cmds.length lv.cc) ∧ W'.cell? ⟨gB, 7, none⟩ = some (.slice lv.no ov.next.length lv.nc)) := Lib.hid (fun W' kk => opc9 (kk.heap (HX2.out.cell9 (x := (gB, _)) (List.mem_cons_of_mem _ (List.mem_cons_self ..))) id))
        clear z0 z1 z2 z3 z4 z5 z6 z7
        obtain ⟨x, hxo⟩ : ∃ x, Hid (accA s l a ⟨ord, ond⟩ on ov = x) := ⟨_, Lib.hid rfl⟩
        have HACC := Lib.hid (HKN.out.acc s l ⟨ord, ond⟩ on ov)
        rw [hxo.out] at HACC
        have hac : ∀ (bs : List (Nat × Obj)) (R : (Nat → Nat) → World → Prop) (W' : World) (m : VLoc), LawY w1 p ql q s l a (1 + 70 * i) bs R col W' → ValC (fun j => col j = 0) W' ov m → Calls Tryz.prog 12 #[.pointer (some ⟨q, 0, none⟩), .agg #[.int .i64 ord, .int .i64 ond], .int .i64 on, .agg #[.int .i64 ov.kind, .slice m.co ov.cmds.length m.cc, .slice m.no ov.next.length m.nc]] W' fun e w' => LMsgY w1 p ql q x (1 + 70 * i + 70) bs R W' e w' := fun bs R W' m hl hv => by
          have h := hl.accept (by omega) ⟨ord, ond⟩ on ov m hv (by have := HLN.out; omega) (by have := HLN.out; omega)
          rw [hxo.out] at h
          exact h
        have HXA : Hid (LawY w1 p ql q s l a (1 + 70 * i) ((wC.heap.size, (.cells #[.int .i64 0, .int .i64 0, .int .i64 0, .int .i64 0, .int .i64 0, .int .i64 0, .int .i64 0, .int .i64 0, .int .i64 0, .int .i64 0, .slice none 0 0, .slice none 0 0, .slice none 0 0, .int .i64 0, .int .i64 0, .int .i64 0, .int .i64 0, .int .i64 0, .int .i64 0, .int .i64 0, .int .i64 0, .int .i64 0, .int .i64 0, .int .i64 0, .slice none 0 0] 46)) :: [(gC, (.cells #[.int .i64 a.prom.round, .int .i64 a.prom.node] 24)), (gB, (.cells #[.int .i64 1, .int .i64 ord, .int .i64 ond, .int .i64 on, .int .i64 om, .int .i64 ov.kind, .slice lv.co ov.cmds.length lv.cc, .slice lv.no ov.next.length lv.nc, .slice ko okeep.length kc] 36))]) (SentG w1.heap.size D wC.heap.size so scap S) col ((wC.alloc (.cells #[.int .i64 0, .int .i64 0, .int .i64 0, .int .i64 0, .int .i64 0, .int .i64 0, .int .i64 0, .int .i64 0, .int .i64 0, .int .i64 0, .slice none 0 0, .slice none 0 0, .slice none 0 0, .int .i64 0, .int .i64 0, .int .i64 0, .int .i64 0, .int .i64 0, .int .i64 0, .int .i64 0, .int .i64 0, .int .i64 0, .int .i64 0, .int .i64 0, .slice none 0 0] 46)).drew)) := Lib.hid ((HX2.out.late (.cells #[.int .i64 0, .int .i64 0, .int .i64 0, .int .i64 0, .int .i64 0, .int .i64 0, .int .i64 0, .int .i64 0, .int .i64 0, .int .i64 0, .slice none 0 0, .slice none 0 0, .slice none 0 0, .int .i64 0, .int .i64 0, .int .i64 0, .int .i64 0, .int .i64 0, .int .i64 0, .int .i64 0, .int .i64 0, .int .i64 0, .int .i64 0, .int .i64 0, .slice none 0 0] 46)).keep ((Kp.refl _ _).drew))
        have HGB : Hid ((gB < wC.heap.size ∧ gC < wC.heap.size) ∧ w1.heap.size ≤ wC.heap.size) := Lib.hid ⟨⟨(Array.getElem?_eq_some_iff.1 (HX2.out.cell9 (x := (gB, _)) (List.mem_cons_of_mem _ (List.mem_cons_self ..)))).1, (Array.getElem?_eq_some_iff.1 (HX2.out.cell9 (x := (gC, _)) (List.mem_cons_self ..))).1⟩, HX2.out.ext.size⟩
        have HBS : Hid (∀ y ∈ ([(gC, (.cells #[.int .i64 a.prom.round, .int .i64 a.prom.node] 24)), (gB, (.cells #[.int .i64 1, .int .i64 ord, .int .i64 ond, .int .i64 on, .int .i64 om, .int .i64 ov.kind, .slice lv.co ov.cmds.length lv.cc, .slice lv.no ov.next.length lv.nc, .slice ko okeep.length kc] 36))] : List (Nat × Obj)), y.1 < wC.heap.size) := Lib.hid (fun y hy => by
          rcases List.mem_cons.1 hy with rfl | hy
          · exact HGB.out.1.2
          · rw [List.mem_singleton.1 hy]; exact HGB.out.1.1)
        have e1 : ((1 : Int) == 0) = false := rfl
        go_upto_region 17 with fail
        go_cut [11, 12] from 29 to 167 (fun v11 v12 wx => Hid (AccCut w1 p ql q x (1 + 70 * (i + 1)) [(gC, (.cells #[.int .i64 a.prom.round, .int .i64 a.prom.node] 24)), (gB, (.cells #[.int .i64 1, .int .i64 ord, .int .i64 ond, .int .i64 on, .int .i64 om, .int .i64 ov.kind, .slice lv.co ov.cmds.length lv.cc, .slice lv.no ov.next.length lv.nc, .slice ko okeep.length kc] 36))] D so scap S wC.heap.size v11 v12 wx))
        case first =>
          have hcpG := fun (W' : World) (kk : Kp Noone wC W') => refCopy_any ov lv W' (HVC.out.keep kk) (by have := HLN.out; omega) (by have := HLN.out; omega)
          unfold valV at hcpG
          have LA : ∀ (w3 : World) (m : VLoc), Kp Noone ((wC.alloc (.cells #[.int .i64 0, .int .i64 0, .int .i64 0, .int .i64 0, .int .i64 0, .int .i64 0, .int .i64 0, .int .i64 0, .int .i64 0, .int .i64 0, .slice none 0 0, .slice none 0 0, .slice none 0 0, .int .i64 0, .int .i64 0, .int .i64 0, .int .i64 0, .int .i64 0, .int .i64 0, .int .i64 0, .int .i64 0, .int .i64 0, .int .i64 0, .int .i64 0, .slice none 0 0] 46)).drew) w3 → ValOwn (Ex Noone ((wC.alloc (.cells #[.int .i64 0, .int .i64 0, .int .i64 0, .int .i64 0, .int .i64 0, .int .i64 0, .int .i64 0, .int .i64 0, .int .i64 0, .int .i64 0, .slice none 0 0, .slice none 0 0, .slice none 0 0, .int .i64 0, .int .i64 0, .int .i64 0, .int .i64 0, .int .i64 0, .int .i64 0, .int .i64 0, .int .i64 0, .int .i64 0, .int .i64 0, .int .i64 0, .slice none 0 0] 46)).drew) w3) w3 ov m → Calls Tryz.prog 12 #[.pointer (some ⟨q, 0, none⟩), .agg #[.int .i64 ord, .int .i64 ond], .int .i64 on, .agg #[.int .i64 ov.kind, .slice m.co ov.cmds.length m.cc, .slice m.no ov.next.length m.nc]] w3 fun e w4 => ∃ (vo9 : Option Addr) (vc9 : Nat) (m9 : VLoc), e = .returned (.tuple #[.agg #[.int .i64 x.m.kind, .int .i64 0, .int .i64 0, .int .i64 x.m.epoch, .int .i64 x.m.bal.round, .int .i64 x.m.bal.node, .int .i64 x.m.slot, .int .i64 x.m.low, .int .i64 0, .int .i64 x.m.val.kind, .slice m9.co x.m.val.cmds.length m9.cc, .slice m9.no x.m.val.next.length m9.nc, .slice vo9 x.m.votes.length vc9, .int .i64 0, .int .i64 0, .int .i64 0, .int .i64 0, .int .i64 0, .int .i64 0, .int .i64 0, .int .i64 0, .int .i64 0, .int .i64 0, .int .i64 0, .slice none 0 0], .int .i64 (x.e : Int)]) ∧ ((w4.cell? ⟨gB, 1, none⟩ = some (.int .i64 ord) ∧ w4.cell? ⟨gB, 2, none⟩ = some (.int .i64 ond) ∧ w4.cell? ⟨gB, 3, none⟩ = some (.int .i64 on)) ∧ w4.cell? ⟨gB, 5, none⟩ = some (.int .i64 ov.kind) ∧ w4.cell? ⟨gB, 6, none⟩ = some (.slice lv.co ov.cmds.length lv.cc) ∧ w4.cell? ⟨gB, 7, none⟩ = some (.slice lv.no ov.next.length lv.nc)) ∧ (stM (.pointer (some ⟨wC.heap.size, 0, none⟩)) (.agg #[.int .i64 x.m.kind, .int .i64 0, .int .i64 0, .int .i64 x.m.epoch, .int .i64 x.m.bal.round, .int .i64 x.m.bal.node, .int .i64 x.m.slot, .int .i64 x.m.low, .int .i64 0, .int .i64 x.m.val.kind, .slice m9.co x.m.val.cmds.length m9.cc, .slice m9.no x.m.val.next.length m9.nc, .slice vo9 x.m.votes.length vc9, .int .i64 0, .int .i64 0, .int .i64 0, .int .i64 0, .int .i64 0, .int .i64 0, .int .i64 0, .int .i64 0, .int .i64 0, .int .i64 0, .int .i64 0, .slice none 0 0])).run Tryz.prog w4 = .ok () (putM w4 wC.heap.size #[.int .i64 x.m.kind, .int .i64 0, .int .i64 0, .int .i64 x.m.epoch, .int .i64 x.m.bal.round, .int .i64 x.m.bal.node, .int .i64 x.m.slot, .int .i64 x.m.low, .int .i64 0, .int .i64 x.m.val.kind, .slice m9.co x.m.val.cmds.length m9.cc, .slice m9.no x.m.val.next.length m9.nc, .slice vo9 x.m.votes.length vc9, .int .i64 0, .int .i64 0, .int .i64 0, .int .i64 0, .int .i64 0, .int .i64 0, .int .i64 0, .int .i64 0, .int .i64 0, .int .i64 0, .int .i64 0, .slice none 0 0]) ∧ (((putM w4 wC.heap.size #[.int .i64 x.m.kind, .int .i64 0, .int .i64 0, .int .i64 x.m.epoch, .int .i64 x.m.bal.round, .int .i64 x.m.bal.node, .int .i64 x.m.slot, .int .i64 x.m.low, .int .i64 0, .int .i64 x.m.val.kind, .slice m9.co x.m.val.cmds.length m9.cc, .slice m9.no x.m.val.next.length m9.nc, .slice vo9 x.m.votes.length vc9, .int .i64 0, .int .i64 0, .int .i64 0, .int .i64 0, .int .i64 0, .int .i64 0, .int .i64 0, .int .i64 0, .int .i64 0, .int .i64 0, .int .i64 0, .slice none 0 0]).cell? ⟨gB, 1, none⟩ = some (.int .i64 ord) ∧ (putM w4 wC.heap.size #[.int .i64 x.m.kind, .int .i64 0, .int .i64 0, .int .i64 x.m.epoch, .int .i64 x.m.bal.round, .int .i64 x.m.bal.node, .int .i64 x.m.slot, .int .i64 x.m.low, .int .i64 0, .int .i64 x.m.val.kind, .slice m9.co x.m.val.cmds.length m9.cc, .slice m9.no x.m.val.next.length m9.nc, .slice vo9 x.m.votes.length vc9, .int .i64 0, .int .i64 0, .int .i64 0, .int .i64 0, .int .i64 0, .int .i64 0, .int .i64 0, .int .i64 0, .int .i64 0, .int .i64 0, .int .i64 0, .slice none 0 0]).cell? ⟨gB, 2, none⟩ = some (.int .i64 ond) ∧ (putM w4 wC.heap.size #[.int .i64 x.m.kind, .int .i64 0, .int .i64 0, .int .i64 x.m.epoch, .int .i64 x.m.bal.round, .int .i64 x.m.bal.node, .int .i64 x.m.slot, .int .i64 x.m.low, .int .i64 0, .int .i64 x.m.val.kind, .slice m9.co x.m.val.cmds.length m9.cc, .slice m9.no x.m.val.next.length m9.nc, .slice vo9 x.m.votes.length vc9, .int .i64 0, .int .i64 0, .int .i64 0, .int .i64 0, .int .i64 0, .int .i64 0, .int .i64 0, .int .i64 0, .int .i64 0, .int .i64 0, .int .i64 0, .slice none 0 0]).cell? ⟨gB, 3, none⟩ = some (.int .i64 on)) ∧ (putM w4 wC.heap.size #[.int .i64 x.m.kind, .int .i64 0, .int .i64 0, .int .i64 x.m.epoch, .int .i64 x.m.bal.round, .int .i64 x.m.bal.node, .int .i64 x.m.slot, .int .i64 x.m.low, .int .i64 0, .int .i64 x.m.val.kind, .slice m9.co x.m.val.cmds.length m9.cc, .slice m9.no x.m.val.next.length m9.nc, .slice vo9 x.m.votes.length vc9, .int .i64 0, .int .i64 0, .int .i64 0, .int .i64 0, .int .i64 0, .int .i64 0, .int .i64 0, .int .i64 0, .int .i64 0, .int .i64 0, .int .i64 0, .slice none 0 0]).cell? ⟨gB, 5, none⟩ = some (.int .i64 ov.kind) ∧ (putM w4 wC.heap.size #[.int .i64 x.m.kind, .int .i64 0, .int .i64 0, .int .i64 x.m.epoch, .int .i64 x.m.bal.round, .int .i64 x.m.bal.node, .int .i64 x.m.slot, .int .i64 x.m.low, .int .i64 0, .int .i64 x.m.val.kind, .slice m9.co x.m.val.cmds.length m9.cc, .slice m9.no x.m.val.next.length m9.nc, .slice vo9 x.m.votes.length vc9, .int .i64 0, .int .i64 0, .int .i64 0, .int .i64 0, .int .i64 0, .int .i64 0, .int .i64 0, .int .i64 0, .int .i64 0, .int .i64 0, .int .i64 0, .slice none 0 0]).cell? ⟨gB, 6, none⟩ = some (.slice lv.co ov.cmds.length lv.cc) ∧ (putM w4 wC.heap.size #[.int .i64 x.m.kind, .int .i64 0, .int .i64 0, .int .i64 x.m.epoch, .int .i64 x.m.bal.round, .int .i64 x.m.bal.node, .int .i64 x.m.slot, .int .i64 x.m.low, .int .i64 0, .int .i64 x.m.val.kind, .slice m9.co x.m.val.cmds.length m9.cc, .slice m9.no x.m.val.next.length m9.nc, .slice vo9 x.m.votes.length vc9, .int .i64 0, .int .i64 0, .int .i64 0, .int .i64 0, .int .i64 0, .int .i64 0, .int .i64 0, .int .i64 0, .int .i64 0, .int .i64 0, .int .i64 0, .slice none 0 0]).cell? ⟨gB, 7, none⟩ = some (.slice lv.no ov.next.length lv.nc)) ∧ Hid (AccCut w1 p ql q x (1 + 70 * (i + 1)) [(gC, (.cells #[.int .i64 a.prom.round, .int .i64 a.prom.node] 24)), (gB, (.cells #[.int .i64 1, .int .i64 ord, .int .i64 ond, .int .i64 on, .int .i64 om, .int .i64 ov.kind, .slice lv.co ov.cmds.length lv.cc, .slice lv.no ov.next.length lv.nc, .slice ko okeep.length kc] 36))] D so scap S wC.heap.size (.pointer (some ⟨wC.heap.size, 0, none⟩)) (.int .i64 (x.e : Int)) (putM w4 wC.heap.size #[.int .i64 x.m.kind, .int .i64 0, .int .i64 0, .int .i64 x.m.epoch, .int .i64 x.m.bal.round, .int .i64 x.m.bal.node, .int .i64 x.m.slot, .int .i64 x.m.low, .int .i64 0, .int .i64 x.m.val.kind, .slice m9.co x.m.val.cmds.length m9.cc, .slice m9.no x.m.val.next.length m9.nc, .slice vo9 x.m.votes.length vc9, .int .i64 0, .int .i64 0, .int .i64 0, .int .i64 0, .int .i64 0, .int .i64 0, .int .i64 0, .int .i64 0, .int .i64 0, .int .i64 0, .int .i64 0, .slice none 0 0])) := fun w3 m kA3 hov => by
            refine (hac _ _ _ m (HXA.out.keep kA3) (hov.in.mono (fun j _ d => cols_new HXA.out.ext.cols d.none.1))).mono ?_
            rintro e w4 ⟨⟨col4, vo9, vc9, m9, hlaw, rfl, hmsg⟩, hz4⟩
            have e9 : ((wC.alloc (.cells #[.int .i64 0, .int .i64 0, .int .i64 0, .int .i64 0, .int .i64 0, .int .i64 0, .int .i64 0, .int .i64 0, .int .i64 0, .int .i64 0, .slice none 0 0, .slice none 0 0, .slice none 0 0, .int .i64 0, .int .i64 0, .int .i64 0, .int .i64 0, .int .i64 0, .int .i64 0, .int .i64 0, .int .i64 0, .int .i64 0, .int .i64 0, .int .i64 0, .slice none 0 0] 46)).drew).heap.size = wC.heap.size + 1 := alloc_size wC _
            have e8 := kA3.size
            have e7 := HGB.out
            exact ⟨vo9, vc9, m9, rfl, opc9 (hlaw.cell9 (x := (gB, _)) (List.mem_cons_of_mem _ (List.mem_cons_of_mem _ (List.mem_cons_self ..)))), run_store_msg _ _ (by simp [Value.oneCell']) rfl (hlaw.cell9 (x := (wC.heap.size, _)) (List.mem_cons_self ..)) rfl, opc9 ((putM_kp _).heap (hlaw.cell9 (x := (gB, _)) (List.mem_cons_of_mem _ (List.mem_cons_of_mem _ (List.mem_cons_self ..)))) (by show ¬ gB = wC.heap.size; omega)), Lib.hid (AccCut.early hlaw hmsg e7.2 (fun d => by have := HD2.out.2 _ d; have d2 : wC.heap.size < wC.heap.size := this; omega) (by show wC.heap.size < _; omega) HD2.out.2 HBS.out (Nat.le_refl _) hz4 (by omega))⟩
          have LB : ∀ (w3 : World) (m : VLoc), Kp Noone wC.drew w3 → ValOwn (Ex Noone wC.drew w3) w3 ov m → Calls Tryz.prog 12 #[.pointer (some ⟨q, 0, none⟩), .agg #[.int .i64 ord, .int .i64 ond], .int .i64 on, .agg #[.int .i64 ov.kind, .slice m.co ov.cmds.length m.cc, .slice m.no ov.next.length m.nc]] (w3.alloc (.cells #[.int .i64 0, .int .i64 0, .int .i64 0, .int .i64 0, .int .i64 0, .int .i64 0, .int .i64 0, .int .i64 0, .int .i64 0, .int .i64 0, .slice none 0 0, .slice none 0 0, .slice none 0 0, .int .i64 0, .int .i64 0, .int .i64 0, .int .i64 0, .int .i64 0, .int .i64 0, .int .i64 0, .int .i64 0, .int .i64 0, .int .i64 0, .int .i64 0, .slice none 0 0] 46)) fun e w4 => ∃ (vo9 : Option Addr) (vc9 : Nat) (m9 : VLoc), e = .returned (.tuple #[.agg #[.int .i64 x.m.kind, .int .i64 0, .int .i64 0, .int .i64 x.m.epoch, .int .i64 x.m.bal.round, .int .i64 x.m.bal.node, .int .i64 x.m.slot, .int .i64 x.m.low, .int .i64 0, .int .i64 x.m.val.kind, .slice m9.co x.m.val.cmds.length m9.cc, .slice m9.no x.m.val.next.length m9.nc, .slice vo9 x.m.votes.length vc9, .int .i64 0, .int .i64 0, .int .i64 0, .int .i64 0, .int .i64 0, .int .i64 0, .int .i64 0, .int .i64 0, .int .i64 0, .int .i64 0, .int .i64 0, .slice none 0 0], .int .i64 (x.e : Int)]) ∧ ((w4.cell? ⟨gB, 1, none⟩ = some (.int .i64 ord) ∧ w4.cell? ⟨gB, 2, none⟩ = some (.int .i64 ond) ∧ w4.cell? ⟨gB, 3, none⟩ = some (.int .i64 on)) ∧ w4.cell? ⟨gB, 5, none⟩ = some (.int .i64 ov.kind) ∧ w4.cell? ⟨gB, 6, none⟩ = some (.slice lv.co ov.cmds.length lv.cc) ∧ w4.cell? ⟨gB, 7, none⟩ = some (.slice lv.no ov.next.length lv.nc)) ∧ (stM (.pointer (some ⟨w3.heap.size, 0, none⟩)) (.agg #[.int .i64 x.m.kind, .int .i64 0, .int .i64 0, .int .i64 x.m.epoch, .int .i64 x.m.bal.round, .int .i64 x.m.bal.node, .int .i64 x.m.slot, .int .i64 x.m.low, .int .i64 0, .int .i64 x.m.val.kind, .slice m9.co x.m.val.cmds.length m9.cc, .slice m9.no x.m.val.next.length m9.nc, .slice vo9 x.m.votes.length vc9, .int .i64 0, .int .i64 0, .int .i64 0, .int .i64 0, .int .i64 0, .int .i64 0, .int .i64 0, .int .i64 0, .int .i64 0, .int .i64 0, .int .i64 0, .slice none 0 0])).run Tryz.prog w4 = .ok () (putM w4 w3.heap.size #[.int .i64 x.m.kind, .int .i64 0, .int .i64 0, .int .i64 x.m.epoch, .int .i64 x.m.bal.round, .int .i64 x.m.bal.node, .int .i64 x.m.slot, .int .i64 x.m.low, .int .i64 0, .int .i64 x.m.val.kind, .slice m9.co x.m.val.cmds.length m9.cc, .slice m9.no x.m.val.next.length m9.nc, .slice vo9 x.m.votes.length vc9, .int .i64 0, .int .i64 0, .int .i64 0, .int .i64 0, .int .i64 0, .int .i64 0, .int .i64 0, .int .i64 0, .int .i64 0, .int .i64 0, .int .i64 0, .slice none 0 0]) ∧ (((putM w4 w3.heap.size #[.int .i64 x.m.kind, .int .i64 0, .int .i64 0, .int .i64 x.m.epoch, .int .i64 x.m.bal.round, .int .i64 x.m.bal.node, .int .i64 x.m.slot, .int .i64 x.m.low, .int .i64 0, .int .i64 x.m.val.kind, .slice m9.co x.m.val.cmds.length m9.cc, .slice m9.no x.m.val.next.length m9.nc, .slice vo9 x.m.votes.length vc9, .int .i64 0, .int .i64 0, .int .i64 0, .int .i64 0, .int .i64 0, .int .i64 0, .int .i64 0, .int .i64 0, .int .i64 0, .int .i64 0, .int .i64 0, .slice none 0 0]).cell? ⟨gB, 1, none⟩ = some (.int .i64 ord) ∧ (putM w4 w3.heap.size #[.int .i64 x.m.kind, .int .i64 0, .int .i64 0, .int .i64 x.m.epoch, .int .i64 x.m.bal.round, .int .i64 x.m.bal.node, .int .i64 x.m.slot, .int .i64 x.m.low, .int .i64 0, .int .i64 x.m.val.kind, .slice m9.co x.m.val.cmds.length m9.cc, .slice m9.no x.m.val.next.length m9.nc, .slice vo9 x.m.votes.length vc9, .int .i64 0, .int .i64 0, .int .i64 0, .int .i64 0, .int .i64 0, .int .i64 0, .int .i64 0, .int .i64 0, .int .i64 0, .int .i64 0, .int .i64 0, .slice none 0 0]).cell? ⟨gB, 2, none⟩ = some (.int .i64 ond) ∧ (putM w4 w3.heap.size #[.int .i64 x.m.kind, .int .i64 0, .int .i64 0, .int .i64 x.m.epoch, .int .i64 x.m.bal.round, .int .i64 x.m.bal.node, .int .i64 x.m.slot, .int .i64 x.m.low, .int .i64 0, .int .i64 x.m.val.kind, .slice m9.co x.m.val.cmds.length m9.cc, .slice m9.no x.m.val.next.length m9.nc, .slice vo9 x.m.votes.length vc9, .int .i64 0, .int .i64 0, .int .i64 0, .int .i64 0, .int .i64 0, .int .i64 0, .int .i64 0, .int .i64 0, .int .i64 0, .int .i64 0, .int .i64 0, .slice none 0 0]).cell? ⟨gB, 3, none⟩ = some (.int .i64 on)) ∧ (putM w4 w3.heap.size #[.int .i64 x.m.kind, .int .i64 0, .int .i64 0, .int .i64 x.m.epoch, .int .i64 x.m.bal.round, .int .i64 x.m.bal.node, .int .i64 x.m.slot, .int .i64 x.m.low, .int .i64 0, .int .i64 x.m.val.kind, .slice m9.co x.m.val.cmds.length m9.cc, .slice m9.no x.m.val.next.length m9.nc, .slice vo9 x.m.votes.length vc9, .int .i64 0, .int .i64 0, .int .i64 0, .int .i64 0, .int .i64 0, .int .i64 0, .int .i64 0, .int .i64 0, .int .i64 0, .int .i64 0, .int .i64 0, .slice none 0 0]).cell? ⟨gB, 5, none⟩ = some (.int .i64 ov.kind) ∧ (putM w4 w3.heap.size #[.int .i64 x.m.kind, .int .i64 0, .int .i64 0, .int .i64 x.m.epoch, .int .i64 x.m.bal.round, .int .i64 x.m.bal.node, .int .i64 x.m.slot, .int .i64 x.m.low, .int .i64 0, .int .i64 x.m.val.kind, .slice m9.co x.m.val.cmds.length m9.cc, .slice m9.no x.m.val.next.length m9.nc, .slice vo9 x.m.votes.length vc9, .int .i64 0, .int .i64 0, .int .i64 0, .int .i64 0, .int .i64 0, .int .i64 0, .int .i64 0, .int .i64 0, .int .i64 0, .int .i64 0, .int .i64 0, .slice none 0 0]).cell? ⟨gB, 6, none⟩ = some (.slice lv.co ov.cmds.length lv.cc) ∧ (putM w4 w3.heap.size #[.int .i64 x.m.kind, .int .i64 0, .int .i64 0, .int .i64 x.m.epoch, .int .i64 x.m.bal.round, .int .i64 x.m.bal.node, .int .i64 x.m.slot, .int .i64 x.m.low, .int .i64 0, .int .i64 x.m.val.kind, .slice m9.co x.m.val.cmds.length m9.cc, .slice m9.no x.m.val.next.length m9.nc, .slice vo9 x.m.votes.length vc9, .int .i64 0, .int .i64 0, .int .i64 0, .int .i64 0, .int .i64 0, .int .i64 0, .int .i64 0, .int .i64 0, .int .i64 0, .int .i64 0, .int .i64 0, .slice none 0 0]).cell? ⟨gB, 7, none⟩ = some (.slice lv.no ov.next.length lv.nc)) ∧ Hid (AccCut w1 p ql q x (1 + 70 * (i + 1)) [(gC, (.cells #[.int .i64 a.prom.round, .int .i64 a.prom.node] 24)), (gB, (.cells #[.int .i64 1, .int .i64 ord, .int .i64 ond, .int .i64 on, .int .i64 om, .int .i64 ov.kind, .slice lv.co ov.cmds.length lv.cc, .slice lv.no ov.next.length lv.nc, .slice ko okeep.length kc] 36))] D so scap S wC.heap.size (.pointer (some ⟨w3.heap.size, 0, none⟩)) (.int .i64 (x.e : Int)) (putM w4 w3.heap.size #[.int .i64 x.m.kind, .int .i64 0, .int .i64 0, .int .i64 x.m.epoch, .int .i64 x.m.bal.round, .int .i64 x.m.bal.node, .int .i64 x.m.slot, .int .i64 x.m.low, .int .i64 0, .int .i64 x.m.val.kind, .slice m9.co x.m.val.cmds.length m9.cc, .slice m9.no x.m.val.next.length m9.nc, .slice vo9 x.m.votes.length vc9, .int .i64 0, .int .i64 0, .int .i64 0, .int .i64 0, .int .i64 0, .int .i64 0, .int .i64 0, .int .i64 0, .int .i64 0, .int .i64 0, .int .i64 0, .slice none 0 0])) := fun w3 m kC3 hov => by
            refine (hac _ _ _ m ((HX3.out.keep kC3).late (.cells #[.int .i64 0, .int .i64 0, .int .i64 0, .int .i64 0, .int .i64 0, .int .i64 0, .int .i64 0, .int .i64 0, .int .i64 0, .int .i64 0, .slice none 0 0, .slice none 0 0, .slice none 0 0, .int .i64 0, .int .i64 0, .int .i64 0, .int .i64 0, .int .i64 0, .int .i64 0, .int .i64 0, .int .i64 0, .int .i64 0, .int .i64 0, .int .i64 0, .slice none 0 0] 46)) ((hov.in.mono (fun j _ d => cols_new HX3.out.ext.cols d.none.1)).keep ((Kp.refl _ _).alloc _))).mono ?_
            rintro e w4 ⟨⟨col4, vo9, vc9, m9, hlaw, rfl, hmsg⟩, hz4⟩
            have e9 : ((w3.alloc (.cells #[.int .i64 0, .int .i64 0, .int .i64 0, .int .i64 0, .int .i64 0, .int .i64 0, .int .i64 0, .int .i64 0, .int .i64 0, .int .i64 0, .slice none 0 0, .slice none 0 0, .slice none 0 0, .int .i64 0, .int .i64 0, .int .i64 0, .int .i64 0, .int .i64 0, .int .i64 0, .int .i64 0, .int .i64 0, .int .i64 0, .int .i64 0, .int .i64 0, .slice none 0 0] 46))).heap.size = w3.heap.size + 1 := alloc_size _ _
            have e8 := (kd.trans kC3).size
            have e7 := HGB.out
            exact ⟨vo9, vc9, m9, rfl, opc9 (hlaw.cell9 (x := (gB, _)) (List.mem_cons_of_mem _ (List.mem_cons_of_mem _ (List.mem_cons_self ..)))), run_store_msg _ _ (by simp [Value.oneCell']) rfl (hlaw.cell9 (x := (w3.heap.size, _)) (List.mem_cons_self ..)) rfl, opc9 ((putM_kp _).heap (hlaw.cell9 (x := (gB, _)) (List.mem_cons_of_mem _ (List.mem_cons_of_mem _ (List.mem_cons_self ..)))) (by show ¬ gB = w3.heap.size; omega)), Lib.hid (AccCut.early hlaw hmsg (by omega) (fun d => by have := HD2.out.2 _ d; omega) (by omega) HD2.out.2 HBS.out e8 hz4 (by omega))⟩
          have LC : ∀ (w3 : World) (m : VLoc), Kp Noone wC.drew w3 → ValOwn (Ex Noone wC.drew w3) w3 ov m → Calls Tryz.prog 12 #[.pointer (some ⟨q, 0, none⟩), .agg #[.int .i64 ord, .int .i64 ond], .int .i64 on, .agg #[.int .i64 ov.kind, .slice m.co ov.cmds.length m.cc, .slice m.no ov.next.length m.nc]] w3 fun e w4 => ∃ (vo9 : Option Addr) (vc9 : Nat) (m9 : VLoc), e = .returned (.tuple #[.agg #[.int .i64 x.m.kind, .int .i64 0, .int .i64 0, .int .i64 x.m.epoch, .int .i64 x.m.bal.round, .int .i64 x.m.bal.node, .int .i64 x.m.slot, .int .i64 x.m.low, .int .i64 0, .int .i64 x.m.val.kind, .slice m9.co x.m.val.cmds.length m9.cc, .slice m9.no x.m.val.next.length m9.nc, .slice vo9 x.m.votes.length vc9, .int .i64 0, .int .i64 0, .int .i64 0, .int .i64 0, .int .i64 0, .int .i64 0, .int .i64 0, .int .i64 0, .int .i64 0, .int .i64 0, .int .i64 0, .slice none 0 0], .int .i64 (x.e : Int)]) ∧ ((w4.cell? ⟨gB, 1, none⟩ = some (.int .i64 ord) ∧ w4.cell? ⟨gB, 2, none⟩ = some (.int .i64 ond) ∧ w4.cell? ⟨gB, 3, none⟩ = some (.int .i64 on)) ∧ w4.cell? ⟨gB, 5, none⟩ = some (.int .i64 ov.kind) ∧ w4.cell? ⟨gB, 6, none⟩ = some (.slice lv.co ov.cmds.length lv.cc) ∧ w4.cell? ⟨gB, 7, none⟩ = some (.slice lv.no ov.next.length lv.nc)) ∧ (((w4.alloc (.cells #[.int .i64 0, .int .i64 0, .int .i64 0, .int .i64 0, .int .i64 0, .int .i64 0, .int .i64 0, .int .i64 0, .int .i64 0, .int .i64 0, .slice none 0 0, .slice none 0 0, .slice none 0 0, .int .i64 0, .int .i64 0, .int .i64 0, .int .i64 0, .int .i64 0, .int .i64 0, .int .i64 0, .int .i64 0, .int .i64 0, .int .i64 0, .int .i64 0, .slice none 0 0] 46)).cell? ⟨gB, 1, none⟩ = some (.int .i64 ord) ∧ (w4.alloc (.cells #[.int .i64 0, .int .i64 0, .int .i64 0, .int .i64 0, .int .i64 0, .int .i64 0, .int .i64 0, .int .i64 0, .int .i64 0, .int .i64 0, .slice none 0 0, .slice none 0 0, .slice none 0 0, .int .i64 0, .int .i64 0, .int .i64 0, .int .i64 0, .int .i64 0, .int .i64 0, .int .i64 0, .int .i64 0, .int .i64 0, .int .i64 0, .int .i64 0, .slice none 0 0] 46)).cell? ⟨gB, 2, none⟩ = some (.int .i64 ond) ∧ (w4.alloc (.cells #[.int .i64 0, .int .i64 0, .int .i64 0, .int .i64 0, .int .i64 0, .int .i64 0, .int .i64 0, .int .i64 0, .int .i64 0, .int .i64 0, .slice none 0 0, .slice none 0 0, .slice none 0 0, .int .i64 0, .int .i64 0, .int .i64 0, .int .i64 0, .int .i64 0, .int .i64 0, .int .i64 0, .int .i64 0, .int .i64 0, .int .i64 0, .int .i64 0, .slice none 0 0] 46)).cell? ⟨gB, 3, none⟩ = some (.int .i64 on)) ∧ (w4.alloc (.cells #[.int .i64 0, .int .i64 0, .int .i64 0, .int .i64 0, .int .i64 0, .int .i64 0, .int .i64 0, .int .i64 0, .int .i64 0, .int .i64 0, .slice none 0 0, .slice none 0 0, .slice none 0 0, .int .i64 0, .int .i64 0, .int .i64 0, .int .i64 0, .int .i64 0, .int .i64 0, .int .i64 0, .int .i64 0, .int .i64 0, .int .i64 0, .int .i64 0, .slice none 0 0] 46)).cell? ⟨gB, 5, none⟩ = some (.int .i64 ov.kind) ∧ (w4.alloc (.cells #[.int .i64 0, .int .i64 0, .int .i64 0, .int .i64 0, .int .i64 0, .int .i64 0, .int .i64 0, .int .i64 0, .int .i64 0, .int .i64 0, .slice none 0 0, .slice none 0 0, .slice none 0 0, .int .i64 0, .int .i64 0, .int .i64 0, .int .i64 0, .int .i64 0, .int .i64 0, .int .i64 0, .int .i64 0, .int .i64 0, .int .i64 0, .int .i64 0, .slice none 0 0] 46)).cell? ⟨gB, 6, none⟩ = some (.slice lv.co ov.cmds.length lv.cc) ∧ (w4.alloc (.cells #[.int .i64 0, .int .i64 0, .int .i64 0, .int .i64 0, .int .i64 0, .int .i64 0, .int .i64 0, .int .i64 0, .int .i64 0, .int .i64 0, .slice none 0 0, .slice none 0 0, .slice none 0 0, .int .i64 0, .int .i64 0, .int .i64 0, .int .i64 0, .int .i64 0, .int .i64 0, .int .i64 0, .int .i64 0, .int .i64 0, .int .i64 0, .int .i64 0, .slice none 0 0] 46)).cell? ⟨gB, 7, none⟩ = some (.slice lv.no ov.next.length lv.nc)) ∧ (stM (.pointer (some ⟨w4.heap.size, 0, none⟩)) (.agg #[.int .i64 x.m.kind, .int .i64 0, .int .i64 0, .int .i64 x.m.epoch, .int .i64 x.m.bal.round, .int .i64 x.m.bal.node, .int .i64 x.m.slot, .int .i64 x.m.low, .int .i64 0, .int .i64 x.m.val.kind, .slice m9.co x.m.val.cmds.length m9.cc, .slice m9.no x.m.val.next.length m9.nc, .slice vo9 x.m.votes.length vc9, .int .i64 0, .int .i64 0, .int .i64 0, .int .i64 0, .int .i64 0, .int .i64 0, .int .i64 0, .int .i64 0, .int .i64 0, .int .i64 0, .int .i64 0, .slice none 0 0])).run Tryz.prog (w4.alloc (.cells #[.int .i64 0, .int .i64 0, .int .i64 0, .int .i64 0, .int .i64 0, .int .i64 0, .int .i64 0, .int .i64 0, .int .i64 0, .int .i64 0, .slice none 0 0, .slice none 0 0, .slice none 0 0, .int .i64 0, .int .i64 0, .int .i64 0, .int .i64 0, .int .i64 0, .int .i64 0, .int .i64 0, .int .i64 0, .int .i64 0, .int .i64 0, .int .i64 0, .slice none 0 0] 46)) = .ok () (putM (w4.alloc (.cells #[.int .i64 0, .int .i64 0, .int .i64 0, .int .i64 0, .int .i64 0, .int .i64 0, .int .i64 0, .int .i64 0, .int .i64 0, .int .i64 0, .slice none 0 0, .slice none 0 0, .slice none 0 0, .int .i64 0, .int .i64 0, .int .i64 0, .int .i64 0, .int .i64 0, .int .i64 0, .int .i64 0, .int .i64 0, .int .i64 0, .int .i64 0, .int .i64 0, .slice none 0 0] 46)) w4.heap.size #[.int .i64 x.m.kind, .int .i64 0, .int .i64 0, .int .i64 x.m.epoch, .int .i64 x.m.bal.round, .int .i64 x.m.bal.node, .int .i64 x.m.slot, .int .i64 x.m.low, .int .i64 0, .int .i64 x.m.val.kind, .slice m9.co x.m.val.cmds.length m9.cc, .slice m9.no x.m.val.next.length m9.nc, .slice vo9 x.m.votes.length vc9, .int .i64 0, .int .i64 0, .int .i64 0, .int .i64 0, .int .i64 0, .int .i64 0, .int .i64 0, .int .i64 0, .int .i64 0, .int .i64 0, .int .i64 0, .slice none 0 0]) ∧ (((putM (w4.alloc (.cells #[.int .i64 0, .int .i64 0, .int .i64 0, .int .i64 0, .int .i64 0, .int .i64 0, .int .i64 0, .int .i64 0, .int .i64 0, .int .i64 0, .slice none 0 0, .slice none 0 0, .slice none 0 0, .int .i64 0, .int .i64 0, .int .i64 0, .int .i64 0, .int .i64 0, .int .i64 0, .int .i64 0, .int .i64 0, .int .i64 0, .int .i64 0, .int .i64 0, .slice none 0 0] 46)) w4.heap.size #[.int .i64 x.m.kind, .int .i64 0, .int .i64 0, .int .i64 x.m.epoch, .int .i64 x.m.bal.round, .int .i64 x.m.bal.node, .int .i64 x.m.slot, .int .i64 x.m.low, .int .i64 0, .int .i64 x.m.val.kind, .slice m9.co x.m.val.cmds.length m9.cc, .slice m9.no x.m.val.next.length m9.nc, .slice vo9 x.m.votes.length vc9, .int .i64 0, .int .i64 0, .int .i64 0, .int .i64 0, .int .i64 0, .int .i64 0, .int .i64 0, .int .i64 0, .int .i64 0, .int .i64 0, .int .i64 0, .slice none 0 0]).cell? ⟨gB, 1, none⟩ = some (.int .i64 ord) ∧ (putM (w4.alloc (.cells #[.int .i64 0, .int .i64 0, .int .i64 0, .int .i64 0, .int .i64 0, .int .i64 0, .int .i64 0, .int .i64 0, .int .i64 0, .int .i64 0, .slice none 0 0, .slice none 0 0, .slice none 0 0, .int .i64 0, .int .i64 0, .int .i64 0, .int .i64 0, .int .i64 0, .int .i64 0, .int .i64 0, .int .i64 0, .int .i64 0, .int .i64 0, .int .i64 0, .slice none 0 0] 46)) w4.heap.size #[.int .i64 x.m.kind, .int .i64 0, .int .i64 0, .int .i64 x.m.epoch, .int .i64 x.m.bal.round, .int .i64 x.m.bal.node, .int .i64 x.m.slot, .int .i64 x.m.low, .int .i64 0, .int .i64 x.m.val.kind, .slice m9.co x.m.val.cmds.length m9.cc, .slice m9.no x.m.val.next.length m9.nc, .slice vo9 x.m.votes.length vc9, .int .i64 0, .int .i64 0, .int .i64 0, .int .i64 0, .int .i64 0, .int .i64 0, .int .i64 0, .int .i64 0, .int .i64 0, .int .i64 0, .int .i64 0, .slice none 0 0]).cell? ⟨gB, 2, none⟩ = some (.int .i64 ond) ∧ (putM (w4.alloc (.cells #[.int .i64 0, .int .i64 0, .int .i64 0, .int .i64 0, .int .i64 0, .int .i64 0, .int .i64 0, .int .i64 0, .int .i64 0, .int .i64 0, .slice none 0 0, .slice none 0 0, .slice none 0 0, .int .i64 0, .int .i64 0, .int .i64 0, .int .i64 0, .int .i64 0, .int .i64 0, .int .i64 0, .int .i64 0, .int .i64 0, .int .i64 0, .int .i64 0, .slice none 0 0] 46)) w4.heap.size #[.int .i64 x.m.kind, .int .i64 0, .int .i64 0, .int .i64 x.m.epoch, .int .i64 x.m.bal.round, .int .i64 x.m.bal.node, .int .i64 x.m.slot, .int .i64 x.m.low, .int .i64 0, .int .i64 x.m.val.kind, .slice m9.co x.m.val.cmds.length m9.cc, .slice m9.no x.m.val.next.length m9.nc, .slice vo9 x.m.votes.length vc9, .int .i64 0, .int .i64 0, .int .i64 0, .int .i64 0, .int .i64 0, .int .i64 0, .int .i64 0, .int .i64 0, .int .i64 0, .int .i64 0, .int .i64 0, .slice none 0 0]).cell? ⟨gB, 3, none⟩ = some (.int .i64 on)) ∧ (putM (w4.alloc (.cells #[.int .i64 0, .int .i64 0, .int .i64 0, .int .i64 0, .int .i64 0, .int .i64 0, .int .i64 0, .int .i64 0, .int .i64 0, .int .i64 0, .slice none 0 0, .slice none 0 0, .slice none 0 0, .int .i64 0, .int .i64 0, .int .i64 0, .int .i64 0, .int .i64 0, .int .i64 0, .int .i64 0, .int .i64 0, .int .i64 0, .int .i64 0, .int .i64 0, .slice none 0 0] 46)) w4.heap.size #[.int .i64 x.m.kind, .int .i64 0, .int .i64 0, .int .i64 x.m.epoch, .int .i64 x.m.bal.round, .int .i64 x.m.bal.node, .int .i64 x.m.slot, .int .i64 x.m.low, .int .i64 0, .int .i64 x.m.val.kind, .slice m9.co x.m.val.cmds.length m9.cc, .slice m9.no x.m.val.next.length m9.nc, .slice vo9 x.m.votes.length vc9, .int .i64 0, .int .i64 0, .int .i64 0, .int .i64 0, .int .i64 0, .int .i64 0, .int .i64 0, .int .i64 0, .int .i64 0, .int .i64 0, .int .i64 0, .slice none 0 0]).cell? ⟨gB, 5, none⟩ = some (.int .i64 ov.kind) ∧ (putM (w4.alloc (.cells #[.int .i64 0, .int .i64 0, .int .i64 0, .int .i64 0, .int .i64 0, .int .i64 0, .int .i64 0, .int .i64 0, .int .i64 0, .int .i64 0, .slice none 0 0, .slice none 0 0, .slice none 0 0, .int .i64 0, .int .i64 0, .int .i64 0, .int .i64 0, .int .i64 0, .int .i64 0, .int .i64 0, .int .i64 0, .int .i64 0, .int .i64 0, .int .i64 0, .slice none 0 0] 46)) w4.heap.size #[.int .i64 x.m.kind, .int .i64 0, .int .i64 0, .int .i64 x.m.epoch, .int .i64 x.m.bal.round, .int .i64 x.m.bal.node, .int .i64 x.m.slot, .int .i64 x.m.low, .int .i64 0, .int .i64 x.m.val.kind, .slice m9.co x.m.val.cmds.length m9.cc, .slice m9.no x.m.val.next.length m9.nc, .slice vo9 x.m.votes.length vc9, .int .i64 0, .int .i64 0, .int .i64 0, .int .i64 0, .int .i64 0, .int .i64 0, .int .i64 0, .int .i64 0, .int .i64 0, .int .i64 0, .int .i64 0, .slice none 0 0]).cell? ⟨gB, 6, none⟩ = some (.slice lv.co ov.cmds.length lv.cc) ∧ (putM (w4.alloc (.cells #[.int .i64 0, .int .i64 0, .int .i64 0, .int .i64 0, .int .i64 0, .int .i64 0, .int .i64 0, .int .i64 0, .int .i64 0, .int .i64 0, .slice none 0 0, .slice none 0 0, .slice none 0 0, .int .i64 0, .int .i64 0, .int .i64 0, .int .i64 0, .int .i64 0, .int .i64 0, .int .i64 0, .int .i64 0, .int .i64 0, .int .i64 0, .int .i64 0, .slice none 0 0] 46)) w4.heap.size #[.int .i64 x.m.kind, .int .i64 0, .int .i64 0, .int .i64 x.m.epoch, .int .i64 x.m.bal.round, .int .i64 x.m.bal.node, .int .i64 x.m.slot, .int .i64 x.m.low, .int .i64 0, .int .i64 x.m.val.kind, .slice m9.co x.m.val.cmds.length m9.cc, .slice m9.no x.m.val.next.length m9.nc, .slice vo9 x.m.votes.length vc9, .int .i64 0, .int .i64 0, .int .i64 0, .int .i64 0, .int .i64 0, .int .i64 0, .int .i64 0, .int .i64 0, .int .i64 0, .int .i64 0, .int .i64 0, .slice none 0 0]).cell? ⟨gB, 7, none⟩ = some (.slice lv.no ov.next.length lv.nc)) ∧ Hid (AccCut w1 p ql q x (1 + 70 * (i + 1)) [(gC, (.cells #[.int .i64 a.prom.round, .int .i64 a.prom.node] 24)), (gB, (.cells #[.int .i64 1, .int .i64 ord, .int .i64 ond, .int .i64 on, .int .i64 om, .int .i64 ov.kind, .slice lv.co ov.cmds.length lv.cc, .slice lv.no ov.next.length lv.nc, .slice ko okeep.length kc] 36))] D so scap S wC.heap.size (.pointer (some ⟨w4.heap.size, 0, none⟩)) (.int .i64 (x.e : Int)) (putM (w4.alloc (.cells #[.int .i64 0, .int .i64 0, .int .i64 0, .int .i64 0, .int .i64 0, .int .i64 0, .int .i64 0, .int .i64 0, .int .i64 0, .int .i64 0, .slice none 0 0, .slice none 0 0, .slice none 0 0, .int .i64 0, .int .i64 0, .int .i64 0, .int .i64 0, .int .i64 0, .int .i64 0, .int .i64 0, .int .i64 0, .int .i64 0, .int .i64 0, .int .i64 0, .slice none 0 0] 46)) w4.heap.size #[.int .i64 x.m.kind, .int .i64 0, .int .i64 0, .int .i64 x.m.epoch, .int .i64 x.m.bal.round, .int .i64 x.m.bal.node, .int .i64 x.m.slot, .int .i64 x.m.low, .int .i64 0, .int .i64 x.m.val.kind, .slice m9.co x.m.val.cmds.length m9.cc, .slice m9.no x.m.val.next.length m9.nc, .slice vo9 x.m.votes.length vc9, .int .i64 0, .int .i64 0, .int .i64 0, .int .i64 0, .int .i64 0, .int .i64 0, .int .i64 0, .int .i64 0, .int .i64 0, .int .i64 0, .int .i64 0, .slice none 0 0])) := fun w3 m kC3 hov => by
            refine (hac _ _ _ m (HX3.out.keep kC3) (hov.in.mono (fun j _ d => cols_new HX3.out.ext.cols d.none.1))).mono ?_
            rintro e w4 ⟨⟨col4, vo9, vc9, m9, hlaw, rfl, hmsg⟩, hz4⟩
            have e8 := (kd.trans kC3).size
            exact ⟨vo9, vc9, m9, rfl, opc9 (hlaw.cell9 (x := (gB, _)) (List.mem_cons_of_mem _ (List.mem_cons_self ..))), opc9 ((hlaw.keep ((Kp.refl Noone w4).alloc (.cells #[.int .i64 0, .int .i64 0, .int .i64 0, .int .i64 0, .int .i64 0, .int .i64 0, .int .i64 0, .int .i64 0, .int .i64 0, .int .i64 0, .slice none 0 0, .slice none 0 0, .slice none 0 0, .int .i64 0, .int .i64 0, .int .i64 0, .int .i64 0, .int .i64 0, .int .i64 0, .int .i64 0, .int .i64 0, .int .i64 0, .int .i64 0, .int .i64 0, .slice none 0 0] 46))).cell9 (x := (gB, _)) (List.mem_cons_of_mem _ (List.mem_cons_self ..))), run_store_msg _ _ (by simp [Value.oneCell']) rfl (heap_alloc_new w4 (.cells #[.int .i64 0, .int .i64 0, .int .i64 0, .int .i64 0, .int .i64 0, .int .i64 0, .int .i64 0, .int .i64 0, .int .i64 0, .int .i64 0, .slice none 0 0, .slice none 0 0, .slice none 0 0, .int .i64 0, .int .i64 0, .int .i64 0, .int .i64 0, .int .i64 0, .int .i64 0, .int .i64 0, .int .i64 0, .int .i64 0, .int .i64 0, .int .i64 0, .slice none 0 0] 46)) rfl, opc9 ((hlaw.keep (putM_new w4 (.cells #[.int .i64 0, .int .i64 0, .int .i64 0, .int .i64 0, .int .i64 0, .int .i64 0, .int .i64 0, .int .i64 0, .int .i64 0, .int .i64 0, .slice none 0 0, .slice none 0 0, .slice none 0 0, .int .i64 0, .int .i64 0, .int .i64 0, .int .i64 0, .int .i64 0, .int .i64 0, .int .i64 0, .int .i64 0, .int .i64 0, .int .i64 0, .int .i64 0, .slice none 0 0] 46) #[.int .i64 x.m.kind, .int .i64 0, .int .i64 0, .int .i64 x.m.epoch, .int .i64 x.m.bal.round, .int .i64 x.m.bal.node, .int .i64 x.m.slot, .int .i64 x.m.low, .int .i64 0, .int .i64 x.m.val.kind, .slice m9.co x.m.val.cmds.length m9.cc, .slice m9.no x.m.val.next.length m9.nc, .slice vo9 x.m.votes.length vc9, .int .i64 0, .int .i64 0, .int .i64 0, .int .i64 0, .int .i64 0, .int .i64 0, .int .i64 0, .int .i64 0, .int .i64 0, .int .i64 0, .int .i64 0, .slice none 0 0])).cell9 (x := (gB, _)) (List.mem_cons_of_mem _ (List.mem_cons_self ..))), Lib.hid (AccCut.late hlaw hmsg HD2.out.2 e8 hz4 (by omega))⟩
          have kdA : Kp Noone wC ((wC.alloc (.cells #[.int .i64 0, .int .i64 0, .int .i64 0, .int .i64 0, .int .i64 0, .int .i64 0, .int .i64 0, .int .i64 0, .int .i64 0, .int .i64 0, .slice none 0 0, .slice none 0 0, .slice none 0 0, .int .i64 0, .int .i64 0, .int .i64 0, .int .i64 0, .int .i64 0, .int .i64 0, .int .i64 0, .int .i64 0, .int .i64 0, .int .i64 0, .int .i64 0, .slice none 0 0] 46)).drew) := ((Kp.refl Noone wC).alloc (.cells #[.int .i64 0, .int .i64 0, .int .i64 0, .int .i64 0, .int .i64 0, .int .i64 0, .int .i64 0, .int .i64 0, .int .i64 0, .int .i64 0, .slice none 0 0, .slice none 0 0, .slice none 0 0, .int .i64 0, .int .i64 0, .int .i64 0, .int .i64 0, .int .i64 0, .int .i64 0, .int .i64 0, .int .i64 0, .int .i64 0, .int .i64 0, .int .i64 0, .slice none 0 0] 46)).drew
          obtain ⟨⟨z1, z2, z3⟩, z5, z6, z7⟩ := HSX.out _ kd
          clear hac HACC HX2 HXA HX3 HKN HX HX1 HVB HVA HPS hcp
          go_region_held3 (fun W' => (W'.cell? ⟨gB, 1, none⟩ = some (.int .i64 ord) ∧ W'.cell? ⟨gB, 2, none⟩ = some (.int .i64 ond) ∧ W'.cell? ⟨gB, 3, none⟩ = some (.int .i64 on)) ∧ W'.cell? ⟨gB, 5, none⟩ = some (.int .i64 ov.kind) ∧ W'.cell? ⟨gB, 6, none⟩ = some (.slice lv.co ov.cmds.length lv.cc) ∧ W'.cell? ⟨gB, 7, none⟩ = some (.slice lv.no ov.next.length lv.nc))
            (first | with_reducible exact HSX.out _ kd | with_reducible exact HSX.out _ kdA | with_reducible exact hS2 | with_reducible exact hS6 | with_reducible exact hS3 | with_reducible exact hS4 | with_reducible exact hS5)
            (first
              | (go_at_call 13; refine (hcpG _ (by assumption)).mono ?_; rintro e w3 ⟨m3, rfl, hov, k3⟩; have k9 : Kp Noone wC w3 := Kp.trans (by assumption) k3; have hS2 := HSX.out _ k9; have hS6 := HSX.out _ (k9.alloc (.cells #[.int .i64 0, .int .i64 0, .int .i64 0, .int .i64 0, .int .i64 0, .int .i64 0, .int .i64 0, .int .i64 0, .int .i64 0, .int .i64 0, .slice none 0 0, .slice none 0 0, .slice none 0 0, .int .i64 0, .int .i64 0, .int .i64 0, .int .i64 0, .int .i64 0, .int .i64 0, .int .i64 0, .int .i64 0, .int .i64 0, .int .i64 0, .int .i64 0, .slice none 0 0] 46)))
              | (go_at_call 12; refine (LA _ _ k3 hov).mono ?_; rintro e w4 ⟨vo9, vc9, m9, rfl, hS3, hst, hS5, hcut9⟩)
              | (go_at_call 12; refine (LC _ _ k3 hov).mono ?_; rintro e w4 ⟨vo9, vc9, m9, rfl, hS3, hS4, hst, hS5, hcut9⟩)
              | (go_at_call 12; refine (LB _ _ k3 hov).mono ?_; rintro e w4 ⟨vo9, vc9, m9, rfl, hS3, hst, hS5, hcut9⟩))
          all_goals (
            go_wp2_with fail
            go_meet
            case rel => exact hcut9)
        obtain ⟨⟨g11, col4, vo9, vc9, m9, h11, h12, hb11, hx5, hnv⟩, hz5⟩ := hcut.out
        subst h11 h12
        have HX5 := Lib.hid hx5
        have HNV := Lib.hid hnv
        have HD5 : Hid (∀ j, D j → j < wc.heap.size) := Lib.hid (fun j d => Nat.lt_of_lt_of_le (HD2.out.2 j d) hz5)
        clear hcut hx5 hnv hz5 hac hcp HXA kd
        unfold msgCs at hb11
        obtain ⟨w5, hw5⟩ : ∃ w5, w5 = wc := ⟨_, rfl⟩
        subst hw5
        by_cases he : x.e = 0
        case neg =>
          have q1 : ((x.e : Int) == 0) = false := by rw [beq_eq_false_iff_ne]; omega
          have HR : Hid (OnlyR w1 p ql q a (1 + 70 * (i + 1)) [(gC, (.cells #[.int .i64 a.prom.round, .int .i64 a.prom.node] 24))] (i + 1) (.slice so S.length scap) w5) := Lib.hid ⟨⟨_, _, _, S, so, scap, D, col4, rfl, by have := HSN.out; omega, HD5.out, HACC.out.1, HX5.out.less (fun x hx => List.mem_cons.2 (Or.inl (List.mem_singleton.1 hx)))⟩⟩
          generalize x.e = xe at *
          clear he hb11
          go_wp2_with fail
          go_meet
          case rel => exact HR
        have hvt := HACC.out.2 he
        have q1 : ((x.e : Int) == 0) = true := by rw [he]; rfl
        rw [hvt.m] at hb11 HNV
        simp only [votedM] at hb11 HNV
        rw [hvt.ep] at hb11
        have HB11 := Lib.hid hb11
        have HVT := Lib.hid hvt
        have HKT := Lib.hid HACC.out.1
        have HKW := Lib.hid hvt.know
        have hbw := fun W' => below_any ⟨ord, ond⟩ a.prom W'
        rw [hvt.below] at hbw
        simp only [] at hbw
        have HSB : Hid (∀ W', Kp Noone w5 W' → (W'.cell? ⟨g11, 4, none⟩ = some (.int .i64 ord) ∧ W'.cell? ⟨g11, 5, none⟩ = some (.int .i64 ond)) ∧ W'.cell? ⟨gC, 0, none⟩ = some (.int .i64 a.prom.round) ∧ W'.cell? ⟨gC, 1, none⟩ = some (.int .i64 a.prom.node)) := Lib.hid (fun W' kk => by
          have h := kk.heap HB11.out id
          exact ⟨⟨cell_of_row _ g11 4 _ _ (0, 0) h, cell_of_row _ g11 5 _ _ (0, 0) h⟩, cells_2v (kk.heap (HX5.out.cell9 (x := (gC, _)) (List.mem_cons_self ..)) id)⟩)
        generalize x.e = xe at *
        generalize x.s = xs at *
        generalize x.l = xl at *
        generalize x.a = xa at *
        clear hvt hb11 HACC he
        obtain ⟨⟨u0, u1⟩, u2, u3⟩ := HSB.out _ (Kp.refl _ _)
        go_wp2_with fail
        refine (hbw _).mono ?_
        rintro e w6 ⟨rfl, k6⟩
        have HK6 := Lib.hid k6
        clear k6 hbw u0 u1 u2 u3
        go_wp2_with fail
        go_loopw [83] (fun v83 wx => ∃ j : Nat, v83 = .int .i64 (j : Int) ∧ j ≤ S.length ∧ Hid (Kp Noone w6 wx)) (fun u _ => (81 - intOf u).toNat)
        case atStart => exact ⟨0, rfl, Nat.zero_le _, Lib.hid (Kp.refl _ _)⟩
        case round =>
          obtain ⟨j, rfl, hj, hkj⟩ := hrel
          by_cases hlt : j < S.length
          · have hltz : (j : Int) < (S.length : Int) := by omega
            have hwj : IntKind.i64.wrap ((j : Int) + 1) = (j : Int) + 1 := IntWalk.i64_in _ (by have := HSN.out; omega)
            obtain ⟨sb, so9, e9, hc7, hv7⟩ := (HX5.out.keep (HK6.out.trans hkj.out)).own.at hlt
            have HCL := Lib.hid (HVT.out.clash _ (List.mem_map_of_mem (f := (·.1)) (List.getElem_mem hlt)))
            generalize S[j] = y at *
            obtain ⟨⟨ye, ⟨yr, yn⟩, ys, yv⟩, ym⟩ := y
            obtain ⟨x0, x1, x2, x3, x4, x5, x6⟩ := hc7
            simp only [] at x0 x1 x2 x3 x4 x5 x6 hv7 HCL
            subst e9
            have kB9 : Kp Noone wr (wr.alloc (.cells #[.int .i64 ye, .int .i64 yr, .int .i64 yn, .int .i64 ys, .int .i64 yv.kind, .slice ym.co yv.cmds.length ym.cc, .slice ym.no yv.next.length ym.nc] 83)) := (Kp.refl _ _).alloc _
            have hb14 := heap_alloc_new wr (.cells #[.int .i64 ye, .int .i64 yr, .int .i64 yn, .int .i64 ys, .int .i64 yv.kind, .slice ym.co yv.cmds.length ym.cc, .slice ym.no yv.next.length ym.nc] 83)
            have HV14 := Lib.hid (hv7.keep kB9)
            have HK9 := Lib.hid (HK6.out.trans (hkj.out.trans kB9))
            have HKJ := Lib.hid (hkj.out.trans kB9)
            clear hv7 kB9
            go_upto_region 24 with fail
            clear x0 x1 x2 x3 x4 x5 x6
            generalize wr.alloc (.cells #[.int .i64 ye, .int .i64 yr, .int .i64 yn, .int .i64 ys, .int .i64 yv.kind, .slice ym.co yv.cmds.length ym.cc, .slice ym.no yv.next.length ym.nc] 83) = w9 at *
            generalize wr.heap.size = g14 at *
            obtain ⟨t0, t1, t2, t3, t4, t5, t6⟩ := cells_7v hb14
            have h9 := HK9.out.heap HB11.out id
            have u3 := cell_of_row _ g11 3 _ _ (0, 0) h9
            have u4 := cell_of_row _ g11 4 _ _ (0, 0) h9
            have u5 := cell_of_row _ g11 5 _ _ (0, 0) h9
            have u6 := cell_of_row _ g11 6 _ _ (0, 0) h9
            have u9 := cell_of_row _ g11 9 _ _ (0, 0) h9
            have u10 := cell_of_row _ g11 10 _ _ (0, 0) h9
            have u11 := cell_of_row _ g11 11 _ _ (0, 0) h9
            simp at u3 u4 u5 u6 u9 u10 u11
            clear hb14 h9
            by_cases h1 : ye = a.epoch
            case neg =>
              have q2 : (ye == a.epoch) = false := beq_eq_false_iff_ne.2 h1
              clear h1
              go_wp2_with fail
              go_roundw
              case rel => first | exact ⟨j + 1, rfl, hlt, HKJ⟩ | ((repeat apply Exists.intro); exact ⟨⟨j + 1, rfl, hlt, HKJ⟩, rfl⟩)
              case measure => simp [intOf]; have := HSN.out; omega
            subst h1
            by_cases h2 : (⟨yr, yn⟩ : BalR) = ⟨ord, ond⟩
            case neg =>
              rcases bal_diff h2 with c | ⟨rfl, c⟩
              all_goals (
                have q2 := beq_eq_false_iff_ne.2 c
                clear c h2
                go_wp2_with fail
                go_roundw
                case rel => first | exact ⟨j + 1, rfl, hlt, HKJ⟩ | ((repeat apply Exists.intro); exact ⟨⟨j + 1, rfl, hlt, HKJ⟩, rfl⟩)
                case measure => simp [intOf]; have := HSN.out; omega)
            cases h2
            by_cases h3 : ys = on
            case neg =>
              have q2 : (ys == on) = false := beq_eq_false_iff_ne.2 h3
              clear h3
              go_wp2_with fail
              go_roundw
              case rel => first | exact ⟨j + 1, rfl, hlt, HKJ⟩ | ((repeat apply Exists.intro); exact ⟨⟨j + 1, rfl, hlt, HKJ⟩, rfl⟩)
              case measure => simp [intOf]; have := HSN.out; omega
            subst h3
            have hyv := HCL.out rfl rfl rfl
            subst hyv
            have hsv := refSameV_any yv yv ym m9 w9 HV14.out (HNV.out.keep HK9.out).va (by have := valF_cmds HVT.out.val; omega) (by have := valF_next HVT.out.val; omega)
            rw [decide_eq_true (rfl : yv = yv)] at hsv
            unfold valV at hsv
            go_wp2_with fail
            refine hsv.mono ?_
            clear hsv
            rintro e w10 ⟨rfl, k10⟩
            have HKJ := Lib.hid (HKJ.out.trans k10)
            clear k10
            go_wp2_with fail
            go_roundw
            case rel => first | exact ⟨j + 1, rfl, hlt, HKJ⟩ | ((repeat apply Exists.intro); exact ⟨⟨j + 1, rfl, hlt, HKJ⟩, rfl⟩)
            case measure => simp [intOf]; have := HSN.out; omega
          · obtain rfl : j = S.length := by omega
            have hendz : ¬ ((S.length : Int) < (S.length : Int)) := by omega
            have kA9 : Kp Noone wr (wr.alloc (.cells #[.int .i64 a.epoch, .int .i64 ord, .int .i64 ond, .int .i64 on, .int .i64 ov.kind, .slice m9.co ov.cmds.length m9.cc, .slice m9.no ov.next.length m9.nc] 83)) := (Kp.refl _ _).alloc _
            have HROW : Hid (Row (wr.alloc (.cells #[.int .i64 a.epoch, .int .i64 ord, .int .i64 ond, .int .i64 on, .int .i64 ov.kind, .slice m9.co ov.cmds.length m9.cc, .slice m9.no ov.next.length m9.nc] 83)) (some ⟨wr.heap.size, 0, none⟩) (sentCs (⟨a.epoch, ⟨ord, ond⟩, on, ov⟩, m9))) := Lib.hid (Row.ofHeap (heap_alloc_new wr (.cells #[.int .i64 a.epoch, .int .i64 ord, .int .i64 ond, .int .i64 on, .int .i64 ov.kind, .slice m9.co ov.cmds.length m9.cc, .slice m9.no ov.next.length m9.nc] 83)))
            have HX9 := Lib.hid (HX5.out.keep ((HK6.out.trans hkj.out).trans kA9))
            have HNV9 := Lib.hid (HNV.out.keep ((HK6.out.trans hkj.out).trans kA9))
            have hsl := HSN.out
            have h9 := (HK6.out.trans hkj.out).heap HB11.out id
            have u3 := cell_of_row _ g11 3 _ _ (0, 0) h9
            have u4 := cell_of_row _ g11 4 _ _ (0, 0) h9
            have u5 := cell_of_row _ g11 5 _ _ (0, 0) h9
            have u6 := cell_of_row _ g11 6 _ _ (0, 0) h9
            have u9 := cell_of_row _ g11 9 _ _ (0, 0) h9
            have u10 := cell_of_row _ g11 10 _ _ (0, 0) h9
            have u11 := cell_of_row _ g11 11 _ _ (0, 0) h9
            simp at u3 u4 u5 u6 u9 u10 u11
            clear hlt h9 kA9
            go_wp2_with (at_builtin; refine wpList_append_gen _ rfl (.tmp 115) (.tmp 125) 81 rfl 83 i0 (.agg #[.int .i64 0, .int .i64 0, .int .i64 0, .int .i64 0, .int .i64 0, .slice none 0 0, .slice none 0 0]) 7 88 Tryz.underlying81 hi hz0 hz1 hz2 rfl so S.length scap rfl (some ⟨wr.heap.size, 0, none⟩) 1 1 rfl _ _ HX9.out.own.own (sentCs (⟨a.epoch, ⟨ord, ond⟩, on, ov⟩, m9)) rfl HROW.out (sentCs_one _) (by omega) (by unfold maxLen; omega) ?_)
            intro so' cap' wA ho10 k10
            have HR : Hid (OnlyR w1 p ql q a (1 + 70 * (i + 1)) [(gC, (.cells #[.int .i64 a.prom.round, .int .i64 a.prom.node] 24))] (i + 1) (.slice so' (S.length + 1) cap') wA) := Lib.hid (by
              have hs := HX9.out.sent (fun x hx => by
                rcases List.mem_cons.1 hx with rfl | hx
                · exact HD2.out.1.2
                · rw [List.mem_singleton.1 hx]; exact HD2.out.1.1) (⟨a.epoch, ⟨ord, ond⟩, on, ov⟩, m9) HNV9.out ho10 k10
              exact ⟨⟨_, _, _, S ++ [(⟨a.epoch, ⟨ord, ond⟩, on, ov⟩, m9)], so', cap', _, col4, by rw [List.length_append]; rfl, by rw [List.length_append]; simp only [List.length_cons, List.length_nil]; omega, fun j d => d.2, by
                rw [List.map_append]
                exact ⟨HKW.out, HKT.out.ep, HKT.out.prom⟩, hs.less (fun x hx => List.mem_cons.2 (Or.inl (List.mem_singleton.1 hx)))⟩⟩)
            clear ho10 k10 u3 u4 u5 u6 u9 u10 u11
            go_wp2_with fail
            go_meet
            case rel => exact HR
      · have hp := HX2.out.raised (by omega) on
        clear z4 z5 z6 z7 z1 z2
        have HKT := Lib.hid (HKN.out.raise s l on)
        go_wp2_with fail
        refine hp.mono ?_
        clear hp z0 z3
        rintro e w4 ⟨rfl, col', hlaw, hz4⟩
        have HR : Hid (OnlyR w1 p ql q a (1 + 70 * (i + 1)) [(gC, (.cells #[.int .i64 a.prom.round, .int .i64 a.prom.node] 24))] (i + 1) (.slice so S.length scap) w4) := Lib.hid ⟨⟨_, _, _, S, so, scap, D, col', rfl, by have := HSN.out; omega, fun j d => Nat.lt_of_lt_of_le (HD2.out.2 j d) hz4, HKT.out, (hlaw.less (fun x hx => List.mem_cons.2 (Or.inl (List.mem_singleton.1 hx)))).mono (by omega)⟩⟩
        clear hlaw hz4
        go_wp2_with fail
        go_meet
        case rel => exact HR
      · have hp := HX2.out.entered (by omega) om on
        clear z5 z6 z7 z1 z2
        have HKT := Lib.hid (HKN.out.enter s l om on)
        go_wp2_with fail
        refine hp.mono ?_
        clear hp z0 z3 z4
        rintro e w4 ⟨rfl, col', hlaw, hz4⟩
        have HR : Hid (OnlyR w1 p ql q a (1 + 70 * (i + 1)) [(gC, (.cells #[.int .i64 a.prom.round, .int .i64 a.prom.node] 24))] (i + 1) (.slice so S.length scap) w4) := Lib.hid ⟨⟨_, _, _, S, so, scap, D, col', rfl, by have := HSN.out; omega, fun j d => Nat.lt_of_lt_of_le (HD2.out.2 j d) hz4, HKT.out, (hlaw.less (fun x hx => List.mem_cons.2 (Or.inl (List.mem_singleton.1 hx)))).mono (by omega)⟩⟩
        clear hlaw hz4
        go_wp2_with fail
        go_meet
        case rel => exact HR
      · have q0 : (ok == 0) = false := beq_eq_false_iff_ne.2 k0
        have q1 : (ok == 1) = false := beq_eq_false_iff_ne.2 k1
        have q2 : (ok == 2) = false := beq_eq_false_iff_ne.2 k2
        have q3 : (ok == 3) = false := beq_eq_false_iff_ne.2 k3
        have HR : Hid (OnlyR w1 p ql q a (1 + 70 * (i + 1)) [(gC, (.cells #[.int .i64 a.prom.round, .int .i64 a.prom.node] 24))] (i + 1) (.slice so S.length scap) wC) := Lib.hid ⟨⟨_, _, _, S, so, scap, D, col, rfl, by have := HSN.out; omega, HD2.out.2, HKN.out.same, (HX2.out.less (fun x hx => List.mem_cons.2 (Or.inl (List.mem_singleton.1 hx)))).mono (by omega)⟩⟩
        clear z1 z2 z3 z4 z5 z6 z7 k0 k1 k2 k3
        go_wp2_with fail
        go_meet
        case rel => exact HR
    case rest =>
      have HEX := Lib.hid hcut.out.ex
      clear hcut z0 z1 z2 z3 z4 z5 z6 z7
      obtain ⟨s', l', a', S', so', cap', D', col', hv, hS', hD', hkt, hlaw⟩ := HEX.out
      subst hv
      have HL := Lib.hid hlaw
      have HKT := Lib.hid hkt
      have HSD := Lib.hid (And.intro hS' hD')
      have HBF : Hid (∀ W', Kp Noone wc W' → W'.cell? ⟨gC, 0, none⟩ = some (.int .i64 a.prom.round) ∧ W'.cell? ⟨gC, 1, none⟩ = some (.int .i64 a.prom.node)) := Lib.hid (fun W' kk => cells_2v (kk.heap (HL.out.cell9 (x := (gC, _)) (List.mem_cons_self ..)) id))
      have hep := fun W' (kk : Kp Noone wc W') => epoch_a col' W' p ql q s' l' a' (HL.out.keep kk).ac
      have hpr := fun W' (kk : Kp Noone wc W') => promised_a col' W' p ql q s' l' a' (HL.out.keep kk).ac
      have hinv := hkt.know.inv
      have hlen := hinv.ok.len hinv.win
      have hfl := fromV_len a'.votes 1
      have hvo := fun W' (kk : Kp Noone wc W') => votes_a 8 col' W' q ql a' 1 (HL.out.keep kk).ac.ac hinv.ok.up (fun v hv => hinv.ok.small hv) (by omega)
      have hso := fun W' (kk : Kp Noone wc W') => sound_a col' W' p ql q s' l' a' (HL.out.keep kk).ac hinv.ok (by omega)
      rw [hkt.know.sound] at hso
      simp only [decide_true] at hso
      obtain ⟨fl, hfl2⟩ : ∃ fl, Hid ((fromV a'.votes 1).length = fl) := ⟨_, Lib.hid rfl⟩
      have hvo2 : ∀ W', Kp Noone wc W' → Calls Tryz.prog 15 #[.pointer (some ⟨q, 0, none⟩), .int .i64 1] W' fun e w' => (∃ vo vc, e = .returned (.slice vo fl vc)) ∧ Kp Noone W' w' := fun W' kk => by
        refine (hvo W' kk).mono ?_
        rintro e w9 ⟨⟨vo, vc, M, DD, rfl, -, -, -⟩, kv⟩
        rw [hfl2.out]
        exact ⟨⟨vo, vc, rfl⟩, kv⟩
      have hfz : decide (64 < fl) = false := decide_eq_false (by rw [hfl2.out] at hfl; omega)
      have hfz2 : decide ((64 : Int) < (fl : Int)) = false := decide_eq_false (by rw [hfl2.out] at hfl; omega)
      have hel : ¬ a'.epoch < a.epoch := by have := hkt.ep; omega
      have hel2 : decide (a'.epoch < a.epoch) = false := decide_eq_false hel
      have hbw := fun W' => below_any a'.prom a.prom W'
      clear hvo hlaw hkt hS' hD' hinv hlen hfl
      have kd : Kp Noone wc wc.drew := (Kp.refl _ _).drew
      by_cases heq : a'.epoch = a.epoch
      · have qe : (a'.epoch == a.epoch) = true := by rw [heq]; simp
        rw [HKT.out.prom heq] at hbw
        clear heq
        go_upto_region 32 with fail
        obtain ⟨u0, u1⟩ := HBF.out _ kd
        first | (go_region_held3 (fun W' => W'.cell? ⟨gC, 0, none⟩ = some (.int .i64 a.prom.round) ∧ W'.cell? ⟨gC, 1, none⟩ = some (.int .i64 a.prom.node))
          (with_reducible exact HBF.out _ (by assumption))
          (first
            | (go_at_call 26; with_reducible refine (hep _ (by assumption)).mono ?_; rintro e wE ⟨rfl, rfl⟩)
            | (go_at_call 16; with_reducible refine (hpr _ (by assumption)).mono ?_; rintro e w7 ⟨rfl, k7⟩; have k7 := kd.trans k7)
            | (go_at_call 17; with_reducible refine (hbw _).mono ?_; rintro e w8 ⟨rfl, k8⟩; have k8 := k7.trans k8)
            | (go_at_call 15; with_reducible refine (hvo2 _ (by assumption)).mono ?_; rintro e w9 ⟨⟨vo, vc, rfl⟩, k9⟩; have k9 := k8.trans k9)
            | (go_at_call 29; with_reducible refine (hso _ (by assumption)).mono ?_; rintro e wz ⟨rfl, kz⟩; have kz := k9.trans kz))) | fail
        have HN : Hid (OnlyH w1 p ql q (1 + 70 * (i + 1)) (i + 1) (.slice so' S'.length cap') wz) := Lib.hid ⟨⟨_, _, _, S', so', cap', D', col', rfl, HSD.out.1, fun j d => Nat.lt_of_lt_of_le (HSD.out.2 j d) kz.size, HKT.out.know, (HL.out.keep kz).less (fun x hx => by cases hx)⟩⟩
        clear u0 u1 hep hpr hvo2 hso hbw k7 k8 k9 kz kd
        go_wp2_with fail
        go_roundw
        case rel => exact ⟨i + 1, rfl, by omega, HN⟩
        case measure => simp [intOf]; omega
      · have qe : (a'.epoch == a.epoch) = false := beq_eq_false_iff_ne.2 heq
        clear heq
        go_upto_region 32 with fail
        obtain ⟨u0, u1⟩ := HBF.out _ kd
        refine wp_region_held_drew (S := fun W' => W'.cell? ⟨gC, 0, none⟩ = some (.int .i64 a.prom.round) ∧ W'.cell? ⟨gC, 1, none⟩ = some (.int .i64 a.prom.node)) (by kernel_rfl) (HBF.out _ kd) (fun hHeld => ?_)
        refine wpAnyH_take (i := 0) (v := ?v0) rfl (by kernel_rfl) (by kernel_rfl) (by kernel_rfl) (fun _ _ _ h => h) (Or.inl ⟨by kernel_rfl, ?hy0⟩) hHeld ?_
        case hy0 => (intro w9 hS9; (try dsimp only at hS9); go_simp; try with_reducible rfl)
        try simp only [Act.put, List.setIfInBounds_toArray, List.set_cons_zero, List.set_cons_succ]
        refine wpAnyH_take (i := 2) (v := ?v2) rfl (by kernel_rfl) (by kernel_rfl) (by kernel_rfl) (fun _ _ _ h => h) (Or.inl ⟨by kernel_rfl, ?hy2⟩) hHeld ?_
        case hy2 => (intro w9 hS9; (try dsimp only at hS9); go_simp; try with_reducible rfl)
        try simp only [Act.put, List.setIfInBounds_toArray, List.set_cons_zero, List.set_cons_succ]
        refine wpAnyH_call9 (i := 1) (by kernel_rfl) rfl (by kernel_rfl) (fun K9 hK9 => ?_)
        go_simp
        go_at_call 26
        refine (hep _ kd).mono ?_
        rintro e wE ⟨rfl, rfl⟩
        try dsimp only
        refine hK9 _ _ hHeld (fun hHeld => ?_)
        clear hK9 K9
        try simp only [Act.put, List.setIfInBounds_toArray, List.set_cons_zero, List.set_cons_succ]
        refine wpAnyH_take (i := 3) (v := .bool false) rfl (by kernel_rfl) (by kernel_rfl) (by kernel_rfl) (fun _ _ _ h => h) (Or.inl ⟨by kernel_rfl, ?hy3⟩) hHeld ?_
        case hy3 => (intro w9 hS9; (try dsimp only at hS9); go_simp; try with_reducible rfl)
        try simp only [Act.put, List.setIfInBounds_toArray, List.set_cons_zero, List.set_cons_succ]
        refine wpAnyH_take (i := 4) (v := .bool false) rfl (by kernel_rfl) (by kernel_rfl) (by kernel_rfl) (fun _ _ _ h => h) (Or.inl ⟨by kernel_rfl, ?hy4⟩) hHeld ?_
        case hy4 => (intro w9 hS9; (try dsimp only at hS9); go_simp; try with_reducible rfl)
        try simp only [Act.put, List.setIfInBounds_toArray, List.set_cons_zero, List.set_cons_succ]
        refine wpAnyH_take (i := 5) (v := undef) rfl (by kernel_rfl) (by kernel_rfl) (by kernel_rfl) (fun _ _ _ h => h) (Or.inr ⟨by rfl, rfl⟩) hHeld ?_
        try simp only [Act.put, List.setIfInBounds_toArray, List.set_cons_zero, List.set_cons_succ]
        refine wpAnyH_take (i := 7) (v := undef) rfl (by kernel_rfl) (by kernel_rfl) (by kernel_rfl) (fun _ _ _ h => h) (Or.inr ⟨by rfl, rfl⟩) hHeld ?_
        try simp only [Act.put, List.setIfInBounds_toArray, List.set_cons_zero, List.set_cons_succ]
        refine wpAnyH_skip9 (i := 6) (by kernel_rfl) rfl (by rfl) hHeld ?_
        try simp only [Act.put, List.setIfInBounds_toArray, List.set_cons_zero, List.set_cons_succ]
        refine wpAnyH_skip9 (i := 8) (by kernel_rfl) rfl (by rfl) hHeld ?_
        try simp only [Act.put, List.setIfInBounds_toArray, List.set_cons_zero, List.set_cons_succ]
        refine wpAnyH_take (i := 9) (v := .bool false) rfl (by kernel_rfl) (by kernel_rfl) (by kernel_rfl) (fun _ _ _ h => h) (Or.inl ⟨by kernel_rfl, ?hy9⟩) hHeld ?_
        case hy9 => (intro w9 hS9; (try dsimp only at hS9); go_simp; try with_reducible rfl)
        try simp only [Act.put, List.setIfInBounds_toArray, List.set_cons_zero, List.set_cons_succ]
        refine wpAnyH_take (i := 10) (v := .bool false) rfl (by kernel_rfl) (by kernel_rfl) (by kernel_rfl) (fun _ _ _ h => h) (Or.inl ⟨by kernel_rfl, ?hy10⟩) hHeld ?_
        case hy10 => (intro w9 hS9; (try dsimp only at hS9); go_simp; try with_reducible rfl)
        try simp only [Act.put, List.setIfInBounds_toArray, List.set_cons_zero, List.set_cons_succ]
        refine wpAnyH_take (i := 11) (v := ?v11) rfl (by kernel_rfl) (by kernel_rfl) (by kernel_rfl) (fun _ _ _ h => h) (Or.inl ⟨by kernel_rfl, ?hy11⟩) hHeld ?_
        case hy11 => (intro w9 hS9; (try dsimp only at hS9); go_simp; try with_reducible rfl)
        try simp only [Act.put, List.setIfInBounds_toArray, List.set_cons_zero, List.set_cons_succ]
        refine wpAnyH_take (i := 13) (v := ?v13) rfl (by kernel_rfl) (by kernel_rfl) (by kernel_rfl) (fun _ _ _ h => h) (Or.inl ⟨by kernel_rfl, ?hy13⟩) hHeld ?_
        case hy13 => (intro w9 hS9; (try dsimp only at hS9); go_simp; try with_reducible rfl)
        try simp only [Act.put, List.setIfInBounds_toArray, List.set_cons_zero, List.set_cons_succ]
        refine wpAnyH_call9 (i := 12) (by kernel_rfl) rfl (by kernel_rfl) (fun K9 hK9 => ?_)
        go_simp
        go_at_call 26
        refine (hep _ kd).mono ?_
        rintro e wE ⟨rfl, rfl⟩
        try dsimp only
        refine hK9 _ _ hHeld (fun hHeld => ?_)
        clear hK9 K9
        try simp only [Act.put, List.setIfInBounds_toArray, List.set_cons_zero, List.set_cons_succ]
        refine wpAnyH_take (i := 14) (v := .bool false) rfl (by kernel_rfl) (by kernel_rfl) (by kernel_rfl) (fun _ _ _ h => h) (Or.inl ⟨by kernel_rfl, ?hy14⟩) hHeld ?_
        case hy14 => (intro w9 hS9; (try dsimp only at hS9); go_simp; try with_reducible rfl)
        try simp only [Act.put, List.setIfInBounds_toArray, List.set_cons_zero, List.set_cons_succ]
        refine wpAnyH_take (i := 15) (v := .bool false) rfl (by kernel_rfl) (by kernel_rfl) (by kernel_rfl) (fun _ _ _ h => h) (Or.inl ⟨by kernel_rfl, ?hy15⟩) hHeld ?_
        case hy15 => (intro w9 hS9; (try dsimp only at hS9); go_simp; try with_reducible rfl)
        try simp only [Act.put, List.setIfInBounds_toArray, List.set_cons_zero, List.set_cons_succ]
        refine wpAnyH_take (i := 16) (v := .bool false) rfl (by kernel_rfl) (by kernel_rfl) (by kernel_rfl) (fun _ _ _ h => h) (Or.inl ⟨by kernel_rfl, ?hy16⟩) hHeld ?_
        case hy16 => (intro w9 hS9; (try dsimp only at hS9); go_simp; try with_reducible rfl)
        try simp only [Act.put, List.setIfInBounds_toArray, List.set_cons_zero, List.set_cons_succ]
        refine wpAnyH_take (i := 17) (v := ?v17) rfl (by kernel_rfl) (by kernel_rfl) (by kernel_rfl) (fun _ _ _ h => h) (Or.inl ⟨by kernel_rfl, ?hy17⟩) hHeld ?_
        case hy17 => (intro w9 hS9; (try dsimp only at hS9); go_simp; try with_reducible rfl)
        try simp only [Act.put, List.setIfInBounds_toArray, List.set_cons_zero, List.set_cons_succ]
        refine wpAnyH_call9 (i := 18) (by kernel_rfl) rfl (by kernel_rfl) (fun K9 hK9 => ?_)
        go_simp
        go_at_call 15
        refine (hvo2 _ kd).mono ?_
        rintro e w9 ⟨⟨vo, vc, rfl⟩, k9⟩
        try dsimp only
        have k9 := kd.trans k9
        refine hK9 _ _ (HBF.out _ k9) (fun hHeld => ?_)
        clear hK9 K9
        try simp only [Act.put, List.setIfInBounds_toArray, List.set_cons_zero, List.set_cons_succ]
        refine wpAnyH_call9 (i := 19) (by kernel_rfl) rfl (by kernel_rfl) (fun K9 hK9 => ?_)
        go_simp
        refine hK9 _ _ hHeld (fun hHeld => ?_)
        clear hK9 K9
        try simp only [Act.put, List.setIfInBounds_toArray, List.set_cons_zero, List.set_cons_succ]
        refine wpAnyH_take (i := 20) (v := .bool false) rfl (by kernel_rfl) (by kernel_rfl) (by kernel_rfl) (fun _ _ _ h => h) (Or.inl ⟨by kernel_rfl, ?hy20⟩) hHeld ?_
        case hy20 => (intro w9 hS9; (try dsimp only at hS9); go_simp; try with_reducible rfl)
        try simp only [Act.put, List.setIfInBounds_toArray, List.set_cons_zero, List.set_cons_succ]
        refine wpAnyH_take (i := 21) (v := .bool false) rfl (by kernel_rfl) (by kernel_rfl) (by kernel_rfl) (fun _ _ _ h => h) (Or.inl ⟨by kernel_rfl, ?hy21⟩) hHeld ?_
        case hy21 => (intro w9 hS9; (try dsimp only at hS9); go_simp; try with_reducible rfl)
        try simp only [Act.put, List.setIfInBounds_toArray, List.set_cons_zero, List.set_cons_succ]
        refine wpAnyH_take (i := 22) (v := .bool false) rfl (by kernel_rfl) (by kernel_rfl) (by kernel_rfl) (fun _ _ _ h => h) (Or.inl ⟨by kernel_rfl, ?hy22⟩) hHeld ?_
        case hy22 => (intro w9 hS9; (try dsimp only at hS9); go_simp; try with_reducible rfl)
        try simp only [Act.put, List.setIfInBounds_toArray, List.set_cons_zero, List.set_cons_succ]
        refine wpAnyH_take (i := 23) (v := ?v23) rfl (by kernel_rfl) (by kernel_rfl) (by kernel_rfl) (fun _ _ _ h => h) (Or.inl ⟨by kernel_rfl, ?hy23⟩) hHeld ?_
        case hy23 => (intro w9 hS9; (try dsimp only at hS9); go_simp; try with_reducible rfl)
        try simp only [Act.put, List.setIfInBounds_toArray, List.set_cons_zero, List.set_cons_succ]
        refine wpAnyH_call9 (i := 24) (by kernel_rfl) rfl (by kernel_rfl) (fun K9 hK9 => ?_)
        go_simp
        go_at_call 29
        refine (hso _ k9).mono ?_
        rintro e wz ⟨rfl, kz⟩
        try dsimp only
        have kz := k9.trans kz
        refine hK9 _ _ (HBF.out _ kz) (fun hHeld => ?_)
        clear hK9 K9
        try simp only [Act.put, List.setIfInBounds_toArray, List.set_cons_zero, List.set_cons_succ]
        refine wpAnyH_take (i := 25) (v := .bool false) rfl (by kernel_rfl) (by kernel_rfl) (by kernel_rfl) (fun _ _ _ h => h) (Or.inl ⟨by kernel_rfl, ?hy25⟩) hHeld ?_
        case hy25 => (intro w9 hS9; (try dsimp only at hS9); go_simp; try with_reducible rfl)
        try simp only [Act.put, List.setIfInBounds_toArray, List.set_cons_zero, List.set_cons_succ]
        refine wpAnyH_take (i := 26) (v := .bool false) rfl (by kernel_rfl) (by kernel_rfl) (by kernel_rfl) (fun _ _ _ h => h) (Or.inl ⟨by kernel_rfl, ?hy26⟩) hHeld ?_
        case hy26 => (intro w9 hS9; (try dsimp only at hS9); go_simp; try with_reducible rfl)
        try simp only [Act.put, List.setIfInBounds_toArray, List.set_cons_zero, List.set_cons_succ]
        refine wpAnyH_done (by kernel_rfl) ?_ _
        have HN : Hid (OnlyH w1 p ql q (1 + 70 * (i + 1)) (i + 1) (.slice so' S'.length cap') wz) := Lib.hid ⟨⟨_, _, _, S', so', cap', D', col', rfl, HSD.out.1, fun j d => Nat.lt_of_lt_of_le (HSD.out.2 j d) kz.size, HKT.out.know, (HL.out.keep kz).less (fun x hx => by cases hx)⟩⟩
        clear u0 u1 hep hpr hvo2 hso hbw kz kd
        go_wp2_with fail
        go_roundw
        case rel => exact ⟨i + 1, rfl, by omega, HN⟩
        case measure => simp [intOf]; omega

end Go.Proofs.YtgbgbokcohfnpaaGreat
