/-
  The texts AccLaw0, TellsP, TellsLaw, TellsCore in one: what the claim reaches of them.
-/
import Derived.Test.YtgbgbokcohfnpaaGreatQ28
import Derived.Test.YtgbgbokcohfnpaaGreatQ29
import Derived.Test.YtgbgbokcohfnpaaGreatQ17
import Derived.Test.YtgbgbokcohfnpaaGreatQ27
import Derived.Test.YtgbgbokcohfnpaaGreatQ12
import Derived.Deep.CutBlock
/-
  An acceptor in a law's walk: it, its log, its disk, and the law's own boxes beside it.
-/
namespace Go.Proofs.YtgbgbokcohfnpaaGreat
open Go.RowKit

/-- The acceptor, and boxes that nobody owns. -/
structure LawX (W : World) (p ql q : Nat) (s : DS) (l : LogP) (a : AcS) (K : Nat) (bs : List (Nat × Obj)) (wx : World) : Prop where
  ex : ∃ col, Ext W.heap.size (fun c => c ≠ 0) (fun _ => 0) W col wx ∧ AcL col wx p ql q s l a ∧ ∀ x ∈ bs, wx.heap[x.1]? = some x.2 ∧ col x.1 = 0
  inv : AInv a
  li : LI K s l
theorem LawX.old {W : World} {p ql q : Nat} {s : DS} {l : LogP} {a : AcS} {K : Nat} {bs : List (Nat × Obj)} {wx : World} (h : LawX W p ql q s l a K bs wx) : Kp Noone W wx := by
  obtain ⟨col, e, -⟩ := h.ex
  exact e.kp.mono (fun j _ c => absurd rfl c)
theorem LawX.box {W : World} {p ql q : Nat} {s : DS} {l : LogP} {a : AcS} {K : Nat} {bs : List (Nat × Obj)} {wx : World} (h : LawX W p ql q s l a K bs wx) {x : Nat × Obj} (hx : x ∈ bs) : wx.heap[x.1]? = some x.2 := by
  obtain ⟨col, -, -, hb⟩ := h.ex
  exact (hb x hx).1
theorem LawX.keep {W : World} {p ql q : Nat} {s : DS} {l : LogP} {a : AcS} {K : Nat} {bs : List (Nat × Obj)} {wx w' : World} (h : LawX W p ql q s l a K bs wx) (k : Kp Noone wx w') : LawX W p ql q s l a K bs w' := by
  obtain ⟨⟨col, e, ha, hb⟩, h2, h3⟩ := h
  exact ⟨⟨col, e.trans (Ext.quiet e.cols k), ha.keep k, fun x hx => ⟨k.heap (hb x hx).1 id, (hb x hx).2⟩⟩, h2, h3⟩
theorem LawX.mono {W : World} {p ql q : Nat} {s : DS} {l : LogP} {a : AcS} {K K' : Nat} {bs : List (Nat × Obj)} {wx : World} (h : LawX W p ql q s l a K bs wx) (hk : K ≤ K') : LawX W p ql q s l a K' bs wx := ⟨h.ex, h.inv, h.li.mono hk⟩
theorem LawX.less {W : World} {p ql q : Nat} {s : DS} {l : LogP} {a : AcS} {K : Nat} {bs bs' : List (Nat × Obj)} {wx : World} (h : LawX W p ql q s l a K bs wx) (hb : ∀ x ∈ bs', x ∈ bs) : LawX W p ql q s l a K bs' wx := by
  obtain ⟨⟨col, e, ha, h1⟩, h2, h3⟩ := h
  exact ⟨⟨col, e, ha, fun x hx => h1 x (hb x hx)⟩, h2, h3⟩
theorem LawX.boxed {W : World} {p ql q : Nat} {s : DS} {l : LogP} {a : AcS} {K : Nat} {bs : List (Nat × Obj)} {wx : World} (h : LawX W p ql q s l a K bs wx) (o : Obj) : LawX W p ql q s l a K ((wx.heap.size, o) :: bs) (wx.alloc o) := by
  have h1 := h.keep ((Kp.refl Noone wx).alloc o)
  obtain ⟨⟨col, e, ha, hb⟩, h2, h3⟩ := h
  have k : Kp Noone wx (wx.alloc o) := (Kp.refl _ _).alloc o
  exact ⟨⟨col, e.trans (Ext.quiet e.cols k), ha.keep k, fun x hx => by
    rcases List.mem_cons.1 hx with rfl | hx
    · exact ⟨heap_alloc_new wx o, cols_new e.cols (Nat.le_refl _)⟩
    · exact ⟨k.heap (hb x hx).1 id, (hb x hx).2⟩⟩, h2, h3⟩
theorem LawX.step {W : World} {p ql q : Nat} {s' : DS} {l' : LogP} {a' : AcS} {K' : Nat} {bs : List (Nat × Obj)} {wx w' : World} {col col' : Nat → Nat} (h1 : Ext W.heap.size (fun c => c ≠ 0) (fun _ => 0) W col wx) (hb : ∀ x ∈ bs, wx.heap[x.1]? = some x.2 ∧ col x.1 = 0) (e : Ext W.heap.size SX col wx col' w') (ha : AcL col' w' p ql q s' l' a') (hi : AInv a') (hl : LI K' s' l') :
    LawX W p ql q s' l' a' K' bs w' :=
  ⟨⟨col', h1.trans (e.mono sx_ne), ha, fun x hx => by
    obtain ⟨b1, b2⟩ := hb x hx
    exact ⟨e.kp.heap b1 (by rw [b2]; exact sx_zero), (e.old x.1 (Array.getElem?_eq_some_iff.1 b1).1).trans b2⟩⟩, hi, hl⟩
/-- What a call that answers a message leaves. -/
structure LMsg (W : World) (p ql q : Nat) (o : AO) (K : Nat) (bs : List (Nat × Obj)) (wx : World) (e : Ending) (w' : World) : Prop where
  law : LawX W p ql q o.s o.l o.a K bs w'
  ex : ∃ (vo : Option Addr) (vc : Nat) (m : VLoc), e = .returned (.tuple #[.agg (msgCs o.m vo vc m), .int .i64 (o.e : Int)]) ∧ MsgAt (fun j => wx.heap.size ≤ j) w' o.m vo vc m
theorem MsgAt.mono {P Q : Nat → Prop} {w : World} {m : MsgR} {vo : Option Addr} {vc : Nat} {l : VLoc} (h : MsgAt P w m vo vc l) (hq : ∀ j, P j → Q j) : MsgAt Q w m vo vc l := by
  obtain ⟨⟨M, D, h1, h2, h3⟩, h4⟩ := h
  exact ⟨⟨M, D, h1, h2.mono (fun j _ d => ⟨hq j d.1, d.2⟩), fun x hx => (h3 x hx).mono (fun j _ d => ⟨hq j d.1, d.2⟩)⟩, h4.mono (fun j _ d => hq j d)⟩
attribute [local irreducible] prepA accA raiseO enterO
theorem LawX.prepare {W : World} {p ql q : Nat} {s : DS} {l : LogP} {a : AcS} {K : Nat} {bs : List (Nat × Obj)} {wx : World} (h : LawX W p ql q s l a K bs wx) (hK : K ≤ 80000) (b : BalR) (f : Int) :
    Calls Tryz.prog 11 #[.pointer (some ⟨q, 0, none⟩), .agg #[.int .i64 b.round, .int .i64 b.node], .int .i64 f] wx fun e w' => LMsg W p ql q (prepA s l a b f) (K + 70) bs wx e w' := by
  obtain ⟨⟨col, x, ha, hb⟩, hi, hl⟩ := h
  refine (prep_a W.heap.size col wx p ql q s l a b f K ha x.cols x.size hl hK hi.ok (Nat.le_trans (hi.ok.len hi.win) (by decide))).mono ?_
  rintro e w' ⟨⟨col', vo, vc, m, rfl, he, ha2, hm⟩, hl2⟩
  exact ⟨LawX.step x hb he ha2 (hi.prep s l b f) (hl2.mono (by omega)), vo, vc, m, rfl, hm.mono (fun j d => d.1)⟩
theorem LawX.accept {W : World} {p ql q : Nat} {s : DS} {l : LogP} {a : AcS} {K : Nat} {bs : List (Nat × Obj)} {wx : World} (hK : K ≤ 80000) (b : BalR) (sl : Int) (v : ValR) (m : VLoc) (w0 : World) (hv : ValOwn (Ex Noone w0 wx) wx v m) (h0 : LawX W p ql q s l a K bs w0) (k0 : Kp Noone w0 wx) (h1 : v.cmds.length ≤ 140737488351232) (h2 : v.next.length ≤ 140737488351232) :
    Calls Tryz.prog 12 #[.pointer (some ⟨q, 0, none⟩), .agg #[.int .i64 b.round, .int .i64 b.node], .int .i64 sl, valV v m] wx fun e w' => LMsg W p ql q (accA s l a b sl v) (K + 70) bs wx e w' := by
  obtain ⟨⟨col, x0, ha0, hb0⟩, hi, hl⟩ := h0
  have x := x0.trans (Ext.quiet x0.cols k0)
  have ha := ha0.keep k0
  have hb : ∀ y ∈ bs, wx.heap[y.1]? = some y.2 ∧ col y.1 = 0 := fun y hy => ⟨k0.heap (hb0 y hy).1 id, (hb0 y hy).2⟩
  refine (acc_a W.heap.size col wx p ql q s l a b sl v m K ha x.cols x.size hl hK hi.ok (hv.in.mono (fun j _ d => cols_new x0.cols d.none.1)) h1 h2).mono ?_
  rintro e w' ⟨⟨col', vo, vc, m2, rfl, he, ha2, hm⟩, hl2⟩
  exact ⟨LawX.step x hb he ha2 (hi.acc s l b sl v) (hl2.mono (by omega)), vo, vc, m2, rfl, hm.mono (fun j d => d.1)⟩
theorem LawX.raised {W : World} {p ql q : Nat} {s : DS} {l : LogP} {a : AcS} {K : Nat} {bs : List (Nat × Obj)} {wx : World} (h : LawX W p ql q s l a K bs wx) (hK : K ≤ 80000) (f : Int) :
    Calls Tryz.prog 14 #[.pointer (some ⟨q, 0, none⟩), .int .i64 f] wx fun e w' => e = .returned (.int .i64 ((raiseO s l a f).e : Int)) ∧ LawX W p ql q (raiseO s l a f).s (raiseO s l a f).l (raiseO s l a f).a (K + 70) bs w' := by
  obtain ⟨⟨col, x, ha, hb⟩, hi, hl⟩ := h
  have hlen := hi.ok.len hi.win
  refine (raiseO_a W.heap.size col wx p ql q s l a f K ha x.cols x.size hl hK hi.ok (by omega)).mono ?_
  rintro e w' ⟨⟨col', rfl, he, ha2⟩, hl2⟩
  exact ⟨rfl, LawX.step x hb he ha2 (hi.raise s l f) (hl2.mono (by omega))⟩
theorem LawX.entered {W : World} {p ql q : Nat} {s : DS} {l : LogP} {a : AcS} {K : Nat} {bs : List (Nat × Obj)} {wx : World} (h : LawX W p ql q s l a K bs wx) (hK : K ≤ 80000) (ep f : Int) :
    Calls Tryz.prog 28 #[.pointer (some ⟨q, 0, none⟩), .int .i64 ep, .int .i64 f] wx fun e w' => e = .returned (.int .i64 ((enterO s l a ep f).e : Int)) ∧ LawX W p ql q (enterO s l a ep f).s (enterO s l a ep f).l (enterO s l a ep f).a (K + 70) bs w' := by
  obtain ⟨⟨col, x, ha, hb⟩, hi, hl⟩ := h
  refine (enterO_a W.heap.size col wx p ql q s l a ep f K ha x.cols x.size hl hK hi.ok.ep.1).mono ?_
  rintro e w' ⟨⟨col', rfl, he, ha2⟩, hl2⟩
  exact ⟨rfl, LawX.step x hb he ha2 (hi.enter s l ep f) (hl2.mono (by omega))⟩

end Go.Proofs.YtgbgbokcohfnpaaGreat

/-
  PLAIN: what a promise tells; which errors a call can answer.
-/
namespace Go.Proofs.YtgbgbokcohfnpaaGreat

theorem barsF_le (s : DS) (k : ByteArray) (b : Bool) : barsF s k b ≤ 43 := by
  unfold barsF
  repeat' split
  all_goals omega
theorem doneN_le (b : Bool) : doneN b ≤ 43 := by unfold doneN; split <;> omega
theorem appendF_le (s : DS) (k : ByteArray) (d : List UInt8) : (appendF s k d).2 ≤ 43 := by
  unfold appendF
  split
  · exact barsF_le _ _ _
  split
  · exact Nat.le_refl _
  split
  · show 12 ≤ 43; omega
  · exact doneN_le _
theorem syncF_le (s : DS) (k : ByteArray) : (syncF s k).2 ≤ 43 := by
  unfold syncF
  split
  · exact barsF_le _ _ _
  split
  · show 42 ≤ 43; omega
  split
  · show 2 ≤ 43; omega
  · show 0 ≤ 43; omega
theorem aliveF_le (s : DS) (l : LogP) : (aliveF s l).2 ≤ 43 := by
  unfold aliveF
  split
  · show 2 ≤ 43; omega
  · show 0 ≤ 43; omega
theorem dropF_le (s : DS) (k : ByteArray) : (dropF s k).2 ≤ 43 := by
  unfold dropF
  split
  · exact barsF_le _ _ _
  split
  · show 2 ≤ 43; omega
  · show 0 ≤ 43; omega
theorem beginF_le (s : DS) (l : LogP) (a b : Nat) : (beginF s l a b).2.2 ≤ 43 := by
  unfold beginF
  split
  · exact appendF_le _ _ _
  · have := syncF_le (appendF s (walName a) (headerL a b)).1 (walName a)
    unfold beginB
    split
    · split
      · exact dropF_le _ _
      · show 42 ≤ 43; omega
    · split
      · exact this
      · show 0 ≤ 43; omega
theorem appTail_le (s : DS) (l : LogP) (d : List UInt8) : (appTail s l d).2.2.2 ≤ 43 := by
  unfold appTail
  split
  · exact appendF_le _ _ _
  · show 0 ≤ 43; omega
theorem appendLF_le (s : DS) (l : LogP) (d : List UInt8) : (appendLF s l d).2.2.2 ≤ 43 := by
  unfold appendLF
  split
  · exact aliveF_le _ _
  split
  · show 12 ≤ 43; omega
  split
  · split
    · exact Nat.le_refl _
    · unfold rollF
      split
      · exact syncF_le _ _
      · unfold roll2
        split
        · exact beginF_le _ _ _ _
        · exact appTail_le _ _ _
  · exact appTail_le _ _ _
theorem syncLF_le (s : DS) (l : LogP) : (syncLF s l).2.2 ≤ 43 := by
  unfold syncLF
  split
  · exact aliveF_le _ _
  · exact syncF_le _ _
theorem writeF_le : ∀ (ds : List (List UInt8)) (b : Bool) (f : Nat) (s : DS) (l : LogP), (writeF ds b f s l).2.2.2 ≤ 43
  | [], _, _, s, l => syncLF_le s l
  | d :: r, b, f, s, l => by
    unfold writeF
    split
    · exact appendLF_le s l d
    · exact writeF_le r _ _ _ _
/-- What Prepare answers. -/
theorem prep_out (s : DS) (l : LogP) (a : AcS) (b : BalR) (f : Int) :
    ((prepA s l a b f).e = 0 ∧ validB b = true ∧ belowB b a.prom = false ∧ (prepA s l a b f).a = { a with prom := b } ∧ (prepA s l a b f).m = promM { a with prom := b } b f) ∨
    ((prepA s l a b f).e = 60 ∧ belowB b a.prom = true ∧ (prepA s l a b f).a = a ∧ (prepA s l a b f).m = nackM a) ∨
    ((prepA s l a b f).e ≠ 0 ∧ (prepA s l a b f).e ≠ 60 ∧ (prepA s l a b f).a = a) := by
  unfold prepA
  split
  · exact Or.inr (Or.inr ⟨by simp, by simp, rfl⟩)
  split
  · exact Or.inr (Or.inr ⟨by simp, by simp, rfl⟩)
  split
  · rename_i h
    exact Or.inr (Or.inl ⟨rfl, h, rfl, rfl⟩)
  rename_i h1 h2 h3
  have h2 : validB b = true := by simpa using h2
  have h3 : belowB b a.prom = false := by simpa using h3
  split
  · unfold prepW
    split
    · rename_i hw
      have := writeF_le [recL ⟨1, a.epoch, 0, b, val0⟩] true 0 s l
      exact Or.inr (Or.inr ⟨hw, by simp only []; omega, rfl⟩)
    · exact Or.inl ⟨rfl, h2, h3, rfl, rfl⟩
  · rename_i h4
    have h4 : belowB a.prom b = false := by simpa using h4
    have e : a.prom = b := belowB_none h4 h3
    have ea : a = { a with prom := b } := by rw [← e]
    refine Or.inl ⟨rfl, h2, h3, ea, ?_⟩
    show promM a b f = _
    rw [← ea]
def th0 : DS × LogP × Nat := beginF (newF 4194304) (freshL 500) 1 1
theorem th_0 : th0.2.2 = 0 := by decide +kernel
theorem th_open : openF (newF 4194304) 500 = (th0.1, some (th0.2.1, []), 0) := by
  rw [openF_new]
  show openNew th0 = _
  unfold openNew
  rw [if_neg (by rw [th_0]; simp)]

end Go.Proofs.YtgbgbokcohfnpaaGreat

/-
  THE WALK of AcceptorTells.
-/
namespace Go.Proofs.YtgbgbokcohfnpaaGreat
open Go.RowKit Go.ChangeShapes Go.WideShapes Go.ChangeAt

theorem OpAS.at9 {W W' : World} {ao : Option Addr} {n cap : Nat} {ps : List OpA} (h : OpAS W ao n cap ps) (k : Kp Noone W W') {i : Nat} (hi : i < n) : ∃ b off l ko kc, ∃ hl : i < ps.length, ao = some ⟨b, off, none⟩ ∧ OpAAt W' ps[i] b (off + i * 9) l ko kc := by
  have hl : i < ps.length := by have := h.len; omega
  obtain ⟨b, off, l, ko, kc, e, -, h1, ⟨⟨c0, c1, c2, c3⟩, c4, c5, c6, c7, c8⟩, h3, h4, h5⟩ := h.get i hl
  exact ⟨b, off, l, ko, kc, hl, e, h1, ⟨⟨k.cell c0 id, k.cell c1 id, k.cell c2 id, k.cell c3 id⟩, k.cell c4 id, k.cell c5 id, k.cell c6 id, k.cell c7 id, k.cell c8 id⟩, h3.keep k, h4.keep k, h5⟩
theorem cells_9v {w : World} {g : Nat} {a b c d e f k i j : Value} {T : TypeId} {fr : Nat × Nat} (h : w.heap[g]? = some (.cells #[a, b, c, d, e, f, k, i, j] T fr)) :
    (w.cell? ⟨g, 0, none⟩ = some a ∧ w.cell? ⟨g, 1, none⟩ = some b ∧ w.cell? ⟨g, 2, none⟩ = some c ∧ w.cell? ⟨g, 3, none⟩ = some d) ∧ w.cell? ⟨g, 4, none⟩ = some e ∧ w.cell? ⟨g, 5, none⟩ = some f ∧ w.cell? ⟨g, 6, none⟩ = some k ∧ w.cell? ⟨g, 7, none⟩ = some i ∧ w.cell? ⟨g, 8, none⟩ = some j :=
  ⟨⟨cell_of_row w g 0 _ T fr h, cell_of_row w g 1 _ T fr h, cell_of_row w g 2 _ T fr h, cell_of_row w g 3 _ T fr h⟩, cell_of_row w g 4 _ T fr h, cell_of_row w g 5 _ T fr h, cell_of_row w g 6 _ T fr h, cell_of_row w g 7 _ T fr h, cell_of_row w g 8 _ T fr h⟩
attribute [local irreducible] prepA accA raiseO openF newF
attribute [local go_sem ↓] stM_eq
set_option maxHeartbeats 20000000 in
set_option maxRecDepth 100000 in
theorem tells_of (s0 : DS) (l0 : LogP) (hop : openF (newF 4194304) 500 = (s0, some (l0, []), 0)) (ao : Option Addr) (n cap : Nat) (ps : List OpA) (b : BalR) (fr9 : Int) (W : World) (h : OpAS W ao n cap ps) :
    Calls Tryz.prog 3 #[.slice ao n cap, .agg #[.int .i64 b.round, .int .i64 b.node], .int .i64 fr9] W fun e w' => e = .returned (.bool true) ∧ Kp Noone W w' := by
  have HOP := Lib.hid hop
  have HPS := Lib.hid h
  have hcap := h.max
  have hncap := h.le
  clear hop h
  obtain ⟨rd, nd⟩ := b
  simp only []
  have kA : Kp Noone W (W.alloc (.cells #[.int .i64 rd, .int .i64 nd] 24)) := (Kp.refl _ _).alloc _
  have hb4 := heap_alloc_new W (.cells #[.int .i64 rd, .int .i64 nd] 24)
  go_enter Tryz.func3, Tryz.ntmps3
  go_upto_region 1 with fail
  generalize W.alloc (.cells #[.int .i64 rd, .int .i64 nd] 24) = wA at *
  generalize W.heap.size = g4 at *
  have hhd := head14_any wA
  have HKA := Lib.hid kA
  have HB4 := Lib.hid hb4
  clear kA hb4
  go_wp2_with fail
  refine hhd.mono ?_
  clear hhd
  rintro e w1 ⟨rfl, k1⟩
  have HK1 := Lib.hid (HKA.out.trans k1)
  have HB1 := Lib.hid (k1.heap HB4.out id)
  clear k1
  have hfr := fresh_any 4194304 500 w1
  rw [HOP.out] at hfr
  go_wp2_with fail
  refine hfr.mono ?_
  clear hfr
  rintro e w2 ⟨⟨c2, p, x2, hcase⟩⟩
  rcases hcase with ⟨hx, -⟩ | ⟨l, q, ql, hR, rfl, hA, hL⟩
  · cases hx
  simp only [] at hA hL
  have HX0 : Hid (LawX w1 p ql q s0 l (enterA 0 0) 1 [] w2) := Lib.hid ⟨⟨c2, x2, hA, fun y hy => by cases hy⟩, AInv.start, hL⟩
  clear hR x2 hA hL
  go_upto_block 0 with fail
  go_cut [10, 11] from 29 to 70 (fun _ _ wx => ∃ (s : DS) (l : LogP) (a : AcS), Hid (LawX w1 p ql q s l a 5000 [] wx))
  case first =>
    go_wp2_with fail
    go_loopw [10] (fun v10 wx => ∃ (i : Nat) (s : DS) (l : LogP) (a : AcS), v10 = .int .i64 (i : Int) ∧ i ≤ 60 ∧ Hid (LawX w1 p ql q s l a (1 + 70 * i) [] wx)) (fun u _ => (61 - intOf u).toNat)
    case atStart => exact ⟨0, s0, l, _, rfl, Nat.zero_le _, HX0⟩
    case round =>
      obtain ⟨i, s, l, a, rfl, hi60, hx⟩ := hrel
      clear HX0
      have HX := Lib.hid hx.out
      clear hx
      by_cases hgo : i < n ∧ i < 60
      · obtain ⟨hin, hi6⟩ := hgo
        have hinz : (i : Int) < (n : Int) := by omega
        have hi6z : (i : Int) < 60 := by omega
        have hwi : IntKind.i64.wrap ((i : Int) + 1) = (i : Int) + 1 := IntWalk.i64_in _ (by omega)
        obtain ⟨pb, off, lv, ko, kc, hl, hao, hat⟩ := HPS.out.at9 (HK1.out.trans HX.out.old) hin
        generalize ps[i] = o at *
        obtain ⟨ok, ⟨ord, ond⟩, on, om, ov, okeep⟩ := o
        obtain ⟨-, ⟨⟨y0, y1, y2, y3⟩, y4, y5, y6, y7, y8⟩, hva, -, hlen⟩ := hat
        simp only [] at y0 y1 y2 y3 y4 y5 y6 y7 y8 hva hlen
        subst hao
        have HVA := Lib.hid hva
        have HLN := Lib.hid hlen
        have HX1 := Lib.hid (HX.out.boxed (.cells #[.int .i64 ok, .int .i64 ord, .int .i64 ond, .int .i64 on, .int .i64 om, .int .i64 ov.kind, .slice lv.co ov.cmds.length lv.cc, .slice lv.no ov.next.length lv.nc, .slice ko okeep.length kc] 36))
        have kB : Kp Noone wr (wr.alloc (.cells #[.int .i64 ok, .int .i64 ord, .int .i64 ond, .int .i64 on, .int .i64 om, .int .i64 ov.kind, .slice lv.co ov.cmds.length lv.cc, .slice lv.no ov.next.length lv.nc, .slice ko okeep.length kc] 36)) := (Kp.refl _ _).alloc _
        have HVB := Lib.hid (hva.keep kB)
        clear hva hlen hl kB
        go_upto_region 10 with fail
        clear y0 y1 y2 y3 y4 y5 y6 y7 y8
        generalize wr.alloc (.cells #[.int .i64 ok, .int .i64 ord, .int .i64 ond, .int .i64 on, .int .i64 om, .int .i64 ov.kind, .slice lv.co ov.cmds.length lv.cc, .slice lv.no ov.next.length lv.nc, .slice ko okeep.length kc] 36) = wB at *
        generalize wr.heap.size = gB at *
        obtain ⟨⟨z0, z1, z2, z3⟩, z4, z5, z6, z7, -⟩ := cells_9v (HX1.out.box (List.mem_cons_self ..))
        rcases (by omega : ok = 0 ∨ ok = 1 ∨ ok = 2 ∨ (ok ≠ 0 ∧ ok ≠ 1 ∧ ok ≠ 2)) with rfl | rfl | rfl | ⟨k0, k1, k2⟩
        · have hp := HX1.out.prepare (by omega) ⟨ord, ond⟩ on
          clear z4 z5 z6 z7
          go_wp2_with fail
          refine hp.mono ?_
          clear hp z0 z1 z2 z3
          rintro e w3 ⟨hlaw, vo, vc, m, rfl, -⟩
          obtain ⟨⟨z0, -, -, -⟩, -⟩ := cells_9v (hlaw.box (List.mem_cons_self ..))
          have HL3 := Lib.hid ((hlaw.less (bs' := []) (fun x hx => by cases hx)).mono (K' := 1 + 70 * (i + 1)) (by omega))
          clear hlaw
          go_wp2_with fail
          go_roundw
          case rel => exact ⟨i + 1, _, _, _, rfl, by omega, HL3⟩
          case measure => simp [intOf]; omega
        · have kd : Kp Noone wB wB.drew := (Kp.refl _ _).drew
          have hcp := refCopy_any ov lv wB.drew (HVB.out.keep kd) (by have := HLN.out; omega) (by have := HLN.out; omega)
          unfold valV at hcp
          have hX1d := HX1.out.keep kd
          have HSX : Hid (∀ W', Kp Noone wB W' → (W'.cell? ⟨gB, 0, none⟩ = some (.int .i64 1) ∧ W'.cell? ⟨gB, 1, none⟩ = some (.int .i64 ord) ∧ W'.cell? ⟨gB, 2, none⟩ = some (.int .i64 ond) ∧ W'.cell? ⟨gB, 3, none⟩ = some (.int .i64 on)) ∧ W'.cell? ⟨gB, 5, none⟩ = some (.int .i64 ov.kind) ∧ W'.cell? ⟨gB, 6, none⟩ = some (.slice lv.co ov.cmds.length lv.cc) ∧ W'.cell? ⟨gB, 7, none⟩ = some (.slice lv.no ov.next.length lv.nc)) := Lib.hid (fun W' kk => by
            obtain ⟨a1, a2, a3, a4, a5, a6⟩ := cells_9v (kk.heap (HX1.out.box (List.mem_cons_self ..)) id)
            exact ⟨a1, a3, a4, a5⟩)
          go_upto_region 13 with fail
          clear z0 z1 z2 z3 z4 z5 z6 z7
          have hS1 := HSX.out _ kd
          obtain ⟨⟨z0, z1, z2, z3⟩, z5, z6, z7⟩ := HSX.out _ kd
          go_region_held3 (fun W' => (W'.cell? ⟨gB, 0, none⟩ = some (.int .i64 1) ∧ W'.cell? ⟨gB, 1, none⟩ = some (.int .i64 ord) ∧ W'.cell? ⟨gB, 2, none⟩ = some (.int .i64 ond) ∧ W'.cell? ⟨gB, 3, none⟩ = some (.int .i64 on)) ∧ W'.cell? ⟨gB, 5, none⟩ = some (.int .i64 ov.kind) ∧ W'.cell? ⟨gB, 6, none⟩ = some (.slice lv.co ov.cmds.length lv.cc) ∧ W'.cell? ⟨gB, 7, none⟩ = some (.slice lv.no ov.next.length lv.nc))
            (first | with_reducible exact hS1 | with_reducible exact hS2 | with_reducible exact hS3)
            (first
              | (go_at_call 13; refine hcp.mono ?_; rintro e w3 ⟨m3, rfl, hov, k3⟩; have hS2 := HSX.out _ (kd.trans k3); have hac := LawX.accept (by omega) ⟨ord, ond⟩ on ov m3 wB.drew hov hX1d k3 (by have := HLN.out; omega) (by have := HLN.out; omega); unfold valV at hac)
              | (go_at_call 12; refine hac.mono ?_; rintro e w4 ⟨hlaw, vo, vc, m4, rfl, -⟩; have hS3 : (fun W' : World => (W'.cell? ⟨gB, 0, none⟩ = some (.int .i64 1) ∧ W'.cell? ⟨gB, 1, none⟩ = some (.int .i64 ord) ∧ W'.cell? ⟨gB, 2, none⟩ = some (.int .i64 ond) ∧ W'.cell? ⟨gB, 3, none⟩ = some (.int .i64 on)) ∧ W'.cell? ⟨gB, 5, none⟩ = some (.int .i64 ov.kind) ∧ W'.cell? ⟨gB, 6, none⟩ = some (.slice lv.co ov.cmds.length lv.cc) ∧ W'.cell? ⟨gB, 7, none⟩ = some (.slice lv.no ov.next.length lv.nc)) w4 := (by obtain ⟨a1, a2, a3, a4, a5, a6⟩ := cells_9v (hlaw.box (List.mem_cons_self ..)); exact ⟨a1, a3, a4, a5⟩)))
          clear z0 z1 z2 z3 z5 z6 z7
          obtain ⟨⟨z0, -, -, -⟩, -⟩ := hS3
          have HL3 := Lib.hid ((hlaw.less (bs' := []) (fun x hx => by cases hx)).mono (K' := 1 + 70 * (i + 1)) (by omega))
          clear hlaw hS1 hS2 hac hcp hov k3 kd hX1d
          go_wp2_with fail
          go_roundw
          case rel => exact ⟨i + 1, _, _, _, rfl, by omega, HL3⟩
          case measure => simp [intOf]; omega
        · have hp := HX1.out.raised (by omega) on
          clear z4 z5 z6 z7 z1 z2
          go_wp2_with fail
          refine hp.mono ?_
          clear hp z0 z3
          rintro e w3 ⟨rfl, hlaw⟩
          have HL3 := Lib.hid ((hlaw.less (bs' := []) (fun x hx => by cases hx)).mono (K' := 1 + 70 * (i + 1)) (by omega))
          clear hlaw
          go_wp2_with fail
          go_roundw
          case rel => exact ⟨i + 1, _, _, _, rfl, by omega, HL3⟩
          case measure => simp [intOf]; omega
        · have q0 : (ok == 0) = false := beq_eq_false_iff_ne.2 k0
          have q1 : (ok == 1) = false := beq_eq_false_iff_ne.2 k1
          have q2 : (ok == 2) = false := beq_eq_false_iff_ne.2 k2
          have HL3 := Lib.hid ((HX1.out.less (bs' := []) (fun x hx => by cases hx)).mono (K' := 1 + 70 * (i + 1)) (by omega))
          clear z1 z2 z3 z4 z5 z6 z7 k0 k1 k2
          go_wp2_with fail
          go_roundw
          case rel => exact ⟨i + 1, _, _, _, rfl, by omega, HL3⟩
          case measure => simp [intOf]; omega
      · have HXE := Lib.hid (HX.out.mono (K' := 5000) (by omega))
        clear HX
        rcases (by omega : ¬ (i : Int) < (n : Int) ∨ ((i : Int) < (n : Int) ∧ ¬ (i : Int) < 60)) with hend | ⟨hend, hend2⟩
        all_goals (
          clear hgo
          go_wp2_with fail
          go_meet
          case rel => exact ⟨s, l, a, HXE⟩)
  case rest =>
    clear HX0
    obtain ⟨s, l, a, HXE⟩ := id hcut
    clear hcut
    obtain ⟨wr, hwr⟩ : ∃ x, x = wc := ⟨_, rfl⟩
    subst hwr
    obtain ⟨⟨col, hx, hA, -⟩, hinv, hli⟩ := HXE.out
    have HE := Lib.hid hx
    have HA := Lib.hid hA
    have HI := Lib.hid hinv
    have HL := Lib.hid hli
    have hvo := votes_a 8 col wr q ql a fr9 hA.ac hinv.ok.up (fun v hv => hinv.ok.small hv) (Nat.le_trans (hinv.ok.len hinv.win) (by decide))
    clear hx hA hinv hli
    go_wp2_with fail
    refine hvo.mono ?_
    clear hvo
    rintro e w3 ⟨⟨vo, vc, M, D, rfl, hM, hown, hvals⟩, kv⟩
    have HM := Lib.hid hM
    have HNW : Hid (Own (fun j => col j = 0) w3 56 6 vo (fromV a.votes fr9).length vc (votesV M) ∧ ∀ x ∈ M, ValC (fun j => col j = 0) w3 x.1.val x.2) := Lib.hid ⟨hown.mono (fun j _ d => cols_new HE.out.cols d.1.none.1), fun x hx => (hvals x hx).in.mono (fun j _ d => cols_new HE.out.cols d.1.none.1)⟩
    have HKV := Lib.hid kv
    have HA3 := Lib.hid (HA.out.keep kv)
    have HE3 := Lib.hid (HE.out.trans (Ext.quiet HE.out.cols kv))
    clear hM hown hvals kv
    have hpr := promised_a col w3 p ql q s l a HA3.out
    generalize hfn : (fromV a.votes fr9).length = fn at *
    have HFN := Lib.hid hfn
    clear hfn
    go_wp2_with fail
    refine hpr.mono ?_
    clear hpr
    rintro e w4 ⟨rfl, k4⟩
    have kB : Kp Noone w4 (w4.alloc (.cells #[.int .i64 a.prom.round, .int .i64 a.prom.node] 24)) := (Kp.refl _ _).alloc _
    have hb13 := heap_alloc_new w4 (.cells #[.int .i64 a.prom.round, .int .i64 a.prom.node] 24)
    go_upto_region 18 with fail
    generalize w4.alloc (.cells #[.int .i64 a.prom.round, .int .i64 a.prom.node] 24) = w5 at *
    have h13 : w3.heap.size ≤ w4.heap.size := k4.size
    have HG13 : Hid (col w4.heap.size = 0) := Lib.hid (cols_new HE3.out.cols h13)
    generalize w4.heap.size = g13 at *
    have HK5 := Lib.hid (k4.trans kB)
    have HB13 := Lib.hid hb13
    have HA5 := Lib.hid (HA3.out.keep HK5.out)
    have HE5 := Lib.hid (HE3.out.trans (Ext.quiet HE3.out.cols HK5.out))
    have HO4 : Hid (Kp Noone W w5) := Lib.hid (HK1.out.trans (HE5.out.kp.mono (fun j _ c => absurd rfl c)))
    have HO5 : Hid (Kp Noone w1 w5) := Lib.hid (HE5.out.kp.mono (fun j _ c => absurd rfl c))
    have hb4 := HO5.out.heap HB1.out id
    obtain ⟨u0, u1⟩ := cells_2v hb4
    clear k4 kB hb13 h13 hb4
    have hpp := prep_a w1.heap.size col w5 p ql q s l a ⟨rd, nd⟩ fr9 5000 HA5.out HE5.out.cols HE5.out.size HL.out (by decide) HI.out.ok (Nat.le_trans (HI.out.ok.len HI.out.win) (by decide))
    obtain ⟨o, ho⟩ : ∃ o, Hid (prepA s l a ⟨rd, nd⟩ fr9 = o) := ⟨_, Lib.hid rfl⟩
    have HPO := Lib.hid (prep_out s l a ⟨rd, nd⟩ fr9)
    have HIO := Lib.hid (HI.out.prep s l ⟨rd, nd⟩ fr9)
    rw [ho.out] at hpp HPO HIO
    simp only [] at hpp
    go_wp2_with fail
    refine hpp.mono ?_
    clear hpp u0 u1
    rintro e w6 ⟨⟨col6, vo9, vc9, m9, rfl, he, hA6, hmsg⟩, -⟩
    unfold msgCs
    have hz0 := heap_alloc_new w6 (.cells #[.int .i64 0, .int .i64 0, .int .i64 0, .int .i64 0, .int .i64 0, .int .i64 0, .int .i64 0, .int .i64 0, .int .i64 0, .int .i64 0, .slice none 0 0, .slice none 0 0, .slice none 0 0, .int .i64 0, .int .i64 0, .int .i64 0, .int .i64 0, .int .i64 0, .int .i64 0, .int .i64 0, .int .i64 0, .int .i64 0, .int .i64 0, .int .i64 0, .slice none 0 0] 46)
    have hst : (stM (.pointer (some ⟨w6.heap.size, 0, none⟩)) (.agg #[.int .i64 o.m.kind, .int .i64 0, .int .i64 0, .int .i64 o.m.epoch, .int .i64 o.m.bal.round, .int .i64 o.m.bal.node, .int .i64 o.m.slot, .int .i64 o.m.low, .int .i64 0, .int .i64 o.m.val.kind, .slice m9.co o.m.val.cmds.length m9.cc, .slice m9.no o.m.val.next.length m9.nc, .slice vo9 o.m.votes.length vc9, .int .i64 0, .int .i64 0, .int .i64 0, .int .i64 0, .int .i64 0, .int .i64 0, .int .i64 0, .int .i64 0, .int .i64 0, .int .i64 0, .int .i64 0, .slice none 0 0])).run Tryz.prog (w6.alloc (.cells #[.int .i64 0, .int .i64 0, .int .i64 0, .int .i64 0, .int .i64 0, .int .i64 0, .int .i64 0, .int .i64 0, .int .i64 0, .int .i64 0, .slice none 0 0, .slice none 0 0, .slice none 0 0, .int .i64 0, .int .i64 0, .int .i64 0, .int .i64 0, .int .i64 0, .int .i64 0, .int .i64 0, .int .i64 0, .int .i64 0, .int .i64 0, .int .i64 0, .slice none 0 0] 46)) = .ok () (putM (w6.alloc (.cells #[.int .i64 0, .int .i64 0, .int .i64 0, .int .i64 0, .int .i64 0, .int .i64 0, .int .i64 0, .int .i64 0, .int .i64 0, .int .i64 0, .slice none 0 0, .slice none 0 0, .slice none 0 0, .int .i64 0, .int .i64 0, .int .i64 0, .int .i64 0, .int .i64 0, .int .i64 0, .int .i64 0, .int .i64 0, .int .i64 0, .int .i64 0, .int .i64 0, .slice none 0 0] 46)) w6.heap.size #[.int .i64 o.m.kind, .int .i64 0, .int .i64 0, .int .i64 o.m.epoch, .int .i64 o.m.bal.round, .int .i64 o.m.bal.node, .int .i64 o.m.slot, .int .i64 o.m.low, .int .i64 0, .int .i64 o.m.val.kind, .slice m9.co o.m.val.cmds.length m9.cc, .slice m9.no o.m.val.next.length m9.nc, .slice vo9 o.m.votes.length vc9, .int .i64 0, .int .i64 0, .int .i64 0, .int .i64 0, .int .i64 0, .int .i64 0, .int .i64 0, .int .i64 0, .int .i64 0, .int .i64 0, .int .i64 0, .slice none 0 0]) := run_store_msg _ _ (by simp [Value.oneCell']) rfl hz0 rfl
    have hb14 := putM_heap (cs := #[.int .i64 o.m.kind, .int .i64 0, .int .i64 0, .int .i64 o.m.epoch, .int .i64 o.m.bal.round, .int .i64 o.m.bal.node, .int .i64 o.m.slot, .int .i64 o.m.low, .int .i64 0, .int .i64 o.m.val.kind, .slice m9.co o.m.val.cmds.length m9.cc, .slice m9.no o.m.val.next.length m9.nc, .slice vo9 o.m.votes.length vc9, .int .i64 0, .int .i64 0, .int .i64 0, .int .i64 0, .int .i64 0, .int .i64 0, .int .i64 0, .int .i64 0, .int .i64 0, .int .i64 0, .int .i64 0, .slice none 0 0]) hz0 rfl
    have kX : Kp Noone w6 (putM (w6.alloc (.cells #[.int .i64 0, .int .i64 0, .int .i64 0, .int .i64 0, .int .i64 0, .int .i64 0, .int .i64 0, .int .i64 0, .int .i64 0, .int .i64 0, .slice none 0 0, .slice none 0 0, .slice none 0 0, .int .i64 0, .int .i64 0, .int .i64 0, .int .i64 0, .int .i64 0, .int .i64 0, .int .i64 0, .int .i64 0, .int .i64 0, .int .i64 0, .int .i64 0, .slice none 0 0] 46)) w6.heap.size #[.int .i64 o.m.kind, .int .i64 0, .int .i64 0, .int .i64 o.m.epoch, .int .i64 o.m.bal.round, .int .i64 o.m.bal.node, .int .i64 o.m.slot, .int .i64 o.m.low, .int .i64 0, .int .i64 o.m.val.kind, .slice m9.co o.m.val.cmds.length m9.cc, .slice m9.no o.m.val.next.length m9.nc, .slice vo9 o.m.votes.length vc9, .int .i64 0, .int .i64 0, .int .i64 0, .int .i64 0, .int .i64 0, .int .i64 0, .int .i64 0, .int .i64 0, .int .i64 0, .int .i64 0, .int .i64 0, .slice none 0 0]) := ((Kp.refl Noone w6).alloc (.cells #[.int .i64 0, .int .i64 0, .int .i64 0, .int .i64 0, .int .i64 0, .int .i64 0, .int .i64 0, .int .i64 0, .int .i64 0, .int .i64 0, .slice none 0 0, .slice none 0 0, .slice none 0 0, .int .i64 0, .int .i64 0, .int .i64 0, .int .i64 0, .int .i64 0, .int .i64 0, .int .i64 0, .int .i64 0, .int .i64 0, .int .i64 0, .int .i64 0, .slice none 0 0] 46)).fin (putM_kp _) (fun j d => Or.inr (by omega))
    clear hz0
    go_upto_region 19 with fail
    clear hst
    generalize putM (w6.alloc (.cells #[.int .i64 0, .int .i64 0, .int .i64 0, .int .i64 0, .int .i64 0, .int .i64 0, .int .i64 0, .int .i64 0, .int .i64 0, .int .i64 0, .slice none 0 0, .slice none 0 0, .slice none 0 0, .int .i64 0, .int .i64 0, .int .i64 0, .int .i64 0, .int .i64 0, .int .i64 0, .int .i64 0, .int .i64 0, .int .i64 0, .int .i64 0, .int .i64 0, .slice none 0 0] 46)) w6.heap.size #[.int .i64 o.m.kind, .int .i64 0, .int .i64 0, .int .i64 o.m.epoch, .int .i64 o.m.bal.round, .int .i64 o.m.bal.node, .int .i64 o.m.slot, .int .i64 o.m.low, .int .i64 0, .int .i64 o.m.val.kind, .slice m9.co o.m.val.cmds.length m9.cc, .slice m9.no o.m.val.next.length m9.nc, .slice vo9 o.m.votes.length vc9, .int .i64 0, .int .i64 0, .int .i64 0, .int .i64 0, .int .i64 0, .int .i64 0, .int .i64 0, .int .i64 0, .int .i64 0, .int .i64 0, .int .i64 0, .slice none 0 0] = w7 at *
    generalize w6.heap.size = g14 at *
    have HB14 := Lib.hid hb14
    have HA7 := Lib.hid (hA6.keep kX)
    have HB13 := Lib.hid (kX.heap (he.kp.heap HB13.out (by rw [HG13.out]; exact sx_zero)) id)
    have HE7 := Lib.hid ((HE5.out.trans (he.mono sx_ne)).trans (Ext.quiet (he.cols) kX))
    have HK7 : Hid (Kp Noone w1 w7) := Lib.hid (HE7.out.kp.mono (fun j _ c => absurd rfl c))
    have HB4 := Lib.hid (HK7.out.heap HB1.out id)
    have HMSG := Lib.hid hmsg
    have HKX := Lib.hid kX
    have HNW7 : Hid (VRow w7 vo fn vc M) := Lib.hid (by
      have h1 := (HNW.out.1.keep HK5.out).kp he.kp (fun j d e => by have d : col j = 0 := d; rw [d] at e; exact sx_zero e)
      refine VRow.own (h1.keep kX) (fun x hx => ?_)
      exact ((((HNW.out.2 x hx).keep HK5.out).kp he.kp (fun j d e => by have d : col j = 0 := d; rw [d] at e; exact sx_zero e)).keep kX).va)
    have HKW : Hid (∀ W', Kp Noone w7 W' → Kp Noone W W') := Lib.hid (fun W' kk => HK1.out.trans (HK7.out.trans kk))
    clear he hA6 hmsg hb14 kX HE3 HA3 HE5 HA5 HO5 HNW
    have hpr := fun W' (kk : Kp Noone w7 W') => promised_a col6 W' p ql q o.s o.l o.a (HA7.out.keep kk)
    obtain ⟨on, hon⟩ : ∃ n : Nat, Hid (o.e = n) := ⟨_, Lib.hid rfl⟩
    rcases HPO.out with ⟨he0, hvb, hbl, hoa, hom⟩ | ⟨he0, hbl, hoa, hom⟩ | ⟨hn0, hn6, hoa⟩
    · have HBL := Lib.hid hbl
      have HOA := Lib.hid hoa
      have hb14 := HB14.out
      have hmsg := HMSG.out
      rw [hom] at hb14 hmsg
      simp only [promM] at hb14
      have hlt : ((fromV a.votes fr9).take 64) = fromV a.votes fr9 := List.take_of_length_le (Nat.le_trans (List.length_filter_le _ _) (HI.out.ok.len HI.out.win))
      rw [hlt, HFN.out] at hb14
      obtain ⟨⟨M9, D9, hM9, hown9, hval9⟩, -⟩ := hmsg
      simp only [promM] at hM9 hown9
      rw [hlt] at hM9 hown9
      rw [HFN.out] at hown9
      have HV9 : Hid (VRow w7 vo9 fn vc9 M9) := Lib.hid (VRow.own (hown9.keep HKX.out) (fun x hx => ((hval9 x hx).keep HKX.out).at))
      have HM9 : Hid (M9.map (·.1) = M.map (·.1)) := Lib.hid (hM9.trans HM.out.symm)
      have HSM : Hid (Small9 M9) := Lib.hid (fun x hx => by
        have : x.1 ∈ fromV a.votes fr9 := by rw [← hM9]; exact List.mem_map_of_mem (f := (·.1)) hx
        have := HI.out.ok.small (List.mem_filter.1 this).1
        omega)
      have HB14 := Lib.hid hb14
      have hq0 : ((o.e : Int) != 0) = false := by rw [he0]; rfl
      have hfl := fun W' (kk : Kp Noone w7 W') => floor_a col6 W' p ql q o.s o.l o.a (HA7.out.keep kk)
      rw [hoa] at hpr hfl
      simp only [] at hpr hfl
      have hfn64 : fn ≤ 64 := by rw [← HFN.out]; exact Nat.le_trans (List.length_filter_le _ _) (HI.out.ok.len HI.out.win)
      clear hon he0 hvb hbl hoa hom hb14 hlt hM9 hown9 hval9 HMSG
      go_wp2_with fail
      go_loopw [106] (fun v106 wx => ∃ j : Nat, v106 = .int .i64 (j : Int) ∧ j ≤ fn ∧ Hid (Kp Noone w7 wx)) (fun u _ => (4194305 - intOf u).toNat)
      case atStart => exact ⟨0, rfl, Nat.zero_le _, Lib.hid (Kp.refl _ _)⟩
      case round =>
        obtain ⟨j, rfl, hj, hkj⟩ := hrel
        by_cases hlt : j < fn
        · have hltz : (j : Int) < (fn : Int) := by omega
          have hwj : IntKind.i64.wrap ((j : Int) + 1) = (j : Int) + 1 := IntWalk.i64_in _ (by omega)
          obtain ⟨b1, o1, l1, e1, -, -⟩ := HNW7.out.at hlt
          have HC1 : Hid (∀ W', Kp Noone w7 W' → Cells6o W' b1 (o1 + j * 6) M[j]) := Lib.hid (fun W' kk => by
            obtain ⟨b, o, l, e, c, -⟩ := (HNW7.out.keep kk).at hlt
            rw [e1] at e
            cases e
            exact c)
          have hmem : M[j].1 ∈ fromV a.votes fr9 := by rw [← HM.out]; exact List.mem_map_of_mem (f := (·.1)) (List.getElem_mem l1)
          have hge : fr9 ≤ M[j].1.slot := by simpa using (List.mem_filter.1 hmem).2
          have hbel : belowB ⟨rd, nd⟩ M[j].1.bal = false := belowB_ge HBL.out (HI.out.ok.vs _ (List.mem_filter.1 hmem).1).2.2.2.2.2
          generalize M[j] = x at *
          obtain ⟨⟨sx, ⟨rx, dx⟩, vx⟩, mx⟩ := x
          simp only [] at HC1 hge hbel
          have hbw := fun W' => below_any ⟨rd, nd⟩ ⟨rx, dx⟩ W'
          rw [hbel] at hbw
          simp only [] at hbw
          have hge2 : ¬ sx < fr9 := by omega
          subst e1
          have HSC : Hid (∀ W', Kp Noone w7 W' → (W'.cell? ⟨b1, o1 + j * 6, none⟩ = some (.int .i64 sx) ∧ W'.cell? ⟨b1, o1 + j * 6 + 1, none⟩ = some (.int .i64 rx) ∧ W'.cell? ⟨b1, o1 + j * 6 + 2, none⟩ = some (.int .i64 dx)) ∧ W'.cell? ⟨g4, 0, none⟩ = some (.int .i64 rd) ∧ W'.cell? ⟨g4, 1, none⟩ = some (.int .i64 nd)) := Lib.hid (fun W' kk => by
            obtain ⟨x0, x1, x2, x3, x4, x5⟩ := HC1.out W' kk
            exact ⟨⟨x0, x1, x2⟩, cells_2v (kk.heap HB4.out id)⟩)
          have kd : Kp Noone wr wr.drew := (Kp.refl _ _).drew
          have hS1 := HSC.out _ (hkj.out.trans kd)
          clear hmem hge hbel l1 hpr hfl
          go_upto_region 24 with fail
          obtain ⟨⟨x0, x1, x2⟩, y0, y1⟩ := HSC.out _ (hkj.out.trans kd)
          go_region_held3 (fun W' => (W'.cell? ⟨b1, o1 + j * 6, none⟩ = some (.int .i64 sx) ∧ W'.cell? ⟨b1, o1 + j * 6 + 1, none⟩ = some (.int .i64 rx) ∧ W'.cell? ⟨b1, o1 + j * 6 + 2, none⟩ = some (.int .i64 dx)) ∧ W'.cell? ⟨g4, 0, none⟩ = some (.int .i64 rd) ∧ W'.cell? ⟨g4, 1, none⟩ = some (.int .i64 nd))
            (first | with_reducible exact hS1 | with_reducible exact hS2)
            (first | (go_at_call 17; refine (hbw _).mono ?_; rintro e w8 ⟨rfl, k8⟩; have hS2 := HSC.out _ (hkj.out.trans (kd.trans k8))))
          have HKN := Lib.hid (hkj.out.trans (kd.trans k8))
          clear hS1 hS2 kd k8 hbw x0 x1 x2 y0 y1 hkj
          go_wp2_with fail
          go_roundw
          case rel => exact ⟨j + 1, rfl, hlt, HKN⟩
          case measure => exact meas_small j fn hlt (by omega)
        · have hsv := fun W' (kk : Kp Noone w7 W') => sameVotes_any vo9 vo fn fn vc9 vc M9 M W' (HV9.out.keep kk) (HNW7.out.keep kk) HSM.out (by omega)
          rw [decide_eq_true HM9.out] at hsv
          have HSC : Hid (∀ W', Kp Noone w7 W' → (W'.cell? ⟨g14, 4, none⟩ = some (.int .i64 rd) ∧ W'.cell? ⟨g14, 5, none⟩ = some (.int .i64 nd)) ∧ (W'.cell? ⟨g14, 6, none⟩ = some (.int .i64 fr9) ∧ W'.cell? ⟨g14, 7, none⟩ = some (.int .i64 a.floor) ∧ W'.cell? ⟨g14, 12, none⟩ = some (.slice vo9 fn vc9)) ∧ W'.cell? ⟨g4, 0, none⟩ = some (.int .i64 rd) ∧ W'.cell? ⟨g4, 1, none⟩ = some (.int .i64 nd)) := Lib.hid (fun W' kk => by
            have h := kk.heap HB14.out id
            exact ⟨⟨cell_of_row _ g14 4 _ _ (0, 0) h, cell_of_row _ g14 5 _ _ (0, 0) h⟩, ⟨cell_of_row _ g14 6 _ _ (0, 0) h, cell_of_row _ g14 7 _ _ (0, 0) h, cell_of_row _ g14 12 _ _ (0, 0) h⟩, cells_2v (kk.heap HB4.out id)⟩)
          have kd : Kp Noone w7 wr.drew := hkj.out.trans ((Kp.refl _ _).drew)
          have hS1 := HSC.out _ kd
          have hltz : ¬ (j : Int) < (fn : Int) := by omega
          go_upto_region 27 with fail
          obtain ⟨⟨x0, x1⟩, ⟨x2, x3, x4⟩, y0, y1⟩ := HSC.out _ kd
          go_region_held3 (fun W' => (W'.cell? ⟨g14, 4, none⟩ = some (.int .i64 rd) ∧ W'.cell? ⟨g14, 5, none⟩ = some (.int .i64 nd)) ∧ (W'.cell? ⟨g14, 6, none⟩ = some (.int .i64 fr9) ∧ W'.cell? ⟨g14, 7, none⟩ = some (.int .i64 a.floor) ∧ W'.cell? ⟨g14, 12, none⟩ = some (.slice vo9 fn vc9)) ∧ W'.cell? ⟨g4, 0, none⟩ = some (.int .i64 rd) ∧ W'.cell? ⟨g4, 1, none⟩ = some (.int .i64 nd))
            (first | with_reducible exact hS1 | with_reducible exact hS2 | with_reducible exact hS3 | with_reducible exact hS4)
            (first
              | (go_at_call 18; refine (hsv _ kd).mono ?_; rintro e w8 ⟨rfl, k8⟩; have k8 := kd.trans k8; have hS2 := HSC.out _ k8)
              | (go_at_call 19; refine (hfl _ k8).mono ?_; rintro e w9 ⟨rfl, k9⟩; have k9 : Kp Noone w7 w9 := k9 ▸ k8; have hS3 := HSC.out _ k9)
              | (go_at_call 16; refine (hpr _ k9).mono ?_; rintro e wz ⟨rfl, kz⟩; have kz := k9.trans kz; have hS4 := HSC.out _ kz))
          have HKZ := Lib.hid (HKW.out _ kz)
          clear hS1 hS2 hS3 hS4 kd k8 k9 kz hsv hfl hpr x0 x1 x2 x3 x4 y0 y1
          go_wp2_with fail
          go_ret
          exact ⟨rfl, HKZ.out⟩
    · have hm := hom
      have hb14 := HB14.out
      rw [hm] at hb14
      simp only [nackM] at hb14
      have HB14 := Lib.hid hb14
      have hq0 : ((o.e : Int) != 0) = true := by rw [he0]; rfl
      have hq6 : ((o.e : Int) != 60) = false := by rw [he0]; rfl
      rw [hoa] at hpr
      have hbw := fun W' => below_any ⟨rd, nd⟩ a.prom W'
      rw [hbl] at hbw
      simp only [] at hbw
      have HSB : Hid (∀ W', Kp Noone w7 W' → (W'.cell? ⟨g13, 0, none⟩ = some (.int .i64 a.prom.round) ∧ W'.cell? ⟨g13, 1, none⟩ = some (.int .i64 a.prom.node)) ∧ (W'.cell? ⟨g14, 4, none⟩ = some (.int .i64 a.prom.round) ∧ W'.cell? ⟨g14, 5, none⟩ = some (.int .i64 a.prom.node)) ∧ W'.cell? ⟨g4, 0, none⟩ = some (.int .i64 rd) ∧ W'.cell? ⟨g4, 1, none⟩ = some (.int .i64 nd)) := Lib.hid (fun W' kk => by
        have h := kk.heap HB14.out id
        exact ⟨cells_2v (kk.heap HB13.out id), ⟨cell_of_row _ g14 4 _ _ (0, 0) h, cell_of_row _ g14 5 _ _ (0, 0) h⟩, cells_2v (kk.heap HB4.out id)⟩)
      clear hon he0 hbl hoa hom hm hb14
      have kd : Kp Noone w7 w7.drew := (Kp.refl _ _).drew
      have hS1 := HSB.out _ kd
      have hpd := hpr _ kd
      go_upto_region 20 with fail
      obtain ⟨⟨x0, x1⟩, ⟨x2, x3⟩, x4, x5⟩ := HSB.out _ kd
      go_region_held3 (fun W' => (W'.cell? ⟨g13, 0, none⟩ = some (.int .i64 a.prom.round) ∧ W'.cell? ⟨g13, 1, none⟩ = some (.int .i64 a.prom.node)) ∧ (W'.cell? ⟨g14, 4, none⟩ = some (.int .i64 a.prom.round) ∧ W'.cell? ⟨g14, 5, none⟩ = some (.int .i64 a.prom.node)) ∧ W'.cell? ⟨g4, 0, none⟩ = some (.int .i64 rd) ∧ W'.cell? ⟨g4, 1, none⟩ = some (.int .i64 nd))
        (first | with_reducible exact hS1 | with_reducible exact hS2 | with_reducible exact hS3)
        (first
          | (go_at_call 16; refine hpd.mono ?_; rintro e w8 ⟨rfl, k8⟩; have kk := kd.trans k8; have hS2 := HSB.out _ kk)
          | (go_at_call 17; refine (hbw _).mono ?_; rintro e w9 ⟨rfl, k9⟩; have kz := kk.trans k9; have hS3 := HSB.out _ kz))
      have HKZ := Lib.hid (HKW.out _ kz)
      clear hS1 hS2 hS3 kd kk kz k8 k9 hpd hpr hbw x0 x1 x2 x3 x4 x5
      go_wp2_with fail
      go_ret
      exact ⟨rfl, HKZ.out⟩
    · have hq0 : ((o.e : Int) != 0) = true := by simp only [bne_iff_ne, ne_eq]; omega
      have hq6 : ((o.e : Int) != 60) = true := by simp only [bne_iff_ne, ne_eq]; omega
      rw [hoa] at hpr
      clear hon hoa hn0 hn6
      have kd : Kp Noone w7 w7.drew := (Kp.refl _ _).drew
      have hpd := hpr _ kd
      go_upto_region 20 with fail
      obtain ⟨x0, x1⟩ := cells_2v (kd.heap HB13.out id)
      have hund : undef = Value.tuple #[] := rfl
      apply wp_region_0 (G := fun wz => Kp Noone w7 wz)
      case h =>
        first | (go_region_law (first | (go_simp; go_at_call 16; refine hpd.mono ?_; rintro e w8 ⟨rfl, k8⟩; have kk := kd.trans k8; obtain ⟨z0, z1⟩ := cells_2v (kk.heap HB13.out id)))) | fail
        all_goals exact NoPanic.normal ⟨rfl, rfl, kk⟩
      case k =>
        intro wz kz
        have HKZ := Lib.hid (HKW.out _ kz)
        clear hpd hpr x0 x1 kd kz hund
        go_wp2_with fail
        go_ret
        exact ⟨rfl, HKZ.out⟩

end Go.Proofs.YtgbgbokcohfnpaaGreat

/-
  AcceptorTells: the walk, of any input.
-/
namespace Go.Proofs.YtgbgbokcohfnpaaGreat
open Go.RowKit Go.ChangeShapes Go.WideShapes Go.ChangeAt

set_option maxRecDepth 100000 in
theorem acceptorTells_core {H : Type} {enc : TypeId × Value → H} (W : World) (base : Nat) (v0 : Value) (d0 : DataW H) (p0 : List MemPlace) (v1 : Value) (d1 : DataW H) (p1 : List MemPlace) (v2 : Value) (d2 : DataW H) (p2 : List MemPlace)
    (h0 : DataW.Trod enc Tryz.prog W 0 (fun _ => true) true 22 v0 d0 p0) (h1 : DataW.Trod enc Tryz.prog W 0 (fun _ => true) true 24 v1 d1 p1) (h2 : DataW.Trod enc Tryz.prog W 0 (fun _ => true) true 3 v2 d2 p2)
    (g0 : Value.okWide Tryz.prog W .any base 22 v0) (g1 : Value.okWide Tryz.prog W .any base 24 v1) (g2 : Value.okWide Tryz.prog W .any base 3 v2)
    (w0 : ∀ n ∈ d0.weights Tryz.prog 22, n ≤ reachBytes) (_ : ∀ n ∈ d1.weights Tryz.prog 24, n ≤ reachBytes) (_ : ∀ n ∈ d2.weights Tryz.prog 3, n ≤ reachBytes) :
    Calls Tryz.prog 3 #[v0, v1, v2] W fun e w' => e = .returned (.bool true) ∧ Kp Noone W w' := by
  obtain ⟨ao, n, cap, ps, rfl, hps⟩ := arg_opA h0 g0 w0
  obtain ⟨b, rfl⟩ := arg_bal h1 g1
  obtain ⟨f, rfl, -⟩ := arg_int h2 g2
  exact tells_of th0.1 th0.2.1 th_open ao n cap ps b f W hps

end Go.Proofs.YtgbgbokcohfnpaaGreat
