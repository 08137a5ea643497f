/-
  The texts LawY in one: what the claim reaches of them.
-/
import Derived.Test.YtgbgbokcohfnpaaGreatQ30
/-
  An acceptor in a law's walk, and beside it what the law keeps in memory of its own (R).
-/
namespace Go.Proofs.YtgbgbokcohfnpaaGreat
open Go.RowKit

/-- What the acceptor's calls leave alone. -/
def StabX (B : Nat) (R : (Nat → Nat) → World → Prop) : Prop := ∀ col w col' w', Ext B SX col w col' w' → R col w → R col' w'
structure LawY (W : World) (p ql q : Nat) (s : DS) (l : LogP) (a : AcS) (K : Nat) (bs : List (Nat × Obj)) (R : (Nat → Nat) → World → Prop) (col : Nat → Nat) (wx : World) : Prop where
  ext : Ext W.heap.size (fun c => c ≠ 0) (fun _ => 0) W col wx
  ac : AcL col wx p ql q s l a
  box : ∀ x ∈ bs, wx.heap[x.1]? = some x.2 ∧ col x.1 = 0
  own : R col wx
  stab : StabX W.heap.size R
  inv : AInv a
  li : LI K s l
section
variable {W : World} {p ql q : Nat} {s : DS} {l : LogP} {a : AcS} {K : Nat} {bs : List (Nat × Obj)} {R : (Nat → Nat) → World → Prop} {col : Nat → Nat} {wx : World}
theorem LawY.old (h : LawY W p ql q s l a K bs R col wx) : Kp Noone W wx := h.ext.kp.mono (fun _ _ c => absurd rfl c)
theorem LawY.cell9 (h : LawY W p ql q s l a K bs R col wx) {x : Nat × Obj} (hx : x ∈ bs) : wx.heap[x.1]? = some x.2 := (h.box x hx).1
theorem LawY.keep {w' : World} (h : LawY W p ql q s l a K bs R col wx) (k : Kp Noone wx w') : LawY W p ql q s l a K bs R col w' :=
  ⟨h.ext.trans (Ext.quiet h.ext.cols k), h.ac.keep k, fun x hx => ⟨k.heap (h.box x hx).1 id, (h.box x hx).2⟩, h.stab _ _ _ _ (Ext.quiet h.ext.cols k) h.own, h.stab, h.inv, h.li⟩
theorem LawY.mono {K' : Nat} (h : LawY W p ql q s l a K bs R col wx) (hk : K ≤ K') : LawY W p ql q s l a K' bs R col wx := ⟨h.ext, h.ac, h.box, h.own, h.stab, h.inv, h.li.mono hk⟩
theorem LawY.less {bs' : List (Nat × Obj)} (h : LawY W p ql q s l a K bs R col wx) (hb : ∀ x ∈ bs', x ∈ bs) : LawY W p ql q s l a K bs' R col wx := ⟨h.ext, h.ac, fun x hx => h.box x (hb x hx), h.own, h.stab, h.inv, h.li⟩
theorem LawY.boxed (h : LawY W p ql q s l a K bs R col wx) (o : Obj) : LawY W p ql q s l a K ((wx.heap.size, o) :: bs) R col (wx.alloc o) := by
  have h1 := h.keep ((Kp.refl Noone wx).alloc o)
  refine ⟨h1.ext, h1.ac, fun x hx => ?_, h1.own, h1.stab, h1.inv, h1.li⟩
  rcases List.mem_cons.1 hx with rfl | hx
  · exact ⟨heap_alloc_new wx o, cols_new h.ext.cols (Nat.le_refl _)⟩
  · exact h1.box x hx
/-- The law's own memory is written. -/
theorem LawY.put {R' : (Nat → Nat) → World → Prop} {F : Nat → Prop} {w' : World} (h : LawY W p ql q s l a K bs R col wx) (k : Kp F wx w') (hF : ∀ j, F j → W.heap.size ≤ j ∧ col j = 0) (hb : ∀ x ∈ bs, ¬ F x.1) (hr : R' col w') (hs : StabX W.heap.size R') : LawY W p ql q s l a K bs R' col w' :=
  ⟨⟨h.ext.cols.keep k.size, h.ext.old, h.ext.fresh, h.ext.kp.fin k (fun j d => Or.inr (hF j d).1)⟩,
    h.ac.ext_z h.ext.cols ⟨h.ext.cols.keep k.size, fun _ _ => rfl, fun j hj hn => by have := h.ext.cols j hn; omega, k.mono (fun j _ d => (hF j d).2)⟩,
    fun x hx => ⟨k.heap (h.box x hx).1 (hb x hx), (h.box x hx).2⟩, hr, hs, h.inv, h.li⟩
theorem LawY.step {s' : DS} {l' : LogP} {a' : AcS} {K' : Nat} {w' : World} {col' : Nat → Nat} (h : LawY W p ql q s l a K bs R col wx) (e : Ext W.heap.size SX col wx col' w') (ha : AcL col' w' p ql q s' l' a') (hi : AInv a') (hl : LI K' s' l') : LawY W p ql q s' l' a' K' bs R col' w' :=
  ⟨h.ext.trans (e.mono sx_ne), ha, fun x hx => by
    obtain ⟨b1, b2⟩ := h.box x hx
    exact ⟨e.kp.heap b1 (by rw [b2]; exact sx_zero), (e.old x.1 (Array.getElem?_eq_some_iff.1 b1).1).trans b2⟩, h.stab _ _ _ _ e h.own, h.stab, hi, hl⟩
/-- What a call that answers a message leaves. -/
structure LMsgY (W : World) (p ql q : Nat) (o : AO) (K : Nat) (bs : List (Nat × Obj)) (R : (Nat → Nat) → World → Prop) (wx : World) (e : Ending) (w' : World) : Prop where
  ex : ∃ (col' : Nat → Nat) (vo : Option Addr) (vc : Nat) (m : VLoc), LawY W p ql q o.s o.l o.a K bs R col' w' ∧ e = .returned (.tuple #[.agg (msgCs o.m vo vc m), .int .i64 (o.e : Int)]) ∧ MsgAt (fun j => wx.heap.size ≤ j ∧ col' j = 0) w' o.m vo vc m
  size : wx.heap.size ≤ w'.heap.size
attribute [local irreducible] prepA accA raiseO enterO
theorem LawY.prepare (h : LawY W p ql q s l a K bs R col wx) (hK : K ≤ 80000) (b : BalR) (f : Int) :
    Calls Tryz.prog 11 #[.pointer (some ⟨q, 0, none⟩), .agg #[.int .i64 b.round, .int .i64 b.node], .int .i64 f] wx fun e w' => LMsgY W p ql q (prepA s l a b f) (K + 70) bs R wx e w' := by
  refine (prep_a W.heap.size col wx p ql q s l a b f K h.ac h.ext.cols h.ext.size h.li hK h.inv.ok (Nat.le_trans (h.inv.ok.len h.inv.win) (by decide))).mono ?_
  rintro e w' ⟨⟨col', vo, vc, m, rfl, he, ha2, hm⟩, hl2⟩
  exact ⟨⟨col', vo, vc, m, h.step he ha2 (h.inv.prep s l b f) (hl2.mono (by omega)), rfl, hm⟩, he.size⟩
theorem LawY.accept (h : LawY W p ql q s l a K bs R col wx) (hK : K ≤ 80000) (b : BalR) (sl : Int) (v : ValR) (m : VLoc) (hv : ValC (fun j => col j = 0) wx v m) (h1 : v.cmds.length ≤ 140737488351232) (h2 : v.next.length ≤ 140737488351232) :
    Calls Tryz.prog 12 #[.pointer (some ⟨q, 0, none⟩), .agg #[.int .i64 b.round, .int .i64 b.node], .int .i64 sl, valV v m] wx fun e w' => LMsgY W p ql q (accA s l a b sl v) (K + 70) bs R wx e w' := by
  refine (acc_a W.heap.size col wx p ql q s l a b sl v m K h.ac h.ext.cols h.ext.size h.li hK h.inv.ok hv h1 h2).mono ?_
  rintro e w' ⟨⟨col', vo, vc, m2, rfl, he, ha2, hm⟩, hl2⟩
  exact ⟨⟨col', vo, vc, m2, h.step he ha2 (h.inv.acc s l b sl v) (hl2.mono (by omega)), rfl, hm⟩, he.size⟩
theorem LawY.raised (h : LawY W p ql q s l a K bs R col wx) (hK : K ≤ 80000) (f : Int) :
    Calls Tryz.prog 14 #[.pointer (some ⟨q, 0, none⟩), .int .i64 f] wx fun e w' => e = .returned (.int .i64 ((raiseO s l a f).e : Int)) ∧ ∃ col', LawY W p ql q (raiseO s l a f).s (raiseO s l a f).l (raiseO s l a f).a (K + 70) bs R col' w' ∧ wx.heap.size ≤ w'.heap.size := by
  have hlen := h.inv.ok.len h.inv.win
  refine (raiseO_a W.heap.size col wx p ql q s l a f K h.ac h.ext.cols h.ext.size h.li hK h.inv.ok (by omega)).mono ?_
  rintro e w' ⟨⟨col', rfl, he, ha2⟩, hl2⟩
  exact ⟨rfl, col', h.step he ha2 (h.inv.raise s l f) (hl2.mono (by omega)), he.size⟩
theorem LawY.entered (h : LawY W p ql q s l a K bs R col wx) (hK : K ≤ 80000) (ep f : Int) :
    Calls Tryz.prog 28 #[.pointer (some ⟨q, 0, none⟩), .int .i64 ep, .int .i64 f] wx fun e w' => e = .returned (.int .i64 ((enterO s l a ep f).e : Int)) ∧ ∃ col', LawY W p ql q (enterO s l a ep f).s (enterO s l a ep f).l (enterO s l a ep f).a (K + 70) bs R col' w' ∧ wx.heap.size ≤ w'.heap.size := by
  refine (enterO_a W.heap.size col wx p ql q s l a ep f K h.ac h.ext.cols h.ext.size h.li hK h.inv.ok.ep.1).mono ?_
  rintro e w' ⟨⟨col', rfl, he, ha2⟩, hl2⟩
  exact ⟨rfl, col', h.step he ha2 (h.inv.enter s l ep f) (hl2.mono (by omega)), he.size⟩
end

end Go.Proofs.YtgbgbokcohfnpaaGreat
