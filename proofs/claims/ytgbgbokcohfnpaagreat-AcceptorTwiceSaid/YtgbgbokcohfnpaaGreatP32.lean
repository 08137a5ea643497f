/-
  The texts LawY, KnowP, DomP, StnP in one: what the claim reaches of them.
-/
import Derived.Test.YtgbgbokcohfnpaaGreatP31
import Derived.Test.YtgbgbokcohfnpaaGreatP29
import Derived.Test.YtgbgbokcohfnpaaGreatP19
/-
  An acceptor in a law's walk, and beside it what the law keeps in memory of its own (R).
-/
namespace Go.Proofs.YtgbgbokcohfnpaaGreat
open Go.RowKit

/-- What the acceptor's calls leave alone. -/
def StabX (B : Nat) (R : (Nat → Nat) → World → Prop) : Prop := ∀ col w col' w', Ext B SX col w col' w' → R col w → R col' w'
structure LawY (W : World) (p ql q : Nat) (s : DS) (l : LogP) (a : AcS) (K : Nat) (bs : List (Nat × Obj)) (R : (Nat → Nat) → World → Prop) (col : Nat → Nat) (wx : World) : Prop where
  ext : Ext W.heap.size (fun c => c ≠ 0) (fun _ => 0) W col wx
  ac : AcL col wx p ql q s l a
  box : ∀ x ∈ bs, wx.heap[x.1]? = some x.2 ∧ col x.1 = 0
  own : R col wx
  stab : StabX W.heap.size R
  inv : AInv a
  li : LI K s l
section
variable {W : World} {p ql q : Nat} {s : DS} {l : LogP} {a : AcS} {K : Nat} {bs : List (Nat × Obj)} {R : (Nat → Nat) → World → Prop} {col : Nat → Nat} {wx : World}
theorem LawY.old (h : LawY W p ql q s l a K bs R col wx) : Kp Noone W wx := h.ext.kp.mono (fun _ _ c => absurd rfl c)
theorem LawY.cell9 (h : LawY W p ql q s l a K bs R col wx) {x : Nat × Obj} (hx : x ∈ bs) : wx.heap[x.1]? = some x.2 := (h.box x hx).1
theorem LawY.keep {w' : World} (h : LawY W p ql q s l a K bs R col wx) (k : Kp Noone wx w') : LawY W p ql q s l a K bs R col w' :=
  ⟨h.ext.trans (Ext.quiet h.ext.cols k), h.ac.keep k, fun x hx => ⟨k.heap (h.box x hx).1 id, (h.box x hx).2⟩, h.stab _ _ _ _ (Ext.quiet h.ext.cols k) h.own, h.stab, h.inv, h.li⟩
theorem LawY.mono {K' : Nat} (h : LawY W p ql q s l a K bs R col wx) (hk : K ≤ K') : LawY W p ql q s l a K' bs R col wx := ⟨h.ext, h.ac, h.box, h.own, h.stab, h.inv, h.li.mono hk⟩
theorem LawY.less {bs' : List (Nat × Obj)} (h : LawY W p ql q s l a K bs R col wx) (hb : ∀ x ∈ bs', x ∈ bs) : LawY W p ql q s l a K bs' R col wx := ⟨h.ext, h.ac, fun x hx => h.box x (hb x hx), h.own, h.stab, h.inv, h.li⟩
theorem LawY.boxed (h : LawY W p ql q s l a K bs R col wx) (o : Obj) : LawY W p ql q s l a K ((wx.heap.size, o) :: bs) R col (wx.alloc o) := by
  have h1 := h.keep ((Kp.refl Noone wx).alloc o)
  refine ⟨h1.ext, h1.ac, fun x hx => ?_, h1.own, h1.stab, h1.inv, h1.li⟩
  rcases List.mem_cons.1 hx with rfl | hx
  · exact ⟨heap_alloc_new wx o, cols_new h.ext.cols (Nat.le_refl _)⟩
  · exact h1.box x hx
/-- The law's own memory is written. -/
theorem LawY.put {R' : (Nat → Nat) → World → Prop} {F : Nat → Prop} {w' : World} (h : LawY W p ql q s l a K bs R col wx) (k : Kp F wx w') (hF : ∀ j, F j → W.heap.size ≤ j ∧ col j = 0) (hb : ∀ x ∈ bs, ¬ F x.1) (hr : R' col w') (hs : StabX W.heap.size R') : LawY W p ql q s l a K bs R' col w' :=
  ⟨⟨h.ext.cols.keep k.size, h.ext.old, h.ext.fresh, h.ext.kp.fin k (fun j d => Or.inr (hF j d).1)⟩,
    h.ac.ext_z h.ext.cols ⟨h.ext.cols.keep k.size, fun _ _ => rfl, fun j hj hn => by have := h.ext.cols j hn; omega, k.mono (fun j _ d => (hF j d).2)⟩,
    fun x hx => ⟨k.heap (h.box x hx).1 (hb x hx), (h.box x hx).2⟩, hr, hs, h.inv, h.li⟩
theorem LawY.step {s' : DS} {l' : LogP} {a' : AcS} {K' : Nat} {w' : World} {col' : Nat → Nat} (h : LawY W p ql q s l a K bs R col wx) (e : Ext W.heap.size SX col wx col' w') (ha : AcL col' w' p ql q s' l' a') (hi : AInv a') (hl : LI K' s' l') : LawY W p ql q s' l' a' K' bs R col' w' :=
  ⟨h.ext.trans (e.mono sx_ne), ha, fun x hx => by
    obtain ⟨b1, b2⟩ := h.box x hx
    exact ⟨e.kp.heap b1 (by rw [b2]; exact sx_zero), (e.old x.1 (Array.getElem?_eq_some_iff.1 b1).1).trans b2⟩, h.stab _ _ _ _ e h.own, h.stab, hi, hl⟩
/-- What a call that answers a message leaves. -/
structure LMsgY (W : World) (p ql q : Nat) (o : AO) (K : Nat) (bs : List (Nat × Obj)) (R : (Nat → Nat) → World → Prop) (wx : World) (e : Ending) (w' : World) : Prop where
  ex : ∃ (col' : Nat → Nat) (vo : Option Addr) (vc : Nat) (m : VLoc), LawY W p ql q o.s o.l o.a K bs R col' w' ∧ e = .returned (.tuple #[.agg (msgCs o.m vo vc m), .int .i64 (o.e : Int)]) ∧ MsgAt (fun j => wx.heap.size ≤ j ∧ col' j = 0) w' o.m vo vc m
  size : wx.heap.size ≤ w'.heap.size
attribute [local irreducible] prepA accA raiseO enterO
theorem LawY.prepare (h : LawY W p ql q s l a K bs R col wx) (hK : K ≤ 80000) (b : BalR) (f : Int) :
    Calls Tryz.prog 11 #[.pointer (some ⟨q, 0, none⟩), .agg #[.int .i64 b.round, .int .i64 b.node], .int .i64 f] wx fun e w' => LMsgY W p ql q (prepA s l a b f) (K + 70) bs R wx e w' := by
  refine (prep_a W.heap.size col wx p ql q s l a b f K h.ac h.ext.cols h.ext.size h.li hK h.inv.ok (Nat.le_trans (h.inv.ok.len h.inv.win) (by decide))).mono ?_
  rintro e w' ⟨⟨col', vo, vc, m, rfl, he, ha2, hm⟩, hl2⟩
  exact ⟨⟨col', vo, vc, m, h.step he ha2 (h.inv.prep s l b f) (hl2.mono (by omega)), rfl, hm⟩, he.size⟩
theorem LawY.accept (h : LawY W p ql q s l a K bs R col wx) (hK : K ≤ 80000) (b : BalR) (sl : Int) (v : ValR) (m : VLoc) (hv : ValC (fun j => col j = 0) wx v m) (h1 : v.cmds.length ≤ 140737488351232) (h2 : v.next.length ≤ 140737488351232) :
    Calls Tryz.prog 12 #[.pointer (some ⟨q, 0, none⟩), .agg #[.int .i64 b.round, .int .i64 b.node], .int .i64 sl, valV v m] wx fun e w' => LMsgY W p ql q (accA s l a b sl v) (K + 70) bs R wx e w' := by
  refine (acc_a W.heap.size col wx p ql q s l a b sl v m K h.ac h.ext.cols h.ext.size h.li hK h.inv.ok hv h1 h2).mono ?_
  rintro e w' ⟨⟨col', vo, vc, m2, rfl, he, ha2, hm⟩, hl2⟩
  exact ⟨⟨col', vo, vc, m2, h.step he ha2 (h.inv.acc s l b sl v) (hl2.mono (by omega)), rfl, hm⟩, he.size⟩
theorem LawY.raised (h : LawY W p ql q s l a K bs R col wx) (hK : K ≤ 80000) (f : Int) :
    Calls Tryz.prog 14 #[.pointer (some ⟨q, 0, none⟩), .int .i64 f] wx fun e w' => e = .returned (.int .i64 ((raiseO s l a f).e : Int)) ∧ ∃ col', LawY W p ql q (raiseO s l a f).s (raiseO s l a f).l (raiseO s l a f).a (K + 70) bs R col' w' ∧ wx.heap.size ≤ w'.heap.size := by
  have hlen := h.inv.ok.len h.inv.win
  refine (raiseO_a W.heap.size col wx p ql q s l a f K h.ac h.ext.cols h.ext.size h.li hK h.inv.ok (by omega)).mono ?_
  rintro e w' ⟨⟨col', rfl, he, ha2⟩, hl2⟩
  exact ⟨rfl, col', h.step he ha2 (h.inv.raise s l f) (hl2.mono (by omega)), he.size⟩
theorem LawY.entered (h : LawY W p ql q s l a K bs R col wx) (hK : K ≤ 80000) (ep f : Int) :
    Calls Tryz.prog 28 #[.pointer (some ⟨q, 0, none⟩), .int .i64 ep, .int .i64 f] wx fun e w' => e = .returned (.int .i64 ((enterO s l a ep f).e : Int)) ∧ ∃ col', LawY W p ql q (enterO s l a ep f).s (enterO s l a ep f).l (enterO s l a ep f).a (K + 70) bs R col' w' ∧ wx.heap.size ≤ w'.heap.size := by
  refine (enterO_a W.heap.size col wx p ql q s l a ep f K h.ac h.ext.cols h.ext.size h.li hK h.inv.ok.ep.1).mono ?_
  rintro e w' ⟨⟨col', rfl, he, ha2⟩, hl2⟩
  exact ⟨rfl, col', h.step he ha2 (h.inv.enter s l ep f) (hl2.mono (by omega)), he.size⟩
end

end Go.Proofs.YtgbgbokcohfnpaaGreat

/-
  PLAIN: an acceptor stands by what it has sent; its votes could stand in one message.
-/
namespace Go.Proofs.YtgbgbokcohfnpaaGreat

/-- A vote or a promise that was sent (slot 0: a promise). -/
structure SentR where
  epoch : Int
  bal : BalR
  slot : Int
  val : ValR
def KnowV (a : AcS) (s : SentR) : Prop :=
  s.slot ≤ a.floor ∨ ∃ o ∈ a.votes, o.slot = s.slot ∧ belowB o.bal s.bal = false ∧ (o.bal = s.bal → o.val = s.val)
/-- The acceptor stands by what was sent. -/
def KnowA (a : AcS) (s : SentR) : Prop := s.epoch ≤ a.epoch ∧ (s.epoch = a.epoch → belowB a.prom s.bal = false ∧ KnowV a s)
theorem KnowA.rise {a : AcS} {s : SentR} (h : KnowA a s) {b : BalR} (hb : belowB b a.prom = false) : KnowA { a with prom := b } s :=
  ⟨h.1, fun e => ⟨belowB_ge hb (h.2 e).1, (h.2 e).2⟩⟩
theorem KnowA.put {a : AcS} {s : SentR} (h : KnowA a s) (ok : AOk a) {b : BalR} {sl : Int} {v : ValR} (hb : belowB b a.prom = false) (hn : ∀ o, getV sl a.votes = some o → o.bal ≠ b) :
    KnowA { a with prom := b, votes := putV ⟨sl, b, v⟩ a.votes } s := by
  refine ⟨h.1, fun e => ⟨belowB_ge hb (h.2 e).1, ?_⟩⟩
  rcases (h.2 e).2 with h1 | ⟨o, ho, h1, h2, h3⟩
  · exact Or.inl h1
  by_cases hs : o.slot = sl
  · have hob : belowB b o.bal = false := belowB_ge hb (ok.vs o ho).2.2.2.2.2
    refine Or.inr ⟨⟨sl, b, v⟩, self_putV _ _, by show sl = s.slot; omega, belowB_ge hob h2, fun e2 => ?_⟩
    have e3 : b = s.bal := e2
    rw [← e3] at h2
    exact (hn o (by rw [← hs]; exact getV_of ok.up ho) (belowB_none h2 hob)).elim
  · exact Or.inr ⟨o, (putV_iff ok.up).2 (Or.inr ⟨ho, hs⟩), h1, h2, h3⟩
theorem KnowA.raise {a : AcS} {s : SentR} (h : KnowA a s) (f : Int) : KnowA (raiseA a f) s := by
  refine ⟨h.1, fun e => ⟨(h.2 e).1, ?_⟩⟩
  rcases (h.2 e).2 with h1 | ⟨o, ho, h1, h2, h3⟩
  · exact Or.inl (by show s.slot ≤ max a.floor f; omega)
  by_cases hs : max a.floor f < o.slot
  · exact Or.inr ⟨o, List.mem_filter.2 ⟨ho, by simpa using hs⟩, h1, h2, h3⟩
  · exact Or.inl (by show s.slot ≤ max a.floor f; omega)
theorem KnowA.enter {a : AcS} {s : SentR} (h : KnowA a s) {e : Int} (he : a.epoch < e) (f : Int) : KnowA (enterA e f) s := by
  have h1 := h.1
  refine ⟨by show s.epoch ≤ e; omega, fun e2 => ?_⟩
  have e2 : s.epoch = e := e2
  omega
theorem cmdF_nn (c : CmdR) : 0 ≤ cmdF c := by
  unfold cmdF
  split
  · decide
  · split <;> decide
theorem cmdsF_nn : ∀ cs : List CmdR, 0 ≤ cmdsF cs
  | [] => Int.le_refl 0
  | c :: r => by
    unfold cmdsF
    split
    · exact cmdsF_nn r
    · exact cmdF_nn c
theorem setGo_nn : ∀ (ms : List Int) (l : Int), 0 ≤ setGo l ms
  | [], _ => Int.le_refl 0
  | m :: r, l => by
    unfold setGo
    split
    · decide
    · exact setGo_nn r m
theorem valF_nn (v : ValR) : 0 ≤ valF v := by
  unfold valF
  split
  · split <;> decide
  split
  · split
    · decide
    · unfold setF
      split
      · decide
      · exact setGo_nn _ _
  split
  · split
    · decide
    · exact cmdsF_nn _
  · decide
/-- What Accept answers. -/
theorem acc_out {a : AcS} (h : AOk a) (s : DS) (l : LogP) (b : BalR) (sl : Int) (v : ValR) :
    ((accA s l a b sl v).a = a ∧ (accA s l a b sl v).e ≠ 0) ∨
    ((accA s l a b sl v).a = a ∧ (accA s l a b sl v).e = 0 ∧ belowB b a.prom = false ∧ a.floor < sl ∧ valF v = 0 ∧ (accA s l a b sl v).m = votedM a b sl v ∧ ∃ o ∈ a.votes, o.slot = sl ∧ o.bal = b ∧ o.val = v) ∨
    (validB b = true ∧ belowB b a.prom = false ∧ a.floor < sl ∧ valF v = 0 ∧ (accA s l a b sl v).a = { a with prom := b, votes := putV ⟨sl, b, v⟩ a.votes } ∧ (∀ o, getV sl a.votes = some o → o.bal ≠ b) ∧ (accA s l a b sl v).e = 0 ∧ (accA s l a b sl v).m = votedM { a with prom := b, votes := putV ⟨sl, b, v⟩ a.votes } b sl v) := by
  unfold accA
  split
  · exact Or.inl ⟨rfl, by simp⟩
  split
  · rename_i h0
    have := valF_nn v
    exact Or.inl ⟨rfl, by simp only []; omega⟩
  split
  · exact Or.inl ⟨rfl, by simp⟩
  split
  · exact Or.inl ⟨rfl, by simp⟩
  rename_i h1 h2 h3 h4
  have h1 : validB b = true := by simpa using h1
  have h2 : valF v = 0 := Classical.byContradiction h2
  have h3 : belowB b a.prom = false := by simpa using h3
  have h5 : a.floor < sl := by omega
  have core : ∀ r, (∀ o, getV sl a.votes = some o → o.bal ≠ b) → ((accW a ⟨2, a.epoch, sl, b, v⟩ r).a = a ∧ (accW a ⟨2, a.epoch, sl, b, v⟩ r).e ≠ 0) ∨
      (validB b = true ∧ belowB b a.prom = false ∧ a.floor < sl ∧ valF v = 0 ∧ (accW a ⟨2, a.epoch, sl, b, v⟩ r).a = { a with prom := b, votes := putV ⟨sl, b, v⟩ a.votes } ∧ (∀ o, getV sl a.votes = some o → o.bal ≠ b) ∧ (accW a ⟨2, a.epoch, sl, b, v⟩ r).e = 0 ∧ (accW a ⟨2, a.epoch, sl, b, v⟩ r).m = votedM { a with prom := b, votes := putV ⟨sl, b, v⟩ a.votes } b sl v) := by
    intro r hn
    unfold accW
    split
    · rename_i hw
      exact Or.inl ⟨rfl, hw⟩
    · have hr := replay_vote (v := v) h3 h5 (h.old h3)
      exact Or.inr ⟨h1, h3, h5, h2, hr, hn, rfl, by simp only []; rw [hr]⟩
  cases hg : getV sl a.votes with
  | none =>
    rcases core (writeF [recL ⟨2, a.epoch, sl, b, v⟩] true 0 s l) (fun o ho => by rw [hg] at ho; cases ho) with c | c
    · exact Or.inl c
    · rw [hg] at c
      exact Or.inr (Or.inr c)
  | some o =>
    unfold accO
    simp only []
    split
    · rename_i e1
      split
      · rename_i e2
        obtain ⟨g1, g2⟩ := getV_some hg
        exact Or.inr (Or.inl ⟨rfl, rfl, h3, h5, h2, rfl, o, g1, g2, e1, e2⟩)
      · exact Or.inl ⟨rfl, by simp⟩
    · rename_i e1
      rcases core (writeF [recL ⟨2, a.epoch, sl, b, v⟩] true 0 s l) (fun x hx => by rw [hg] at hx; cases hx; exact e1) with c | c
      · exact Or.inl c
      · rw [hg] at c
        exact Or.inr (Or.inr c)

/-! ### What the steps of AcceptorOne keep -/

structure KnowI (a : AcS) (S : List SentR) : Prop where
  inv : AInv a
  bal : ∀ v ∈ a.votes, validB v.bal = true
  all : ∀ s ∈ S, KnowA a s
theorem KnowI.start : KnowI (enterA 0 0) [] := ⟨AInv.start, fun v hv => (by cases hv), fun s hs => by cases hs⟩
/-- A step: the state behind it. -/
structure KnowT (a : AcS) (S : List SentR) (a' : AcS) : Prop where
  know : KnowI a' S
  ep : a.epoch ≤ a'.epoch
  prom : a'.epoch = a.epoch → belowB a'.prom a.prom = false
theorem KnowI.same {a : AcS} {S : List SentR} (h : KnowI a S) : KnowT a S a := ⟨h, Int.le_refl _, fun _ => belowB_irr _⟩
theorem KnowI.prep {a : AcS} {S : List SentR} (h : KnowI a S) (s : DS) (l : LogP) (b : BalR) (f : Int) : KnowT a S (prepA s l a b f).a := by
  have hi := h.inv.prep s l b f
  rcases prep_state s l a b f with h1 | ⟨h1, h2, h3, -⟩
  · rw [h1]; exact h.same
  · rw [h3] at hi ⊢
    exact ⟨⟨hi, h.bal, fun x hx => (h.all x hx).rise h2⟩, Int.le_refl _, fun _ => h2⟩
theorem KnowI.raise {a : AcS} {S : List SentR} (h : KnowI a S) (s : DS) (l : LogP) (f : Int) : KnowT a S (raiseO s l a f).a := by
  have hi := h.inv.raise s l f
  rcases raiseO_state s l a f with h1 | ⟨h1, h2, h3⟩
  · rw [h1]; exact h.same
  · rw [h3] at hi ⊢
    exact ⟨⟨hi, fun v hv => h.bal v (List.mem_filter.1 hv).1, fun x hx => (h.all x hx).raise f⟩, Int.le_refl _, fun _ => belowB_irr _⟩
theorem KnowI.enter {a : AcS} {S : List SentR} (h : KnowI a S) (s : DS) (l : LogP) (e f : Int) : KnowT a S (enterO s l a e f).a := by
  have hi := h.inv.enter s l e f
  rcases enterO_state s l a e f with h1 | ⟨h1, h2, h3, h4, h5⟩
  · rw [h1]; exact h.same
  · rw [h5] at hi ⊢
    exact ⟨⟨hi, fun v hv => (by cases hv), fun x hx => (h.all x hx).enter h1 f⟩, by show a.epoch ≤ e; omega, fun c => by
      have c : e = a.epoch := c
      omega⟩
/-- What a vote that was answered says. -/
structure VoteT (a : AcS) (S : List SentR) (o : AO) (b : BalR) (sl : Int) (v : ValR) : Prop where
  below : belowB b a.prom = false
  m : o.m = votedM o.a b sl v
  ep : o.a.epoch = a.epoch
  val : valF v = 0
  clash : ∀ s ∈ S, s.epoch = a.epoch → s.bal = b → s.slot = sl → s.val = v
  know : KnowI o.a (S ++ [⟨a.epoch, b, sl, v⟩])
theorem clash_none {a : AcS} (ok : AOk a) {S : List SentR} {b : BalR} {sl : Int} {v : ValR} (h : KnowI a S) (hs : a.floor < sl) {o : VoteR} (ho : o ∈ a.votes) (h1 : o.slot = sl) (h2 : o.bal = b) (h3 : o.val = v) :
    ∀ s ∈ S, s.epoch = a.epoch → s.bal = b → s.slot = sl → s.val = v := by
  intro s hm e1 e2 e3
  rcases ((h.all s hm).2 e1).2 with c | ⟨x, hx, g1, -, g3⟩
  · omega
  · have hxo : x = o := up_slot ok.up hx ho (by omega)
    subst hxo
    rw [← g3 (by rw [h2, e2]), h3]
theorem KnowI.acc {a : AcS} {S : List SentR} (h : KnowI a S) (s : DS) (l : LogP) (b : BalR) (sl : Int) (v : ValR) :
    KnowT a S (accA s l a b sl v).a ∧ ((accA s l a b sl v).e = 0 → VoteT a S (accA s l a b sl v) b sl v) := by
  have hi := h.inv.acc s l b sl v
  have hout := acc_out h.inv.ok s l b sl v
  generalize accA s l a b sl v = o at *
  rcases hout with ⟨h1, h2⟩ | ⟨h1, h2, h3, h4, h8, h5, x, x1, x2, x3, x4⟩ | ⟨h1, h2, h3, h8, h4, h5, h6, h7⟩
  · rw [h1]; exact ⟨h.same, fun e => absurd e h2⟩
  · have hp : belowB a.prom b = false := by
      have := (h.inv.ok.vs x x1).2.2.2.2.2
      rwa [x3] at this
    rw [h1]
    refine ⟨h.same, fun _ => ⟨h3, by rw [h1]; exact h5, by rw [h1], h8, clash_none h.inv.ok h h4 x1 x2 x3 x4, ?_⟩⟩
    rw [h1]
    refine ⟨h.inv, h.bal, fun y hy => ?_⟩
    rcases List.mem_append.1 hy with hy | hy
    · exact h.all y hy
    · rw [List.mem_singleton.1 hy]
      exact ⟨Int.le_refl _, fun _ => ⟨hp, Or.inr ⟨x, x1, x2, by rw [x3]; exact belowB_irr _, fun _ => x4⟩⟩⟩
  · rw [h4] at hi ⊢
    have hk : KnowI { a with prom := b, votes := putV ⟨sl, b, v⟩ a.votes } S := ⟨hi, fun x hx => by
      rcases putV_mem hx with rfl | hx
      · exact h1
      · exact h.bal x hx, fun x hx => (h.all x hx).put h.inv.ok h2 h5⟩
    refine ⟨⟨hk, Int.le_refl _, fun _ => h2⟩, fun _ => ⟨h2, by rw [h4]; exact h7, by rw [h4], h8, ?_, ?_⟩⟩
    · exact clash_none hi.ok hk h3 (self_putV ⟨sl, b, v⟩ a.votes) rfl rfl rfl
    · rw [h4]
      refine ⟨hi, hk.bal, fun y hy => ?_⟩
      rcases List.mem_append.1 hy with hy | hy
      · exact hk.all y hy
      · rw [List.mem_singleton.1 hy]
        exact ⟨Int.le_refl _, fun _ => ⟨belowB_irr _, Or.inr ⟨⟨sl, b, v⟩, self_putV _ _, rfl, belowB_irr _, fun _ => rfl⟩⟩⟩
end Go.Proofs.YtgbgbokcohfnpaaGreat

/-
  PLAIN: one state of an acceptor is at least as far as another; replaying keeps it so.
-/
namespace Go.Proofs.YtgbgbokcohfnpaaGreat

/-- s is at least as far as t. -/
structure Dom (t s : AcS) : Prop where
  ep : t.epoch ≤ s.epoch
  pr : t.epoch = s.epoch → belowB s.prom t.prom = false
  fl : t.epoch = s.epoch → t.floor ≤ s.floor
  vs : t.epoch = s.epoch → ∀ v ∈ t.votes, v.slot ≤ s.floor ∨ ∃ u ∈ s.votes, u.slot = v.slot ∧ (u = v ∨ belowB v.bal u.bal = true)
theorem Dom.refl (a : AcS) : Dom a a := ⟨Int.le_refl _, fun _ => belowB_irr _, fun _ => Int.le_refl _, fun _ v hv => Or.inr ⟨v, hv, rfl, Or.inl rfl⟩⟩
theorem Dom.trans {a b c : AcS} (h : Dom a b) (k : Dom b c) : Dom a c := by
  have h1 := h.ep
  have k1 := k.ep
  refine ⟨by omega, fun e => ?_, fun e => ?_, fun e v hv => ?_⟩
  · exact belowB_ge (k.pr (by omega)) (h.pr (by omega))
  · have := h.fl (by omega); have := k.fl (by omega); omega
  · rcases h.vs (by omega) v hv with h2 | ⟨u, hu, h2, h3⟩
    · have := k.fl (by omega); exact Or.inl (by omega)
    · rcases k.vs (by omega) u hu with k2 | ⟨x, hx, k2, k3⟩
      · exact Or.inl (by omega)
      · refine Or.inr ⟨x, hx, by omega, ?_⟩
        rcases h3 with h3 | h3
        · subst h3; exact k3
        · rcases k3 with k3 | k3
          · subst k3; exact Or.inr h3
          · exact Or.inr (belowB_trans h3 k3)
/-- What a state knows a further one knows. -/
theorem Dom.know {t s : AcS} (h : Dom t s) {x : SentR} (k : KnowA t x) : KnowA s x := by
  have h1 := h.ep
  have k1 := k.1
  refine ⟨by omega, fun e => ?_⟩
  have e2 : t.epoch = s.epoch := by omega
  obtain ⟨k2, k3⟩ := k.2 (by omega)
  refine ⟨belowB_ge (h.pr e2) k2, ?_⟩
  rcases k3 with k3 | ⟨o, ho, g1, g2, g3⟩
  · have := h.fl e2
    exact Or.inl (by omega)
  · rcases h.vs e2 o ho with c | ⟨u, hu, c1, c2⟩
    · exact Or.inl (by omega)
    · refine Or.inr ⟨u, hu, by omega, ?_⟩
      rcases c2 with c2 | c2
      · subst c2; exact ⟨g2, g3⟩
      · refine ⟨belowB_ge (belowB_asymm c2) g2, fun e3 => ?_⟩
        rw [e3] at c2
        rw [c2] at g2
        cases g2
/-! ### What a record does -/
theorem bal0_low {b : BalR} (h : 0 ≤ b.round) (h2 : 0 ≤ b.node) : belowB b bal0 = false := by
  unfold belowB bal0
  exact decide_eq_false (by simp only; omega)
theorem promA_pr (a : AcS) (b : BalR) : belowB (promA a b).prom b = false ∧ belowB (promA a b).prom a.prom = false ∧ ((promA a b).prom = b ∨ (promA a b).prom = a.prom) ∧ (promA a b).epoch = a.epoch ∧ (promA a b).floor = a.floor ∧ (promA a b).votes = a.votes := by
  unfold promA
  split
  · rename_i h
    exact ⟨belowB_irr _, belowB_asymm h, Or.inl rfl, rfl, rfl, rfl⟩
  · rename_i h
    exact ⟨by simpa using h, belowB_irr _, Or.inr rfl, rfl, rfl, rfl⟩
theorem promA_ge {a : AcS} {b c : BalR} (h1 : belowB c b = false) (h2 : belowB c a.prom = false) : belowB c (promA a b).prom = false := by
  rcases (promA_pr a b).2.2.1 with e | e
  · rw [e]; exact h1
  · rw [e]; exact h2
theorem Dom.prom {t s : AcS} (h : Dom t s) (b : BalR) : Dom (promA t b) (promA s b) := by
  obtain ⟨-, -, -, e1, f1, v1⟩ := promA_pr t b
  obtain ⟨p1, p2, -, e2, f2, v2⟩ := promA_pr s b
  refine ⟨by rw [e1, e2]; exact h.ep, fun e => ?_, fun e => ?_, fun e => ?_⟩
  · rw [e1, e2] at e
    exact promA_ge p1 (belowB_ge p2 (h.pr e))
  · rw [e1, e2] at e
    rw [f1, f2]; exact h.fl e
  · rw [e1, e2] at e
    rw [f2, v1, v2]; exact h.vs e
theorem Dom.raise {t s : AcS} (h : Dom t s) (f : Int) : Dom (raiseA t f) (raiseA s f) := by
  refine ⟨h.ep, fun e => h.pr e, fun e => ?_, fun e v hv => ?_⟩
  · have := h.fl e
    show max t.floor f ≤ max s.floor f
    omega
  · obtain ⟨hm, hs⟩ := List.mem_filter.1 hv
    have hs : max t.floor f < v.slot := by simpa using hs
    show v.slot ≤ max s.floor f ∨ ∃ u ∈ aboveV s.votes (max s.floor f), _
    by_cases hb : max s.floor f < v.slot
    · rcases h.vs e v hm with c | ⟨u, hu, c1, c2⟩
      · exact Or.inl (by omega)
      · exact Or.inr ⟨u, List.mem_filter.2 ⟨hu, by rw [c1]; simpa using hb⟩, c1, c2⟩
    · exact Or.inl (by omega)
/-- A vote is put in or not. -/
theorem takes_iff (a : AcS) (x : RecR) : takesA a x = true ↔ a.floor < x.slot ∧ ∀ o, getV x.slot a.votes = some o → belowB x.bal o.bal = false := by
  unfold takesA
  cases hg : getV x.slot a.votes with
  | none => simp
  | some o => simp
theorem Dom.vote {t s : AcS} (h : Dom t s) (ht : Up9 t.votes) (hs : Up9 s.votes) (x : RecR) (hk : x.kind = 2) : Dom (castA t x) (castA s x) := by
  have k3 : ¬ x.kind = 3 := by omega
  have e1 : ∀ a : AcS, castA a x = if takesA a x = true then { a with votes := putV ⟨x.slot, x.bal, x.val⟩ a.votes } else a := fun a => by
    unfold castA
    rw [if_neg k3]
    by_cases c : takesA a x = true
    · rw [if_pos ⟨hk, c⟩, if_pos c]
    · rw [if_neg (fun d => c d.2), if_neg c]
  rw [e1, e1]
  clear e1
  have core : ∀ e : t.epoch = s.epoch, ∀ v ∈ (if takesA t x = true then { t with votes := putV ⟨x.slot, x.bal, x.val⟩ t.votes } else t).votes, v.slot ≤ s.floor ∨ ∃ u ∈ (if takesA s x = true then { s with votes := putV ⟨x.slot, x.bal, x.val⟩ s.votes } else s).votes, u.slot = v.slot ∧ (u = v ∨ belowB v.bal u.bal = true) := by
    intro e v hv
    have hfl := h.fl e
    -- the vote is the record's, or an older one
    have hcase : (v = ⟨x.slot, x.bal, x.val⟩ ∧ takesA t x = true) ∨ (v ∈ t.votes ∧ (takesA t x = true → v.slot ≠ x.slot)) := by
      split at hv
      · rename_i c
        rcases (putV_iff ht).1 hv with d | d
        · exact Or.inl ⟨d, c⟩
        · exact Or.inr ⟨d.1, fun _ => d.2⟩
      · rename_i c
        exact Or.inr ⟨hv, fun d => absurd d c⟩
    rcases hcase with ⟨rfl, hc⟩ | ⟨hm, hne⟩
    · show x.slot ≤ s.floor ∨ _
      by_cases hf : s.floor < x.slot
      · right
        by_cases c : takesA s x = true
        · rw [if_pos c]
          exact ⟨_, self_putV _ _, rfl, Or.inl rfl⟩
        · rw [if_neg c]
          have : ∃ o, getV x.slot s.votes = some o ∧ belowB x.bal o.bal = true := by
            refine Classical.byContradiction fun d => c ((takes_iff s x).2 ⟨hf, fun o ho => ?_⟩)
            cases hb : belowB x.bal o.bal with
            | false => rfl
            | true => exact absurd ⟨o, ho, hb⟩ d
          obtain ⟨o, ho, hb⟩ := this
          obtain ⟨g1, g2⟩ := getV_some ho
          exact ⟨o, g1, g2, Or.inr hb⟩
      · exact Or.inl (by omega)
    · rcases h.vs e v hm with c | ⟨u, hu, c1, c2⟩
      · exact Or.inl c
      by_cases hx : v.slot = x.slot
      · -- t did not take it in
        have hnt : ¬ takesA t x = true := fun d => hne d hx
        by_cases hts : takesA s x = true
        · rw [if_pos hts]
          obtain ⟨a1, a2⟩ := (takes_iff s x).1 hts
          have hgs : getV x.slot s.votes = some u := by rw [← hx, ← c1]; exact getV_of hs hu
          have hgt : getV x.slot t.votes = some v := by rw [← hx]; exact getV_of ht hm
          have hxu := a2 u hgs
          have : belowB x.bal v.bal = true := by
            cases hb : belowB x.bal v.bal with
            | true => rfl
            | false => exact absurd ((takes_iff t x).2 ⟨by omega, fun o ho => by rw [hgt] at ho; cases ho; exact hb⟩) hnt
          rcases c2 with c2 | c2
          · subst c2
            rw [this] at hxu
            cases hxu
          · have := belowB_trans this c2
            rw [this] at hxu
            cases hxu
        · rw [if_neg hts]
          exact Or.inr ⟨u, hu, c1, c2⟩
      · right
        refine ⟨u, ?_, c1, c2⟩
        split
        · exact (putV_iff hs).2 (Or.inr ⟨hu, by show u.slot ≠ x.slot; omega⟩)
        · exact hu
  refine ⟨?_, ?_, ?_, ?_⟩
  · split <;> split <;> exact h.ep
  · intro e
    have e : t.epoch = s.epoch := by revert e; split <;> split <;> exact fun e => e
    have := h.pr e
    split <;> split <;> exact this
  · intro e
    have e : t.epoch = s.epoch := by revert e; split <;> split <;> exact fun e => e
    have := h.fl e
    split <;> split <;> exact this
  · intro e v hv
    have e : t.epoch = s.epoch := by revert e; split <;> split <;> exact fun e => e
    have := core e v hv
    have hf : (if takesA s x = true then { s with votes := putV ⟨x.slot, x.bal, x.val⟩ s.votes } else s).floor = s.floor := by split <;> rfl
    rw [hf]
    exact this
theorem Dom.cast {t s : AcS} (h : Dom t s) (ht : Up9 t.votes) (hs : Up9 s.votes) (x : RecR) : Dom (castA t x) (castA s x) := by
  by_cases h3 : x.kind = 3
  · unfold castA
    rw [if_pos h3, if_pos h3]
    exact h.raise _
  · by_cases h2 : x.kind = 2
    · exact h.vote ht hs x h2
    · unfold castA
      rw [if_neg h3, if_neg h3, if_neg (fun c => h2 c.1), if_neg (fun c => h2 c.1)]
      exact h
/-- An epoch begun is behind every state of it. -/
theorem Dom.begun {e : Int} {s : AcS} (h : e ≤ s.epoch) (ok : AOk s) : Dom (enterA e 0) s :=
  ⟨h, fun _ => bal0_low ok.rd.1 ok.nd.1, fun _ => ok.fl.1, fun _ v hv => by cases hv⟩
theorem Dom.replay {t s : AcS} (h : Dom t s) (ht : AOk t) (hs : AOk s) (x : RecR) : Dom (replayA t x) (replayA s x) := by
  have he := h.ep
  by_cases h1 : x.epoch < s.epoch
  · have e1 : replayA s x = s := by unfold replayA; rw [if_pos h1]
    rw [e1]
    by_cases h2 : x.epoch < t.epoch
    · have e2 : replayA t x = t := by unfold replayA; rw [if_pos h2]
      rw [e2]
      exact h
    · have e2 : (replayA t x).epoch = x.epoch := by
        unfold replayA
        rw [if_neg h2]
        have ec : ∀ a : AcS, (castA a x).epoch = a.epoch := fun a => by
          unfold castA
          split
          · rfl
          · split <;> rfl
        rw [ec, (promA_pr _ _).2.2.2.1]
        split
        · rfl
        · omega
      exact ⟨by omega, fun c => by omega, fun c => by omega, fun c => by omega⟩
  · have h2 : ¬ x.epoch < t.epoch := by omega
    unfold replayA
    rw [if_neg h1, if_neg h2]
    have hd : Dom (if t.epoch < x.epoch then enterA x.epoch 0 else t) (if s.epoch < x.epoch then enterA x.epoch 0 else s) := by
      by_cases c1 : s.epoch < x.epoch
      · rw [if_pos c1, if_pos (by omega)]
        exact Dom.refl _
      · rw [if_neg c1]
        by_cases c2 : t.epoch < x.epoch
        · rw [if_pos c2]
          exact Dom.begun (by omega) hs
        · rw [if_neg c2]
          exact h
    have u1 : Up9 (if t.epoch < x.epoch then enterA x.epoch 0 else t).votes := by
      split
      · exact List.Pairwise.nil
      · exact ht.up
    have u2 : Up9 (if s.epoch < x.epoch then enterA x.epoch 0 else s).votes := by
      split
      · exact List.Pairwise.nil
      · exact hs.up
    exact (hd.prom x.bal).cast (by rw [(promA_pr _ _).2.2.2.2.2]; exact u1) (by rw [(promA_pr _ _).2.2.2.2.2]; exact u2) x
/-- A replayed state is sane. -/
theorem AOk.prom {a : AcS} (h : AOk a) {b : BalR} (h1 : 0 ≤ b.round ∧ b.round ≤ 1099511627776) (h2 : 0 ≤ b.node ∧ b.node ≤ 9) : AOk (promA a b) := by
  obtain ⟨p1, p2, p3, e1, f1, v1⟩ := promA_pr a b
  refine ⟨by rw [e1]; exact h.ep, by rw [f1]; exact h.fl, ?_, ?_, by rw [v1]; exact h.up, fun v hv => ?_⟩
  · rcases p3 with e | e
    · rw [e]; exact h1
    · rw [e]; exact h.rd
  · rcases p3 with e | e
    · rw [e]; exact h2
    · rw [e]; exact h.nd
  · rw [v1] at hv
    rw [f1]
    obtain ⟨g1, g2, g3, g4, g5, g6⟩ := h.vs v hv
    exact ⟨g1, g2, g3, g4, g5, belowB_ge p2 g6⟩
theorem AOk.replay {a : AcS} (h : AOk a) {x : RecR} (hx : RecOk x) : AOk (replayA a x) := by
  unfold replayA
  split
  · exact h
  have h1 : AOk (if a.epoch < x.epoch then enterA x.epoch 0 else a) := by
    split
    · exact AOk.enter hx.epoch (by decide)
    · exact h
  have h2 := h1.prom hx.round hx.node
  have hp := (promA_pr (if a.epoch < x.epoch then enterA x.epoch 0 else a) x.bal).1
  generalize promA (if a.epoch < x.epoch then enterA x.epoch 0 else a) x.bal = c at *
  unfold castA
  split
  · exact h2.raise hx.slot.2
  · split
    · rename_i hk
      obtain ⟨t1, t2⟩ := (takes_iff c x).1 hk.2
      refine ⟨h2.ep, h2.fl, h2.rd, h2.nd, up_putV h2.up, fun v hv => ?_⟩
      rcases putV_mem hv with rfl | hv
      · exact ⟨hx.val, t1, hx.slot.2, hx.round, hx.node, hp⟩
      · exact h2.vs v hv
    · exact h2

end Go.Proofs.YtgbgbokcohfnpaaGreat

/-
  PLAIN: an acceptor and the records that lie in its log.
-/
namespace Go.Proofs.YtgbgbokcohfnpaaGreat

theorem snoc_ind {α : Type} {P : List α → Prop} (h0 : P []) (h1 : ∀ r x, P r → P (r ++ [x])) : ∀ (n : Nat) (l : List α), l.length = n → P l
  | 0, l, h => by rw [List.eq_nil_of_length_eq_zero h]; exact h0
  | n + 1, l, h => by
    have hne : l ≠ [] := fun c => by rw [c] at h; cases h
    rw [← List.dropLast_concat_getLast hne]
    exact h1 _ _ (snoc_ind h0 h1 n _ (by rw [List.length_dropLast]; omega))
def runA (a : AcS) (R : List RecR) : AcS := R.foldl replayA a
theorem runA_append (a : AcS) (R S : List RecR) : runA a (R ++ S) = runA (runA a R) S := List.foldl_append
theorem runA_snoc (a : AcS) (R : List RecR) (x : RecR) : runA a (R ++ [x]) = replayA (runA a R) x := by rw [runA_append]; rfl
theorem runA_ok : ∀ (R : List RecR) {a : AcS}, AOk a → (∀ x ∈ R, RecOk x) → AOk (runA a R)
  | [], _, h, _ => h
  | x :: r, _, h, hr => runA_ok r (h.replay (hr x (List.mem_cons_self ..))) (fun y hy => hr y (List.mem_cons_of_mem _ hy))
theorem Dom.run : ∀ (R : List RecR) {t s : AcS}, Dom t s → AOk t → AOk s → (∀ x ∈ R, RecOk x) → Dom (runA t R) (runA s R)
  | [], _, _, h, _, _, _ => h
  | x :: r, _, _, h, ht, hs, hr => (h.replay ht hs x).run r (ht.replay (hr x (List.mem_cons_self ..))) (hs.replay (hr x (List.mem_cons_self ..))) (fun y hy => hr y (List.mem_cons_of_mem _ hy))
theorem start_ok : AOk (enterA 0 0) := AOk.enter (by decide) (by decide)
/-! ### Whence the votes come -/
theorem replay_epoch (a : AcS) (x : RecR) : (replayA a x).epoch = max a.epoch x.epoch := by
  unfold replayA
  split
  · omega
  · have ec : ∀ a : AcS, (castA a x).epoch = a.epoch := fun a => by
      unfold castA
      split
      · rfl
      · split <;> rfl
    rw [ec, (promA_pr _ _).2.2.2.1]
    split
    · show x.epoch = _; omega
    · omega
theorem replay_votes (a : AcS) (x : RecR) : ∀ v ∈ (replayA a x).votes, (v ∈ a.votes ∧ (replayA a x).epoch = a.epoch) ∨ (x.kind = 2 ∧ x.epoch = (replayA a x).epoch ∧ x.slot = v.slot) := by
  intro v hv
  have he := replay_epoch a x
  rw [he]
  by_cases h1 : x.epoch < a.epoch
  · unfold replayA at hv
    rw [if_pos h1] at hv
    exact Or.inl ⟨hv, by omega⟩
  unfold replayA at hv
  rw [if_neg h1] at hv
  have hm : ∀ u ∈ (promA (if a.epoch < x.epoch then enterA x.epoch 0 else a) x.bal).votes, u ∈ a.votes ∧ max a.epoch x.epoch = a.epoch := fun u hu => by
    rw [(promA_pr _ _).2.2.2.2.2] at hu
    split at hu
    · cases hu
    · exact ⟨hu, by omega⟩
  generalize promA (if a.epoch < x.epoch then enterA x.epoch 0 else a) x.bal = c at *
  unfold castA at hv
  split at hv
  · exact Or.inl (hm v (List.mem_filter.1 hv).1)
  · split at hv
    · rename_i hk
      rcases putV_mem hv with rfl | hv
      · exact Or.inr ⟨hk.1, by omega, rfl⟩
      · exact Or.inl (hm v hv)
    · exact Or.inl (hm v hv)
theorem run_votes (R : List RecR) : ∀ (a : AcS), a.votes = [] → ∀ v ∈ (runA a R).votes, ∃ x ∈ R, x.kind = 2 ∧ x.epoch = (runA a R).epoch ∧ x.slot = v.slot := by
  refine snoc_ind (P := fun R => ∀ (a : AcS), a.votes = [] → ∀ v ∈ (runA a R).votes, ∃ x ∈ R, x.kind = 2 ∧ x.epoch = (runA a R).epoch ∧ x.slot = v.slot) ?_ ?_ R.length R rfl
  · intro a h v hv; rw [show runA a [] = a from rfl, h] at hv; cases hv
  · intro r x ih a h v hv
    rw [runA_snoc] at hv ⊢
    rcases replay_votes _ x v hv with ⟨h1, h2⟩ | ⟨h1, h2, h3⟩
    · obtain ⟨y, hy, g1, g2, g3⟩ := ih a h v h1
      exact ⟨y, List.mem_append_left _ hy, g1, by rw [h2]; exact g2, g3⟩
    · exact ⟨x, by simp, h1, h2, h3⟩

/-! ### The records beside the acceptor: k of them are safe -/

structure Stn (A : AcS) (R : List RecR) (k : Nat) : Prop where
  inv : AInv A
  recs : ∀ x ∈ R, RecW x
  le : k ≤ R.length
  all : ∀ m, k ≤ m → m ≤ R.length → Dom A (runA (enterA 0 0) (R.take m))
  vote : ∀ x ∈ R, x.kind = 2 → x.epoch ≤ A.epoch ∧ (x.epoch = A.epoch → x.slot ≤ A.floor + 64)
theorem Stn.start : Stn (enterA 0 0) [] 0 := ⟨AInv.start, fun x hx => (by cases hx), Nat.le_refl _, fun m _ h => (by
  have : m = 0 := by simpa using h
  subst this
  exact Dom.refl _), fun x hx => (by cases hx)⟩
theorem Stn.rok {A : AcS} {R : List RecR} {k : Nat} (h : Stn A R k) (m : Nat) : AOk (runA (enterA 0 0) (R.take m)) := runA_ok _ start_ok (fun x hx => (h.recs x (List.mem_of_mem_take hx)).ok)
theorem Stn.last {A : AcS} {R : List RecR} {k : Nat} (h : Stn A R k) : Dom A (runA (enterA 0 0) R) := by
  have := h.all R.length h.le (Nat.le_refl _)
  rwa [List.take_length] at this
/-- More of them are safe. -/
theorem Stn.safe {A : AcS} {R : List RecR} {k k' : Nat} (h : Stn A R k) (h1 : k ≤ k') (h2 : k' ≤ R.length) : Stn A R k' := ⟨h.inv, h.recs, h2, fun m a b => h.all m (by omega) b, h.vote⟩
/-- A record that an acceptor may write. -/
structure Fresh9 (A : AcS) (x : RecR) : Prop where
  w : RecW x
  dom : Dom A (replayA A x)
  vote : x.kind = 2 → x.epoch = A.epoch ∧ x.slot ≤ A.floor + 64
theorem Stn.more {A : AcS} {R : List RecR} {k : Nat} (h : Stn A R k) {x : RecR} (hx : Fresh9 A x) : Stn A (R ++ [x]) k := by
  refine ⟨h.inv, fun y hy => ?_, by rw [List.length_append]; have := h.le; omega, fun m a b => ?_, fun y hy hk => ?_⟩
  · rcases List.mem_append.1 hy with hy | hy
    · exact h.recs y hy
    · rw [List.mem_singleton.1 hy]; exact hx.w
  · rw [List.length_append] at b
    simp only [List.length_cons, List.length_nil] at b
    by_cases hm : m ≤ R.length
    · rw [List.take_append_of_le_length hm]
      exact h.all m a hm
    · have : m = (R ++ [x]).length := by rw [List.length_append]; simp only [List.length_cons, List.length_nil]; omega
      rw [this, List.take_length, runA_snoc]
      have ok := h.rok R.length
      rw [List.take_length] at ok
      exact hx.dom.trans (h.last.replay h.inv.ok ok x)
  · rcases List.mem_append.1 hy with hy | hy
    · exact h.vote y hy hk
    · rw [List.mem_singleton.1 hy] at hk ⊢
      have := hx.vote hk
      exact ⟨by omega, fun _ => this.2⟩
theorem Stn.mores {A : AcS} {R : List RecR} {k : Nat} (h : Stn A R k) {X : List RecR} : (∀ x ∈ X, Fresh9 A x) → Stn A (R ++ X) k := by
  refine snoc_ind (P := fun X => (∀ x ∈ X, Fresh9 A x) → Stn A (R ++ X) k) ?_ ?_ X.length X rfl
  · intro _; rw [List.append_nil]; exact h
  · intro r x ih hx
    rw [← List.append_assoc]
    exact (ih (fun y hy => hx y (List.mem_append_left _ hy))).more (hx x (by simp))
/-- All is written and safe: the state goes on. -/
theorem Stn.done {A A' : AcS} {R : List RecR} {k : Nat} (h : Stn A R k) {X : List RecR} (hx : ∀ x ∈ X, Fresh9 A x) (hd : Dom A' (runA A X)) (hi : AInv A') (he : A.epoch < A'.epoch ∨ (A.epoch = A'.epoch ∧ A.floor ≤ A'.floor)) : Stn A' (R ++ X) (R ++ X).length := by
  have hm := h.mores hx
  refine ⟨hi, hm.recs, Nat.le_refl _, fun m a b => ?_, fun y hy hk => ?_⟩
  · have : m = (R ++ X).length := by omega
    rw [this, List.take_length, runA_append]
    have ok := h.rok R.length
    rw [List.take_length] at ok
    exact hd.trans (h.last.run X h.inv.ok ok (fun x hx2 => (hx x hx2).w.ok))
  · obtain ⟨h1, h2⟩ := hm.vote y hy hk
    rcases he with he | he
    · exact ⟨by omega, fun c => by omega⟩
    · exact ⟨by omega, fun c => by have := h2 (by omega); omega⟩
/-- The elder records go. -/
theorem Stn.trim {A : AcS} {R X : List RecR} (h : Stn A (R ++ X) (R ++ X).length) (hd : ∀ s, AOk s → Dom A (runA s X)) (j : Nat) : Stn A (R.drop j ++ X) (R.drop j ++ X).length := by
  have hsub : ∀ x ∈ R.drop j ++ X, x ∈ R ++ X := fun x hx => by
    rcases List.mem_append.1 hx with hx | hx
    · exact List.mem_append_left _ (List.mem_of_mem_drop hx)
    · exact List.mem_append_right _ hx
  refine ⟨h.inv, fun x hx => h.recs x (hsub x hx), Nat.le_refl _, fun m a b => ?_, fun x hx => h.vote x (hsub x hx)⟩
  have : m = (R.drop j ++ X).length := by omega
  rw [this, List.take_length, runA_append]
  exact hd _ (runA_ok _ start_ok (fun x hx => (h.recs x (hsub x (List.mem_append_left _ hx))).ok))
/-- Behind a loss of power: what was kept makes the state. -/
theorem Stn.again {A : AcS} {R : List RecR} {k : Nat} (h : Stn A R k) {m : Nat} (h1 : k ≤ m) (h2 : m ≤ R.length) : Stn (runA (enterA 0 0) (R.take m)) (R.take m) m ∧ Dom A (runA (enterA 0 0) (R.take m)) := by
  have hd := h.all m h1 h2
  have ok := h.rok m
  have hl : (R.take m).length = m := by rw [List.length_take]; omega
  refine ⟨⟨⟨ok, fun v hv => ?_⟩, fun x hx => h.recs x (List.mem_of_mem_take hx), by omega, fun i a b => ?_, fun x hx hk => ?_⟩, hd⟩
  · obtain ⟨x, hx, g1, g2, g3⟩ := run_votes (R.take m) (enterA 0 0) rfl v hv
    obtain ⟨q1, q2⟩ := h.vote x (List.mem_of_mem_take hx) g1
    have he := hd.ep
    have := hd.fl (by omega)
    have := q2 (by omega)
    omega
  · have : i = m := by omega
    rw [this, List.take_take, Nat.min_self]
    exact Dom.refl _
  · obtain ⟨q1, q2⟩ := h.vote x (List.mem_of_mem_take hx) hk
    have he := hd.ep
    exact ⟨by omega, fun c => by have := hd.fl (by omega); have := q2 (by omega); omega⟩
theorem openEA_zero {a : AcS} (h : AOk a) : openEA a 0 0 = a := by
  unfold openEA
  have h1 := h.ep.1
  have h2 := h.fl.1
  rw [if_neg (by omega)]
  split
  · unfold raiseA
    have e : max a.floor 0 = a.floor := by omega
    rw [e]
    have : aboveV a.votes a.floor = a.votes := List.filter_eq_self.2 (fun v hv => by simpa using (h.vs v hv).2.1)
    rw [this]
  · rfl
theorem replayRs_run : ∀ (R : List RecR) (a : AcS), (∀ x ∈ R, RecW x) → replayRs a (R.map recL) = some (runA a R)
  | [], _, _ => rfl
  | x :: r, a, h => by
    rw [List.map_cons, replayRs, parseR_back (h x (List.mem_cons_self ..))]
    exact replayRs_run r _ (fun y hy => h y (List.mem_cons_of_mem _ hy))
theorem openA_run (R : List RecR) (h : ∀ x ∈ R, RecW x) : openA (R.map recL) 0 0 = (some (runA (enterA 0 0) R), 0) := by
  unfold openA
  rw [if_neg (by decide), replayRs_run R _ h]
  simp only []
  rw [openEA_zero (runA_ok R start_ok (fun x hx => (h x hx).ok))]

end Go.Proofs.YtgbgbokcohfnpaaGreat
