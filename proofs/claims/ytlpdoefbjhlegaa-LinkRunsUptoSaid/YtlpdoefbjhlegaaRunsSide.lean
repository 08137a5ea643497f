/-
  BOTH ENDS SIDE BY SIDE: what each call leaves of the other.
-/
import Derived.Test.YtlpdoefbjhlegaaRunsEmit
import Derived.Test.YtlpdoefbjhlegaaLinkHead
import Derived.Test.YtlpdoefbjhlegaaReadOp
import Derived.Deep.MidRow
namespace Go.Proofs.Ytlpdoefbjhlegaa
open Go.RowKit

attribute [local irreducible] parse numL inR lowR emitF inF sendF emitR sendR newLS newR

/-- The program's end (colours 0 to 5), the box in which the document's end lies (41), the document's end (40). -/
structure RunV (W : World) (pl pm : Nat) (col : Nat → Nat) (s : LS) (mb : RL) (rb : RR) (m : RL) (r : RR) (w : World) : Prop where
  la : Lk col 0 w pl s
  box : w.heap[pm]? = some (.cells (linkC mb rb) 29 (0, 0))
  pmc : col pm = 41
  ref : RefAt (Col col 40) w m r
  X : Ext W.heap.size (fun c => c ≠ 0) (fun _ => 0) W col w
theorem RunV.flip {W : World} {pl pm : Nat} {col : Nat → Nat} {s : LS} {mb : RL} {rb : RR} {m : RL} {r : RR} {w w' : World} (h : RunV W pl pm col s mb rb m r w) {D : Nat → Prop} (k : Kp D w w') (hD : ∀ j, j < w.heap.size → D j → col j = 0 ∧ W.heap.size ≤ j) : RunV W pl pm col s mb rb m r w' := by
  have k0 : Kp (fun j => col j = 0 ∧ W.heap.size ≤ j) w w' := k.mono hD
  obtain ⟨⟨r1, h1⟩, hi⟩ := h.la
  refine ⟨⟨⟨r1, h1.beside (S := fun c => c = 0) (k0.mono (fun j _ c => c.1)) (fun c a b => by unfold S5 at a; omega)⟩, hi⟩, k0.heap h.box (fun c => by have := h.pmc; omega), h.pmc, h.ref.kp k0 (fun j c d => by unfold Col at c; omega), ?_⟩
  exact ⟨h.X.cols.keep k.size, h.X.old, fun j a b => b, h.X.kp.trans' k0 (fun j hj c => by omega)⟩
theorem RunV.keep {W : World} {pl pm : Nat} {col : Nat → Nat} {s : LS} {mb : RL} {rb : RR} {m : RL} {r : RR} {w w' : World} (h : RunV W pl pm col s mb rb m r w) (k : Kp Noone w w') : RunV W pl pm col s mb rb m r w' :=
  h.flip k (fun _ _ c => c.elim)
theorem RunV.kp {W : World} {pl pm : Nat} {col : Nat → Nat} {s : LS} {mb : RL} {rb : RR} {m : RL} {r : RR} {w : World} (h : RunV W pl pm col s mb rb m r w) : Kp Noone W w := h.X.kp.mono (fun _j _ c => absurd rfl c)
theorem RunV.size {W : World} {pl pm : Nat} {col : Nat → Nat} {s : LS} {mb : RL} {rb : RR} {m : RL} {r : RR} {w : World} (h : RunV W pl pm col s mb rb m r w) : W.heap.size ≤ w.heap.size := h.X.size
/-- A call of the document. -/
theorem RunV.doc {W : World} {pl pm : Nat} {col : Nat → Nat} {s : LS} {mb : RL} {rb : RR} {m : RL} {r : RR} {w w' : World} (h : RunV W pl pm col s mb rb m r w) {m' : RL} {r' : RR} (ht : RefTo (Col col 40) w m' r' w') :
    ∃ col', RunV W pl pm col' s mb rb m' r' w' ∧ (∀ j, j < w.heap.size → col' j = col j) ∧ (∀ j, w.heap.size ≤ j → j < w'.heap.size → col' j = 40) := by
  have k := ht.1
  have hsz := h.size
  have hold : ∀ j, j < w.heap.size → paint col w w' 40 j = col j := fun j hj => by unfold paint; rw [if_neg (by omega)]
  have hpm := (Array.getElem?_eq_some_iff.1 h.box).1
  have e : Ext W.heap.size (fun c => c ≠ 0) col w (paint col w w' 40) w' := ⟨h.X.cols.paint hsz k.size 40, hold, fun j hj c => c, k.none⟩
  obtain ⟨⟨r1, h1⟩, hi⟩ := h.la
  refine ⟨paint col w w' 40, ⟨⟨⟨r1, (h1.recol hold).keep k⟩, hi⟩, k.heap h.box id, by rw [hold pm hpm]; exact h.pmc, ht.2.mono (fun j hj c => ?_), h.X.trans e⟩, hold, fun j h1 h2 => by unfold paint; rw [if_pos ⟨h1, h2⟩]⟩
  rcases c with c | c
  · exact paint_old (h.X.cols j (by unfold Col at c; omega)).2 c
  · exact paint_new (Or.inr c)
/-- A call of the program. -/
theorem RunV.call {W : World} {pl pm : Nat} {col col' : Nat → Nat} {s s' : LS} {mb : RL} {rb : RR} {m : RL} {r : RR} {w w' : World} (h : RunV W pl pm col s mb rb m r w) (e : Ext W.heap.size (S5 0) col w col' w') (hl : Lk col' 0 w' pl s') : RunV W pl pm col' s' mb rb m r w' := by
  have hpm := (Array.getElem?_eq_some_iff.1 h.box).1
  refine ⟨hl, e.kp.heap h.box (fun c => by rw [h.pmc] at c; unfold S5 at c; omega), by rw [e.old pm hpm]; exact h.pmc, ?_, h.X.trans (e.mono (fun c d => by unfold S5 at d; omega))⟩
  have h1 := h.ref.mono (Q := fun j => col j = 40 ∧ j < w.heap.size) (fun j hj c => ⟨c, hj⟩)
  exact (h1.kp e.kp (fun j c d => by rw [c.1] at d; unfold S5 at d; omega)).mono (fun j _ c => (e.old j c.2).trans c.1)
/-- The box takes another end. -/
def putL (w : World) (g : Nat) (m : RL) (r : RR) : World := w.setCells g 0 (linkC m r).toList
theorem putL_kp (w : World) (g : Nat) (m : RL) (r : RR) : Kp (fun j => j = g) w (putL w g m r) := set8_kpS (Kp.refl (fun j => j = g) w) (g := g) rfl (.int .i64 m.boot) (.int .i64 m.retry) (.int .i64 m.next) (.slice r.oo m.out.length r.oc) (.slice r.ko (m.acks.length * 2) r.kc) (.int .i64 m.peer) (.int .i64 m.below) (.slice r.co m.came.length r.cc)
theorem putL_heap {w : World} {g e : Nat} {m0 : RL} {r0 : RR} (m : RL) (r : RR) (h : w.heap[g]? = some (.cells (linkC m0 r0) e (0, 0))) : (putL w g m r).heap[g]? = some (.cells (linkC m r) e (0, 0)) := by
  unfold linkC at h
  exact set8_heap h (.int .i64 m.boot) (.int .i64 m.retry) (.int .i64 m.next) (.slice r.oo m.out.length r.oc) (.slice r.ko (m.acks.length * 2) r.kc) (.int .i64 m.peer) (.int .i64 m.below) (.slice r.co m.came.length r.cc)
theorem there_row {w : World} {g e : Nat} {cs : Array Value} (h : w.heap[g]? = some (.cells cs e (0, 0))) : w.there g 0 cs.size := by
  intro j hj
  refine ⟨?_, by simp [World.frozen?, h]⟩
  rw [Nat.zero_add, cell_of_row w g j cs e (0, 0) h, Array.getElem?_eq_getElem hj]
  rfl
theorem wpList_store_link {ops : Array Oper} {rest : List Oper} {op : Oper} {a : Act} {w : World} {Q : Exit → Act → World → Prop} (hgd : op.guard = none) (x y : Operand) (ho : op.op = .store 29 x y)
    (g : Nat) (m : RL) (r : RR) (hx : a.eval x = .pointer (some ⟨g, 0, none⟩)) (hy : a.eval y = linkV m r) {m0 : RL} {r0 : RR} (hb : w.heap[g]? = some (.cells (linkC m0 r0) 29 (0, 0)))
    (h : wpList Try.prog ops Q rest (a.put op.dst undef) (putL w g m r)) : wpList Try.prog ops Q (op :: rest) a w :=
  wpList_store_mid hgd 29 x y ho g 0 (linkC m r) hx hy (show w.there g 0 (linkC m r).size from there_row (cs := linkC m0 r0) hb) info_link (by unfold linkC; simp [Value.oneCell']) h
theorem RunV.stored {W : World} {pl pm : Nat} {col : Nat → Nat} {s : LS} {mb : RL} {rb : RR} {m : RL} {r : RR} {w : World} (h : RunV W pl pm col s mb rb m r w) : RunV W pl pm col s m r m r (putL w pm m r) := by
  have k := putL_kp w pm m r
  have hp := h.pmc
  have k2 := k.mono (T := fun j => col j = 41) (fun j _ c => by rw [c]; exact hp)
  obtain ⟨⟨r1, h1⟩, hi⟩ := h.la
  refine ⟨⟨⟨r1, h1.beside (S := fun c => c = 41) k2 (fun c a b => by unfold S5 at a; omega)⟩, hi⟩, putL_heap m r h.box, hp, h.ref.kp k2 (fun j c d => by unfold Col at c; omega), ?_⟩
  exact ⟨h.X.cols.keep k.size, h.X.old, fun j a b => b, h.X.kp.trans' k (fun j hj c => by subst c; have := (h.X.cols j (by omega)).1; omega)⟩

/-! ### Numbers and counts -/

theorem sendR_next (m : RL) (d : List UInt8) : (sendR m d).1.next ≤ m.next + 1 ∧ (sendR m d).1.came = m.came := by
  unfold sendR
  split
  · exact ⟨by simp only []; omega, rfl⟩
  · split
    · exact ⟨by simp only []; omega, rfl⟩
    · exact ⟨Int.le_refl _, rfl⟩
theorem emitR_next (m : RL) (now : Int) : (emitR m now).1.next = m.next ∧ (emitR m now).1.came = m.came := by unfold emitR; exact ⟨rfl, rfl⟩
theorem freshR_next (m : RL) (mb mn base : Int) : (freshR m mb mn base).1.next = m.next ∧ (freshR m mb mn base).1.came.length ≤ m.came.length + 1 := by
  have h1 : (lifeR m mb).next = m.next ∧ (lifeR m mb).came.length ≤ m.came.length := by unfold lifeR; split <;> simp
  have h2 : (baseR (lifeR m mb) base).next = m.next ∧ (baseR (lifeR m mb) base).came.length ≤ m.came.length := by
    have e : (baseR (lifeR m mb) base).next = (lifeR m mb).next ∧ (baseR (lifeR m mb) base).came = (lifeR m mb).came := by unfold baseR; split <;> exact ⟨rfl, rfl⟩
    rw [e.1, e.2]; exact h1
  unfold freshR
  split
  · exact ⟨rfl, by simp⟩
  · split
    · exact ⟨h2.1, by simp only []; omega⟩
    · generalize baseR (lifeR m mb) base = u at *
      have h3 : (ackR u mb mn).next = u.next ∧ (ackR u mb mn).came = u.came := by unfold ackR; split <;> exact ⟨rfl, rfl⟩
      unfold takeR
      split
      · exact ⟨h3.1.trans h2.1, by simp only []; rw [h3.2]; omega⟩
      · exact ⟨h3.1.trans h2.1, by simp only [List.length_append]; rw [h3.2]; simp; omega⟩
theorem inR_next (m : RL) (f : Fr) : (inR m f).1.next = m.next ∧ (inR m f).1.came.length ≤ m.came.length + 1 := by
  unfold inR
  split
  · exact ⟨rfl, by simp⟩
  · split
    · exact ⟨rfl, by simp⟩
    · split
      · exact ⟨rfl, by simp [goneR]⟩
      · split
        · exact freshR_next _ _ _ _
        · exact freshR_next _ _ _ _

/-! ### Flips -/

theorem FrsP.bss {P : Nat → Prop} {w : World} {fo : Option Addr} {n cap : Nat} {fs : List (List UInt8)} (h : FrsP P w fo n cap fs) : BSS w fo n cap fs := by
  obtain ⟨h1, h2, h3, hs, h4, h5, h6, h7⟩ := h
  exact ⟨h1, h2, h3, hs, h4, h5, fun i a b => (h7 i a b).1⟩

/-- A slice of bytes is being changed. -/
structure FlipR (F : Nat → Prop) (w0 : World) (ao : Option Addr) (n cap : Nat) (jv : Value) (w : World) : Prop where
  ex : ∃ (j : Nat) (l : List UInt8), jv = .int .i64 (j : Int) ∧ j ≤ n ∧ Own F w 5 1 ao n cap (bv l) ∧ Kp F w0 w
/-- Frames are being changed, one after the other. -/
structure GotR (A D : Nat → Prop) (G : Nat → Nat → Prop) (hs : Hs) (w0 : World) (go : Option Addr) (n gcap : Nat) (jv : Value) (w : World) : Prop where
  ex : ∃ j : Nat, jv = .int .i64 (j : Int) ∧ j ≤ n ∧ Own A w 31 1 go n gcap (headsL hs) ∧ (∀ i (h : i < hs.length), ∃ l, Own (G i) w 5 1 hs[i].1 hs[i].2.1 hs[i].2.2 (bv l)) ∧ Kp D w0 w

/-- Between two steps. -/
structure RunR (W : World) (pl pm n : Nat) (iv : Value) (w : World) : Prop where
  ex : ∃ (i : Nat) (col : Nat → Nat) (s : LS) (m : RL) (r : RR), iv = .int .i64 (i : Int) ∧ i ≤ n ∧ i ≤ 100 ∧ RunV W pl pm col s m r m r w ∧ Sim s m ∧ m.next ≤ i + 1 ∧ m.came.length ≤ i
/-- Behind a step, before its own bytes are changed. -/
structure RunC (W : World) (pl pm gb nb i : Nat) (w : World) : Prop where
  ex : ∃ (col : Nat → Nat) (s : LS) (m : RL) (r : RR) (bs : List UInt8), RunV W pl pm col s m r m r w ∧ Sim s m ∧ m.next ≤ i + 2 ∧ m.came.length ≤ i + 1 ∧ Own (fun j => j = gb) w 5 1 (some ⟨gb, 0, none⟩) nb nb (bv bs) ∧ col gb = 0 ∧ W.heap.size ≤ gb

end Go.Proofs.Ytlpdoefbjhlegaa
