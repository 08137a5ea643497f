/-
  The texts Crash, TwiceP, TellsLaw, TwiceLaw, TwiceCore in one: what the claim reaches of them.
-/
import Derived.Test.YtgbgbokcohfnpaaGreatP32
import Derived.Test.YtgbgbokcohfnpaaGreatP35
import Derived.Test.YtgbgbokcohfnpaaGreatP29
import Derived.Test.YtgbgbokcohfnpaaGreatP13
import Derived.Test.YtgbgbokcohfnpaaGreatP03
import Derived.Test.YtgbgbokcohfnpaaGreatP31
import Derived.Deep.CutBlock
/-
  A loss of power in a law's walk: the disk alone is left; the log and the acceptor opened anew.
-/
namespace Go.Proofs.YtgbgbokcohfnpaaGreat
open Go.RowKit

theorem LI.fused {i : Nat} {s : DS} {l : LogP} (h : LI i s l) (n : Int) (_ : DOk s) (_ : -9223372036854775808 ≤ n ∧ n ≤ 9223372036854775807) : LI i (fuseF s n) l := by
  obtain ⟨⟨m, h1, h2⟩, h3, h4⟩ := h
  have h5 : Sim ⟨m.d.L, m.d.room, m.d.steps, max 0 n, m.d.down⟩ (fuseF s n) := ⟨h1.d.a, h1.d.room, h1.d.steps, rfl, h1.d.down⟩
  exact ⟨⟨⟨⟨m.d.L, m.d.room, m.d.steps, max 0 n, m.d.down⟩, m.lim, m.ps, m.shut⟩, ⟨h5, h1.lim, h1.ps, h1.shut, h1.last⟩, ⟨h2.ne, h2.lim, h2.len, h2.ps⟩⟩, h3.fuse n, h4⟩
theorem LawY.fused {W : World} {p ql q : Nat} {s : DS} {l : LogP} {a : AcS} {K : Nat} {bs : List (Nat × Obj)} {R : (Nat → Nat) → World → Prop} {col : Nat → Nat} {wx : World} (h : LawY W p ql q s l a K bs R col wx) (n : Int) (hn : -9223372036854775808 ≤ n ∧ n ≤ 9223372036854775807) :
    Calls Tryz.prog 30 #[.pointer (some ⟨p, 0, none⟩), .int .i64 n] wx fun e w' => e = .returned (.tuple #[]) ∧ ∃ col', LawY W p ql q (fuseF s n) l a K bs R col' w' ∧ wx.heap.size ≤ w'.heap.size := by
  refine (fuse_dk W.heap.size col 0 p s n wx h.ac.lg.dk h.ext.cols hn.2).mono ?_
  rintro e w' ⟨rfl, col', x, hd⟩
  have hlg : Lg 5 0 col' w' p ql (fuseF s n) l := (h.ac.lg.disk ⟨by decide, Or.inr (by decide)⟩ x hd).2
  have x2 : Ext W.heap.size (SL 0 5) col wx col' w' := x.mono (fun c hc => Or.inl hc)
  exact ⟨rfl, col', h.step (x2.mono (fun c hc => Or.inl hc)) (h.ac.ext_s x2 hlg) h.inv (h.li.fused n h.ac.lg.dk.2 hn), x.size⟩
/-- The disk alone, and what the law keeps of its own. -/
structure LawD (W : World) (p : Nat) (s : DS) (K : Nat) (bs : List (Nat × Obj)) (R : (Nat → Nat) → World → Prop) (col : Nat → Nat) (wx : World) : Prop where
  ext : Ext W.heap.size (fun c => c ≠ 0) (fun _ => 0) W col wx
  dk : Dk col 0 wx p s
  box : ∀ x ∈ bs, wx.heap[x.1]? = some x.2 ∧ col x.1 = 0
  own : R col wx
  stab : StabX W.heap.size R
  sim : ∃ m, Sim m s
  sm : SmallD s
  st : s.steps ≤ 300000 * ((K : Int) + 1)
section
variable {W : World} {p ql q : Nat} {s : DS} {l : LogP} {a : AcS} {K : Nat} {bs : List (Nat × Obj)} {R : (Nat → Nat) → World → Prop} {col : Nat → Nat} {wx : World}
theorem LawY.disk (h : LawY W p ql q s l a K bs R col wx) : LawD W p s K bs R col wx := by
  obtain ⟨⟨m, h1, -⟩, h3, h4⟩ := h.li
  exact ⟨h.ext, h.ac.lg.dk, h.box, h.own, h.stab, ⟨m.d, h1.d⟩, h3, h4⟩
theorem LawD.keep {w' : World} (h : LawD W p s K bs R col wx) (k : Kp Noone wx w') : LawD W p s K bs R col w' :=
  ⟨h.ext.trans (Ext.quiet h.ext.cols k), h.dk.keep k, fun x hx => ⟨k.heap (h.box x hx).1 id, (h.box x hx).2⟩, h.stab _ _ _ _ (Ext.quiet h.ext.cols k) h.own, h.stab, h.sim, h.sm, h.st⟩
theorem LawD.old (h : LawD W p s K bs R col wx) : Kp Noone W wx := h.ext.kp.mono (fun _ _ c => absurd rfl c)
theorem LawD.step {s' : DS} {K' : Nat} {w' : World} {col' : Nat → Nat} (h : LawD W p s K bs R col wx) (e : Ext W.heap.size SX col wx col' w') (hd : Dk col' 0 w' p s') (hsim : ∃ m, Sim m s') (hsm : SmallD s') (hst : s'.steps ≤ 300000 * ((K' : Int) + 1)) : LawD W p s' K' bs R col' w' :=
  ⟨h.ext.trans (e.mono sx_ne), hd, fun x hx => by
    obtain ⟨b1, b2⟩ := h.box x hx
    exact ⟨e.kp.heap b1 (by rw [b2]; exact sx_zero), (e.old x.1 (Array.getElem?_eq_some_iff.1 b1).1).trans b2⟩, h.stab _ _ _ _ e h.own, h.stab, hsim, hsm, hst⟩
attribute [local irreducible] openF crashF
theorem LawD.crash (h : LawD W p s K bs R col wx) (fo : Option Addr) (n cap : Nat) (keep : List Int) (hk : IS wx fo n cap keep) (hc : keep ≠ [] → ∀ a, fo = some a → col a.block = 0) :
    Calls Tryz.prog 31 #[.pointer (some ⟨p, 0, none⟩), .slice fo n cap] wx fun e w' => e = .returned (.tuple #[]) ∧ ∃ col', LawD W p (crashF s keep) K bs R col' w' ∧ wx.heap.size ≤ w'.heap.size := by
  refine (crash_dk W.heap.size col 0 p s fo n cap keep wx h.dk h.ext.cols h.ext.size hk hc).mono ?_
  rintro e w' ⟨rfl, col', x, hd⟩
  obtain ⟨m, hm⟩ := h.sim
  exact ⟨rfl, col', h.step (x.mono (fun c hc => Or.inl (Or.inl hc))) hd ⟨_, sim_crashF hm h.dk.2 keep⟩ (h.sm.crash keep) (by rw [crashF_steps9]; exact h.st), x.size⟩
/-- What wal.Open leaves, where it succeeds. -/
structure DOpen (W : World) (p : Nat) (s' : DS) (l : LogP) (recs : Recs) (K : Nat) (bs : List (Nat × Obj)) (R : (Nat → Nat) → World → Prop) (col : Nat → Nat) (wx : World) (e : Ending) (w' : World) : Prop where
  ex : ∃ col' ql ro rc, e = .returned (.tuple #[.pointer (some ⟨ql, 0, none⟩), .slice ro recs.length rc, .int .i64 0]) ∧ LawD W p s' (K + 1) bs R col' w' ∧ Lg 5 0 col' w' p ql s' l ∧ RecB (fun j => col' j = 0) w' ro recs.length (datas recs) ∧ LI (K + 1) s' l ∧ Ext W.heap.size (SL 0 5) col wx col' w'
theorem LawD.open (h : LawD W p s K bs R col wx) (hK : K ≤ 90000) {n : Int} {s' : DS} {l : LogP} {recs : Recs} (hop : openF s n = (s', some (l, recs), 0)) :
    Calls Tryz.prog 21 #[.pointer (some ⟨p, 0, none⟩), .int .i64 n] wx fun e w' => DOpen W p s' l recs K bs R col wx e w' := by
  obtain ⟨m, hm⟩ := h.sim
  have hst := h.st
  have hk := open_kept hm h.dk.2 h.sm (by omega) n
  have hli := LI.opened (i := K) hm h.dk.2 h.sm hst (by omega) hop
  have hsmall := openF_small h.sm hop
  refine (open_l W.heap.size 5 0 col wx p s n h.dk h.ext.cols h.ext.size ⟨by decide, Or.inr (by decide)⟩ (by omega) (fun k => h.sm.read k)).mono ?_
  rintro e w' hto
  rw [hop] at hto
  obtain ⟨col', x, hd, hcase⟩ := hto.ex
  rcases hcase with ⟨c, -⟩ | ⟨l2, recs2, ql, ro, rc, rh, he, -, rfl, -, hlg, hown, hrec⟩
  · cases c
  cases he
  have hli2 := hli
  obtain ⟨⟨m2, g1, -⟩, g3, g4⟩ := hli2
  exact ⟨col', ql, ro, rc, rfl, h.step (x.mono (fun c hc => Or.inl hc)) hd ⟨m2.d, g1.d⟩ g3 (by omega), hlg, RecB.of hown hrec hsmall, hli, x⟩
theorem DOpen.acceptor {w' : World} {ql : Nat} {ro : Option Addr} {rc : Nat} {recs : Recs} {a : AcS} (h : LawD W p s K bs R col w') (hlg : Lg 5 0 col w' p ql s l) (hr : RecB (fun j => col j = 0) w' ro recs.length (datas recs)) (hli : LI K s l) (hn : recs.length ≤ 4611686018427387904) (ha : openA (datas recs) 0 0 = (some a, 0)) (hi : AInv a) :
    Calls Tryz.prog 23 #[.pointer (some ⟨ql, 0, none⟩), .slice ro recs.length rc, .int .i64 0, .int .i64 0] w' fun e w2 => ∃ col2 q, e = .returned (.tuple #[.pointer (some ⟨q, 0, none⟩), .int .i64 0]) ∧ LawY W p ql q s l a K bs R col2 w2 ∧ w'.heap.size ≤ w2.heap.size ∧ Ext W.heap.size (SA 8) col w' col2 w2 := by
  have hoa := openA_a W.heap.size 8 col w' ql ro recs.length rc (datas recs) 0 0 hr h.ext.cols h.ext.size (by decide) hn
  rw [ha] at hoa
  refine hoa.mono ?_
  rintro e w2 ⟨⟨col2, x, hcs⟩⟩
  rcases hcs with ⟨e0, c, -⟩ | ⟨a2, q, c, rfl, -, hac⟩
  · cases c
  cases c
  exact ⟨col2, q, rfl, ⟨h.ext.trans (x.mono (fun c hc => by unfold SA at hc; omega)), ⟨hlg.ext_a h.ext.cols x, hac⟩, fun y hy => by
    obtain ⟨b1, b2⟩ := h.box y hy
    exact ⟨x.kp.heap b1 (by rw [b2]; unfold SA; omega), (x.old y.1 (Array.getElem?_eq_some_iff.1 b1).1).trans b2⟩, h.stab _ _ _ _ (x.mono (fun c hc => Or.inr hc)) h.own, h.stab, hi, hli⟩, x.size, x⟩
end

end Go.Proofs.YtgbgbokcohfnpaaGreat

/-
  For the laws on losses of power: readers of an acceptor of any colour; what a write leaves of steps and pieces.
-/
namespace Go.Proofs.YtgbgbokcohfnpaaGreat
open Go.RowKit

set_option maxHeartbeats 1000000 in
theorem epoch_c (c : Nat) (col : Nat → Nat) (w : World) (q lq : Nat) (a : AcS) (h : AcAt c col w q lq a) :
    Calls Tryz.prog 26 #[.pointer (some ⟨q, 0, none⟩)] w fun e w' => e = .returned (.int .i64 a.epoch) ∧ w = w' := by
  obtain ⟨mb, x0, x1, x2, x3, x4, x5⟩ := h.cells
  clear h x1 x2 x3 x4 x5
  go_enter Tryz.func26, Tryz.ntmps26
  go_wp2_with fail
  go_ret
  exact ⟨rfl, rfl⟩
set_option maxHeartbeats 1000000 in
theorem floor_c (c : Nat) (col : Nat → Nat) (w : World) (q lq : Nat) (a : AcS) (h : AcAt c col w q lq a) :
    Calls Tryz.prog 19 #[.pointer (some ⟨q, 0, none⟩)] w fun e w' => e = .returned (.int .i64 a.floor) ∧ w = w' := by
  obtain ⟨mb, x0, x1, x2, x3, x4, x5⟩ := h.cells
  clear h x0 x2 x3 x4 x5
  go_enter Tryz.func19, Tryz.ntmps19
  go_wp2_with fail
  go_ret
  exact ⟨rfl, rfl⟩
set_option maxHeartbeats 1000000 in
theorem promised_c (c : Nat) (col : Nat → Nat) (w : World) (q lq : Nat) (a : AcS) (h : AcAt c col w q lq a) :
    Calls Tryz.prog 16 #[.pointer (some ⟨q, 0, none⟩)] w fun e w' => e = .returned (.agg #[.int .i64 a.prom.round, .int .i64 a.prom.node]) ∧ Kp Noone w w' := by
  have hb := heap_alloc_new w (.cells #[.int .i64 0, .int .i64 0] 24)
  have kA : Kp Noone w (w.alloc (.cells #[.int .i64 0, .int .i64 0] 24)) := (Kp.refl _ _).alloc _
  obtain ⟨mb, x0, x1, x2, x3, x4, x5⟩ := (h.keep kA).cells
  have hz := alloc_size w (.cells #[.int .i64 0, .int .i64 0] 24)
  clear h x0 x1 x4 x5
  go_enter Tryz.func16, Tryz.ntmps16
  go_upto_region 1 with fail
  generalize w.alloc (.cells #[.int .i64 0, .int .i64 0] 24) = wA at *
  have HN : Hid (∀ W, Kp (fun j => j = w.heap.size) wA W → Kp Noone w W) := Lib.hid (fun W k => kA.fin k (fun j d => Or.inr (by omega)))
  generalize w.heap.size = g at *
  obtain ⟨z0, z1⟩ := cells_2v hb
  have zf := frz hb
  have zf0 := zf 0
  have zf1 := zf 1
  have HT := Lib.hid (two_set9 (x := .int .i64 a.prom.round) (y := .int .i64 a.prom.node) hb)
  clear hb zf kA hz
  go_wp2_with fail
  refine bodyPost_ret (results_cell_row (p := 2) (ty := 24) rfl _ _ g 24 _ (0, 0) _ (by rfl) HT.out.1 Tryz.underlying24 rfl (by kernel_rfl)) rfl ?_
  exact ⟨rfl, HN.out _ HT.out.2⟩
/-! ### Steps and pieces behind a write -/
theorem aliveF_pieces (s : DS) (l : LogP) : (aliveF s l).1.pieces = l.pieces := by
  unfold aliveF
  split <;> rfl
theorem appTail_pieces (s : DS) (l : LogP) (d : List UInt8) : (appTail s l d).2.1.pieces = l.pieces := by
  unfold appTail
  split
  · exact metF_pieces _ _
  · rfl
theorem beginF_pieces (s : DS) (l : LogP) (a b : Nat) : (beginF s l a b).2.1.pieces.length ≤ l.pieces.length + 1 := by
  unfold beginF
  split
  · rw [metF_pieces]; omega
  · unfold beginB
    split
    · split
      · rw [metF_pieces]; omega
      · simp only []; omega
    · split
      · rw [metF_pieces]; omega
      · unfold beginOk
        simp
theorem appendLF_pieces (s : DS) (l : LogP) (d : List UInt8) : (appendLF s l d).2.1.pieces.length ≤ l.pieces.length + 1 := by
  unfold appendLF
  split
  · rw [aliveF_pieces]; omega
  · split
    · simp only []; omega
    · split
      · split
        · simp only []; omega
        · unfold rollF
          split
          · rw [metF_pieces]; omega
          · have hb := beginF_pieces (syncF s (walName (lastP l).1)).1 l ((lastP l).1 + 1) l.next
            unfold roll2
            split
            · exact hb
            · rw [appTail_pieces]; exact hb
      · rw [appTail_pieces]; omega
theorem syncLF_pieces (s : DS) (l : LogP) : (syncLF s l).2.1.pieces = l.pieces := by
  unfold syncLF
  split
  · exact aliveF_pieces _ _
  · exact metF_pieces _ _
theorem writeF_bd : ∀ (ds : List (List UInt8)) (b : Bool) (f : Nat) (s : DS) (l : LogP), (writeF ds b f s l).1.steps ≤ s.steps + 6 * ds.length + 1 ∧ (writeF ds b f s l).2.1.pieces.length ≤ l.pieces.length + ds.length
  | [], b, f, s, l => by
    have := syncLF_steps s l
    unfold writeF
    simp only [List.length_nil]
    rw [syncLF_pieces]
    omega
  | d :: r, b, f, s, l => by
    have h1 := appendLF_steps s l d
    have h2 := appendLF_pieces s l d
    unfold writeF
    rw [List.length_cons]
    split
    · simp only []
      omega
    · have h3 := writeF_bd r false (if b = true then (appendLF s l d).2.2.1 else f) (appendLF s l d).1 (appendLF s l d).2.1
      omega
theorem LI.room {i : Nat} {s : DS} {l : LogP} (h : LI i s l) (hi : i ≤ 100000) (ds : List (List UInt8)) (hn : ds.length ≤ 1000) : s.steps < 4611686018400000000 ∧ (writeF ds true 0 s l).1.steps + (writeF ds true 0 s l).2.1.pieces.length < 4611686018427360000 := by
  obtain ⟨-, -, -, h4, -⟩ := h.bd hi
  have h5 := h.st
  have h6 := writeF_bd ds true 0 s l
  omega
theorem raiseRecs_len {a : AcS} (h : AInv a) (f : Int) : ((raiseRecs a f).map recL).length ≤ 1000 := by
  rw [List.length_map]
  unfold raiseRecs
  rw [List.length_cons, List.length_map]
  have := h.ok.len h.win
  have h9 : (fromV a.votes (f + 1)).length ≤ a.votes.length := List.length_filter_le ..
  omega
theorem imageF_len {col : Nat → Nat} {i p : Nat} {w : World} {s : DS} {L : Img} (h : Dk col i w p s) (e : imageF s = L) : L.length ≤ 1048576 := by
  have h1 := h.2.len
  rw [← e]
  unfold imageF namesF
  rw [List.length_map, sortN_length, List.length_map]
  omega
/-- Nothing of the law's own. -/
def NoR : (Nat → Nat) → World → Prop := fun _ _ => True
theorem NoR.stab (B : Nat) : StabX B NoR := fun _ _ _ _ _ _ => trivial

end Go.Proofs.YtgbgbokcohfnpaaGreat

/-
  THE WALK of AcceptorTells.
-/
namespace Go.Proofs.YtgbgbokcohfnpaaGreat
open Go.RowKit Go.ChangeShapes Go.WideShapes Go.ChangeAt

theorem OpAS.at9 {W W' : World} {ao : Option Addr} {n cap : Nat} {ps : List OpA} (h : OpAS W ao n cap ps) (k : Kp Noone W W') {i : Nat} (hi : i < n) : ∃ b off l ko kc, ∃ hl : i < ps.length, ao = some ⟨b, off, none⟩ ∧ OpAAt W' ps[i] b (off + i * 9) l ko kc := by
  have hl : i < ps.length := by have := h.len; omega
  obtain ⟨b, off, l, ko, kc, e, -, h1, ⟨⟨c0, c1, c2, c3⟩, c4, c5, c6, c7, c8⟩, h3, h4, h5⟩ := h.get i hl
  exact ⟨b, off, l, ko, kc, hl, e, h1, ⟨⟨k.cell c0 id, k.cell c1 id, k.cell c2 id, k.cell c3 id⟩, k.cell c4 id, k.cell c5 id, k.cell c6 id, k.cell c7 id, k.cell c8 id⟩, h3.keep k, h4.keep k, h5⟩
theorem cells_9v {w : World} {g : Nat} {a b c d e f k i j : Value} {T : TypeId} {fr : Nat × Nat} (h : w.heap[g]? = some (.cells #[a, b, c, d, e, f, k, i, j] T fr)) :
    (w.cell? ⟨g, 0, none⟩ = some a ∧ w.cell? ⟨g, 1, none⟩ = some b ∧ w.cell? ⟨g, 2, none⟩ = some c ∧ w.cell? ⟨g, 3, none⟩ = some d) ∧ w.cell? ⟨g, 4, none⟩ = some e ∧ w.cell? ⟨g, 5, none⟩ = some f ∧ w.cell? ⟨g, 6, none⟩ = some k ∧ w.cell? ⟨g, 7, none⟩ = some i ∧ w.cell? ⟨g, 8, none⟩ = some j :=
  ⟨⟨cell_of_row w g 0 _ T fr h, cell_of_row w g 1 _ T fr h, cell_of_row w g 2 _ T fr h, cell_of_row w g 3 _ T fr h⟩, cell_of_row w g 4 _ T fr h, cell_of_row w g 5 _ T fr h, cell_of_row w g 6 _ T fr h, cell_of_row w g 7 _ T fr h, cell_of_row w g 8 _ T fr h⟩
attribute [local irreducible] prepA accA raiseO openF newF
attribute [local go_sem ↓] stM_eq
end Go.Proofs.YtgbgbokcohfnpaaGreat

/-
  THE WALK of AcceptorTwice.
-/
namespace Go.Proofs.YtgbgbokcohfnpaaGreat
open Go.RowKit Go.ChangeShapes Go.WideShapes Go.ChangeAt

/-- At a round's head. -/
structure TwH (w1 : World) (p ql q : Nat) (lim : Nat) (i : Nat) (wx : World) : Prop where
  ex : ∃ (s : DS) (l : LogP) (a : AcS) (col : Nat → Nat), LawY w1 p ql q s l a (1 + 70 * i) [] NoR col wx ∧ JS i lim s l a
attribute [local irreducible] prepA accA raiseO enterO openF newF crashF
attribute [local go_sem ↓] stM_eq
set_option maxHeartbeats 20000000 in
set_option maxRecDepth 100000 in
theorem twice_of (room limit : Int) (ao : Option Addr) (n cap : Nat) (ps : List OpA) (W : World) (h : OpAS W ao n cap ps) :
    Calls Tryz.prog 7 #[.int .i64 room, .int .i64 limit, .slice ao n cap] W fun e w' => e = .returned (.bool true) ∧ Kp Noone W w' := by
  have HPS := Lib.hid h
  have hcap := h.max
  have hncap := h.le
  clear h
  have hhd := head14_any W
  go_enter Tryz.func7, Tryz.ntmps7
  go_wp2_with fail
  refine hhd.mono ?_
  clear hhd
  rintro e w1 ⟨rfl, k1⟩
  have HK1 := Lib.hid k1
  clear k1
  have hfr := fresh_any room limit w1
  rcases JS.start room limit with hA | ⟨s0, l0, hop, hjs⟩
  · obtain ⟨R, hR⟩ : ∃ R, openF (newF room) limit = R := ⟨_, rfl⟩
    rw [hR] at hfr hA
    obtain ⟨R1, R2⟩ := R
    simp only [] at hA
    subst hA
    clear hR
    go_wp2_with fail
    refine hfr.mono ?_
    clear hfr
    rintro e w2 ⟨⟨c2, p, x2, hcase⟩⟩
    rcases hcase with ⟨-, -, -, rfl⟩ | ⟨l, q, ql, hR, -⟩
    · have HKE : Hid (Kp Noone W w2) := Lib.hid (HK1.out.trans (x2.kp.mono (fun j _ c => absurd rfl c)))
      clear x2
      go_wp2_with fail
      go_ret
      exact ⟨rfl, HKE.out⟩
    · cases hR
  rw [hop] at hfr
  have HJ0 := Lib.hid hjs
  clear hop hjs
  go_wp2_with fail
  refine hfr.mono ?_
  clear hfr
  rintro e w2 ⟨⟨c2, p, x2, hcase⟩⟩
  rcases hcase with ⟨hx, -⟩ | ⟨l, q, ql, hR, rfl, hA, hL⟩
  · cases hx
  cases hR
  simp only [] at hA hL
  have HX0 : Hid (TwH w1 p ql q (limF limit) 0 w2) := Lib.hid ⟨s0, l0, enterA 0 0, c2, ⟨x2, hA, fun y hy => (by cases hy), trivial, NoR.stab _, AInv.start, hL⟩, HJ0.out⟩
  clear x2 hA hL HJ0
  go_upto_block 0 with fail
  go_cut [10, 11] from 36 to 90 (fun _ _ wx => ∃ (s : DS) (l : LogP) (a : AcS) (col : Nat → Nat), Hid (LawY w1 p ql q s l a 5000 [] NoR col wx) ∧ Hid (JS 60 (limF limit) s l a))
  case first =>
    go_wp2_with fail
    go_loopw [10] (fun v10 wx => ∃ i : Nat, v10 = .int .i64 (i : Int) ∧ i ≤ 60 ∧ Hid (TwH w1 p ql q (limF limit) i wx)) (fun u _ => (61 - intOf u).toNat)
    case atStart => exact ⟨0, rfl, Nat.zero_le _, HX0⟩
    case round =>
      obtain ⟨i, rfl, hi60, hx⟩ := hrel
      clear HX0
      obtain ⟨s, l, a, col, hx1, hj1⟩ := hx.out.ex
      have HX := Lib.hid hx1
      have HJ := Lib.hid hj1
      clear hx hx1 hj1
      by_cases hgo : i < n ∧ i < 60
      · obtain ⟨hin, hi6⟩ := hgo
        have hinz : (i : Int) < (n : Int) := by omega
        have hi6z : (i : Int) < 60 := by omega
        have hwi : IntKind.i64.wrap ((i : Int) + 1) = (i : Int) + 1 := IntWalk.i64_in _ (by omega)
        obtain ⟨pb, off, lv, ko, kc, hl, hao, hat⟩ := HPS.out.at9 (HK1.out.trans HX.out.old) hin
        generalize ps[i] = o at *
        obtain ⟨ok, ⟨ord, ond⟩, on, om, ov, okeep⟩ := o
        obtain ⟨hrng, ⟨⟨y0, y1, y2, y3⟩, y4, y5, y6, y7, y8⟩, hva, -, hlen⟩ := hat
        simp only [] at y0 y1 y2 y3 y4 y5 y6 y7 y8 hva hlen
        subst hao
        have HVA := Lib.hid hva
        have HLN := Lib.hid hlen
        have HRG := Lib.hid hrng
        have HX1 := Lib.hid (HX.out.boxed (.cells #[.int .i64 ok, .int .i64 ord, .int .i64 ond, .int .i64 on, .int .i64 om, .int .i64 ov.kind, .slice lv.co ov.cmds.length lv.cc, .slice lv.no ov.next.length lv.nc, .slice ko okeep.length kc] 36))
        have kB : Kp Noone wr (wr.alloc (.cells #[.int .i64 ok, .int .i64 ord, .int .i64 ond, .int .i64 on, .int .i64 om, .int .i64 ov.kind, .slice lv.co ov.cmds.length lv.cc, .slice lv.no ov.next.length lv.nc, .slice ko okeep.length kc] 36)) := (Kp.refl _ _).alloc _
        have HVB := Lib.hid (hva.keep kB)
        have HRM : Hid (∀ ds : List (List UInt8), ds.length ≤ 1000 → s.steps < 4611686018400000000 ∧ (writeF ds true 0 s l).1.steps + (writeF ds true 0 s l).2.1.pieces.length < 4611686018427360000) := Lib.hid (fun ds hd => HX.out.li.room (by omega) ds hd)
        have HST : Hid (s.steps < 4611686018400000000) := Lib.hid (HRM.out [] (by simp)).1
        clear hva hlen hl kB hrng
        go_upto_region 10 with fail
        clear y0 y1 y2 y3 y4 y5 y6 y7 y8
        generalize wr.alloc (.cells #[.int .i64 ok, .int .i64 ord, .int .i64 ond, .int .i64 on, .int .i64 om, .int .i64 ov.kind, .slice lv.co ov.cmds.length lv.cc, .slice lv.no ov.next.length lv.nc, .slice ko okeep.length kc] 36) = wB at *
        generalize wr.heap.size = gB at *
        obtain ⟨⟨z0, z1, z2, z3⟩, z4, z5, z6, z7, -⟩ := cells_9v (HX1.out.cell9 (List.mem_cons_self ..))
        rcases (by omega : ok = 0 ∨ ok = 1 ∨ ok = 2 ∨ ok = 3 ∨ ok = 4 ∨ (ok ≠ 0 ∧ ok ≠ 1 ∧ ok ≠ 2 ∧ ok ≠ 3 ∧ ok ≠ 4)) with rfl | rfl | rfl | rfl | rfl | ⟨k0, k1, k2, k3, k4⟩
        · have hp := HX1.out.prepare (by omega) ⟨ord, ond⟩ on
          have HJ3 := Lib.hid (HJ.out.prep ⟨ord, ond⟩ on (by omega) HST.out)
          clear z4 z5 z6 z7
          go_wp2_with fail
          refine hp.mono ?_
          clear hp z0 z1 z2 z3
          rintro e w3 ⟨⟨col', vo, vc, m, hlaw, rfl, -⟩, -⟩
          have HL3 : Hid (TwH w1 p ql q (limF limit) (i + 1) w3) := Lib.hid ⟨_, _, _, col', (hlaw.less (fun x hx => by cases hx)).mono (by omega), HJ3.out⟩
          clear hlaw
          go_wp2_with fail
          go_roundw
          case rel => exact ⟨i + 1, rfl, by omega, HL3⟩
          case measure => simp [intOf]; omega
        · have kd : Kp Noone wB wB.drew := (Kp.refl _ _).drew
          have hcp := refCopy_any ov lv wB.drew (HVB.out.keep kd) (by have := HLN.out; omega) (by have := HLN.out; omega)
          unfold valV at hcp
          have hX1d := HX1.out.keep kd
          have HJ3 := Lib.hid (HJ.out.acc ⟨ord, ond⟩ on ov (by omega) HST.out)
          have HSX : Hid (∀ W', Kp Noone wB W' → (W'.cell? ⟨gB, 0, none⟩ = some (.int .i64 1) ∧ W'.cell? ⟨gB, 1, none⟩ = some (.int .i64 ord) ∧ W'.cell? ⟨gB, 2, none⟩ = some (.int .i64 ond) ∧ W'.cell? ⟨gB, 3, none⟩ = some (.int .i64 on)) ∧ W'.cell? ⟨gB, 5, none⟩ = some (.int .i64 ov.kind) ∧ W'.cell? ⟨gB, 6, none⟩ = some (.slice lv.co ov.cmds.length lv.cc) ∧ W'.cell? ⟨gB, 7, none⟩ = some (.slice lv.no ov.next.length lv.nc)) := Lib.hid (fun W' kk => by
            obtain ⟨a1, a2, a3, a4, a5, a6⟩ := cells_9v (kk.heap (HX1.out.cell9 (List.mem_cons_self ..)) id)
            exact ⟨a1, a3, a4, a5⟩)
          go_upto_region 14 with fail
          clear z0 z1 z2 z3 z4 z5 z6 z7
          have hS1 := HSX.out _ kd
          obtain ⟨⟨z0, z1, z2, z3⟩, z5, z6, z7⟩ := HSX.out _ kd
          go_region_held3 (fun W' => (W'.cell? ⟨gB, 0, none⟩ = some (.int .i64 1) ∧ W'.cell? ⟨gB, 1, none⟩ = some (.int .i64 ord) ∧ W'.cell? ⟨gB, 2, none⟩ = some (.int .i64 ond) ∧ W'.cell? ⟨gB, 3, none⟩ = some (.int .i64 on)) ∧ W'.cell? ⟨gB, 5, none⟩ = some (.int .i64 ov.kind) ∧ W'.cell? ⟨gB, 6, none⟩ = some (.slice lv.co ov.cmds.length lv.cc) ∧ W'.cell? ⟨gB, 7, none⟩ = some (.slice lv.no ov.next.length lv.nc))
            (first | with_reducible exact hS1 | with_reducible exact hS2 | with_reducible exact hS3)
            (first
              | (go_at_call 13; refine hcp.mono ?_; rintro e w3 ⟨m3, rfl, hov, k3⟩; have hS2 := HSX.out _ (kd.trans k3); have hac := (hX1d.keep k3).accept (by omega) ⟨ord, ond⟩ on ov m3 (hov.in.mono (fun j _ d => cols_new hX1d.ext.cols d.none.1)) (by have := HLN.out; omega) (by have := HLN.out; omega); unfold valV at hac)
              | (go_at_call 12; refine hac.mono ?_; rintro e w4 ⟨⟨col', vo, vc, m4, hlaw, rfl, -⟩, -⟩; have hS3 : (fun W' : World => (W'.cell? ⟨gB, 0, none⟩ = some (.int .i64 1) ∧ W'.cell? ⟨gB, 1, none⟩ = some (.int .i64 ord) ∧ W'.cell? ⟨gB, 2, none⟩ = some (.int .i64 ond) ∧ W'.cell? ⟨gB, 3, none⟩ = some (.int .i64 on)) ∧ W'.cell? ⟨gB, 5, none⟩ = some (.int .i64 ov.kind) ∧ W'.cell? ⟨gB, 6, none⟩ = some (.slice lv.co ov.cmds.length lv.cc) ∧ W'.cell? ⟨gB, 7, none⟩ = some (.slice lv.no ov.next.length lv.nc)) w4 := (by obtain ⟨a1, a2, a3, a4, a5, a6⟩ := cells_9v (hlaw.cell9 (List.mem_cons_self ..)); exact ⟨a1, a3, a4, a5⟩)))
          have HL3 : Hid (TwH w1 p ql q (limF limit) (i + 1) w4) := Lib.hid ⟨_, _, _, col', (hlaw.less (fun x hx => by cases hx)).mono (by omega), HJ3.out⟩
          clear hlaw hS1 hS2 hS3 hac hcp hov k3 kd hX1d z0 z1 z2 z3 z5 z6 z7
          go_wp2_with fail
          go_roundw
          case rel => exact ⟨i + 1, rfl, by omega, HL3⟩
          case measure => simp [intOf]; omega
        · have hp := HX1.out.raised (by omega) on
          have HJ3 := Lib.hid (HJ.out.raise on (by omega) HST.out (HRM.out _ (raiseRecs_len HX.out.inv on)).2)
          clear z4 z5 z6 z7 z1 z2
          go_wp2_with fail
          refine hp.mono ?_
          clear hp z0 z3
          rintro e w3 ⟨rfl, col', hlaw, -⟩
          have HL3 : Hid (TwH w1 p ql q (limF limit) (i + 1) w3) := Lib.hid ⟨_, _, _, col', (hlaw.less (fun x hx => by cases hx)).mono (by omega), HJ3.out⟩
          clear hlaw
          go_wp2_with fail
          go_roundw
          case rel => exact ⟨i + 1, rfl, by omega, HL3⟩
          case measure => simp [intOf]; omega
        · have hp := HX1.out.entered (by omega) om on
          have HJ3 := Lib.hid (HJ.out.enter om on (by omega) HST.out (HRM.out _ (by simp)).2)
          clear z5 z6 z7 z1 z2
          go_wp2_with fail
          refine hp.mono ?_
          clear hp z0 z3 z4
          rintro e w3 ⟨rfl, col', hlaw, -⟩
          have HL3 : Hid (TwH w1 p ql q (limF limit) (i + 1) w3) := Lib.hid ⟨_, _, _, col', (hlaw.less (fun x hx => by cases hx)).mono (by omega), HJ3.out⟩
          clear hlaw
          go_wp2_with fail
          go_roundw
          case rel => exact ⟨i + 1, rfl, by omega, HL3⟩
          case measure => simp [intOf]; omega
        · have hon : -9223372036854775808 ≤ on ∧ on ≤ 9223372036854775807 := HRG.out.1
          have hp := HX1.out.fused on hon
          have HJ3 := Lib.hid (HJ.out.fuse hon.2)
          clear z4 z5 z6 z7 z1 z2 hon
          go_wp2_with fail
          refine hp.mono ?_
          clear hp z0 z3
          rintro e w3 ⟨rfl, col', hlaw, -⟩
          have HL3 : Hid (TwH w1 p ql q (limF limit) (i + 1) w3) := Lib.hid ⟨_, _, _, col', (hlaw.less (fun x hx => by cases hx)).mono (by omega), HJ3.out.mono (Nat.le_succ i)⟩
          clear hlaw
          go_wp2_with fail
          go_roundw
          case rel => exact ⟨i + 1, rfl, by omega, HL3⟩
          case measure => simp [intOf]; omega
        · have q0 : (ok == 0) = false := beq_eq_false_iff_ne.2 k0
          have q1 : (ok == 1) = false := beq_eq_false_iff_ne.2 k1
          have q2 : (ok == 2) = false := beq_eq_false_iff_ne.2 k2
          have q3 : (ok == 3) = false := beq_eq_false_iff_ne.2 k3
          have q4 : (ok == 4) = false := beq_eq_false_iff_ne.2 k4
          have HL3 : Hid (TwH w1 p ql q (limF limit) (i + 1) wB) := Lib.hid ⟨_, _, _, col, (HX1.out.less (fun x hx => by cases hx)).mono (by omega), HJ.out.mono (Nat.le_succ i)⟩
          clear z1 z2 z3 z4 z5 z6 z7 k0 k1 k2 k3 k4
          go_wp2_with fail
          go_roundw
          case rel => exact ⟨i + 1, rfl, by omega, HL3⟩
          case measure => simp [intOf]; omega
      · have HXE := Lib.hid (HX.out.mono (K' := 5000) (by omega))
        have HJE := Lib.hid (HJ.out.mono hi60)
        clear HX HJ
        rcases (by omega : ¬ (i : Int) < (n : Int) ∨ ((i : Int) < (n : Int) ∧ ¬ (i : Int) < 60)) with hend | ⟨hend, hend2⟩
        all_goals (
          clear hgo
          go_wp2_with fail
          go_meet
          case rel => exact ⟨s, l, a, col, HXE, HJE⟩)
  case rest =>
    clear HX0
    obtain ⟨s, l, a, col, HX, HJ⟩ := id hcut
    clear hcut
    obtain ⟨wr, hwr⟩ : ∃ x, x = wc := ⟨_, rfl⟩
    subst hwr
    obtain ⟨s5, l5, recs, A5, hja⟩ := HJ.out.crash [] (n := limit) rfl (by have := HX.out.li.st; omega)
    have HJA := Lib.hid hja
    have hcr := HX.out.disk.crash none 0 0 [] (IS.nil0 _ _ _ (Nat.zero_le _)) (fun c => absurd rfl c)
    clear hja HX HJ
    go_wp2_with fail
    refine hcr.mono ?_
    clear hcr
    rintro e w4 ⟨rfl, col4, hd4, -⟩
    have hop := hd4.open (by decide) HJA.out.op
    clear hd4
    go_wp2_with fail
    refine hop.mono ?_
    clear hop
    rintro e w5 ⟨⟨col5, ql5, ro, rc, rfl, hd5, hlg5, hrb5, hli5, -⟩⟩
    have hac := DOpen.acceptor (rc := rc) hd5 hlg5 hrb5 hli5 (by have := HJA.out.len; omega) HJA.out.ac HJA.out.js.inv
    clear hd5 hlg5 hrb5 hli5
    go_wp2_with fail
    refine hac.mono ?_
    clear hac
    rintro e w6 ⟨col6, q6, rfl, hy6, -, -⟩
    have HY6 := Lib.hid hy6
    have himg := image_dk col6 0 p s5 w6 hy6.ac.lg.dk
    clear hy6
    go_wp2_with fail
    refine himg.mono ?_
    clear himg
    rintro e w7 ⟨io, ic, rfl, hi7, k7⟩
    obtain ⟨iL, hiL⟩ : ∃ iL, Hid (iL = imageF s5) := ⟨_, Lib.hid rfl⟩
    rw [← hiL.out] at hi7 ⊢
    have HI7 := Lib.hid hi7
    have HY7 := Lib.hid (HY6.out.keep k7)
    obtain ⟨s8, l8, hop2, him2⟩ := HJA.out.twice
    have HIM2 : Hid (imageF s8 = iL) := Lib.hid (him2.trans hiL.out.symm)
    have hop := HY7.out.disk.open (by decide) hop2
    have HZ7 : Hid (w6.heap.size ≤ w7.heap.size) := Lib.hid k7.size
    clear hi7 k7 hop2 him2
    go_wp2_with fail
    refine hop.mono ?_
    clear hop
    rintro e w8 ⟨⟨col8, ql8, ro8, rc8, rfl, hd8, hlg8, hrb8, hli8, x8⟩⟩
    have HD8 := Lib.hid hd8
    have HX8 := Lib.hid x8
    have hoa := openA_a w1.heap.size 12 col8 w8 ql8 ro8 recs.length rc8 (datas recs) 0 0 hrb8 hd8.ext.cols hd8.ext.size (by decide) (by have := HJA.out.len; omega)
    rw [HJA.out.ac] at hoa
    clear hd8 hlg8 hrb8 hli8 x8
    go_wp2_with fail
    refine hoa.mono ?_
    clear hoa
    rintro e w9 ⟨⟨col9, x9, hcs⟩⟩
    rcases hcs with ⟨e0, c, -⟩ | ⟨a2, q9, c, rfl, -, hac9⟩
    · cases c
    cases c
    have HA9 := Lib.hid hac9
    have HX9 := Lib.hid x9
    have HAX : Hid (AcAt 8 col9 w9 q6 ql5 A5) := Lib.hid ((HY7.out.ac.ac.ext HX8.out (by unfold SL S3; omega) (by unfold SL S3; omega) (by unfold SL S3; omega)).ext x9 (by unfold SA; omega) (by unfold SA; omega) (by unfold SA; omega))
    have HDK : Hid (Dk col9 0 w9 p s8) := Lib.hid (HD8.out.dk.ext HD8.out.ext.cols x9 (fun c h => by unfold S3 at h; unfold SA; omega))
    have HI9 : Hid (ImgAt w6.heap.size w9 io iL.length ic iL) := Lib.hid (by
      have e : Ext w1.heap.size (fun c => c ≠ 0) col6 w7 col9 w9 := (HX8.out.mono (fun c h => by unfold SL S3 at h; omega)).trans (x9.mono (fun c h => by unfold SA at h; omega))
      exact HI7.out.kp e.kp (fun j hz _ d => d (cols_new HY6.out.ext.cols hz)))
    have HKW : Hid (Kp Noone W w9) := Lib.hid (HK1.out.trans ((HD8.out.ext.trans (x9.mono (fun c h => by unfold SA at h; omega))).kp.mono (fun _ _ c => absurd rfl c)))
    have HINV := Lib.hid HJA.out.js.inv
    clear hac9 x9 HX8 HX9 HD8 HY6 HY7 HI7 HJA
    have hep := epoch_c 8 col9 w9 q6 ql5 A5 HAX.out
    have hep2 := epoch_c 12 col9 w9 q9 ql8 A5 HA9.out
    have hfl := floor_c 8 col9 w9 q6 ql5 A5 HAX.out
    have hfl2 := floor_c 12 col9 w9 q9 ql8 A5 HA9.out
    go_wp2_with fail
    refine hep.mono ?_
    clear hep
    rintro e w10 ⟨rfl, rfl⟩
    go_wp2_with fail
    refine hep2.mono ?_
    clear hep2
    rintro e w10 ⟨rfl, rfl⟩
    go_wp2_with fail
    refine hfl.mono ?_
    clear hfl
    rintro e w10 ⟨rfl, rfl⟩
    go_wp2_with fail
    refine hfl2.mono ?_
    clear hfl2
    rintro e w10 ⟨rfl, rfl⟩
    have hpr := promised_c 8 col9 w9 q6 ql5 A5 HAX.out
    go_wp2_with fail
    refine hpr.mono ?_
    clear hpr
    rintro e w10 ⟨rfl, k10⟩
    have HK10 := Lib.hid k10
    have hpr := promised_c 12 col9 w10 q9 ql8 A5 (HA9.out.keep k10)
    clear k10
    go_wp2_with fail
    refine hpr.mono ?_
    clear hpr
    rintro e w11 ⟨rfl, k11⟩
    have HK11 := Lib.hid (HK10.out.trans k11)
    have hvo := votes_a 8 col9 w11 q6 ql5 A5 1 (HAX.out.keep HK11.out) HINV.out.ok.up (fun v hv => HINV.out.ok.small hv) (Nat.le_trans (HINV.out.ok.len HINV.out.win) (by decide))
    clear k11 HK10
    go_wp2_with fail
    refine hvo.mono ?_
    clear hvo
    rintro e w12 ⟨⟨vo, vc, M, D, rfl, hM, hown, hvals⟩, kv⟩
    obtain ⟨fn, hfn⟩ : ∃ fn, Hid (fn = (fromV A5.votes 1).length) := ⟨_, Lib.hid rfl⟩
    rw [← hfn.out] at hown ⊢
    have HVR : Hid (VRow w12 vo fn vc M) := Lib.hid (VRow.own hown (fun x hx => (hvals x hx).at))
    have HM := Lib.hid hM
    have HK12 := Lib.hid (HK11.out.trans kv)
    have hvo := votes_a 12 col9 w12 q9 ql8 A5 1 (HA9.out.keep HK12.out) HINV.out.ok.up (fun v hv => HINV.out.ok.small hv) (Nat.le_trans (HINV.out.ok.len HINV.out.win) (by decide))
    clear hM hown hvals kv HK11
    go_wp2_with fail
    refine hvo.mono ?_
    clear hvo
    rintro e w13 ⟨⟨vo2, vc2, M2, D2, rfl, hM2, hown2, hvals2⟩, kv2⟩
    rw [← hfn.out] at hown2 ⊢
    have HVR2 : Hid (VRow w13 vo2 fn vc2 M2) := Lib.hid (VRow.own hown2 (fun x hx => (hvals2 x hx).at))
    have HK13 := Lib.hid (HK12.out.trans kv2)
    have HFL : Hid (fn ≤ 1099511627776 ∧ Small9 M) := Lib.hid ⟨by
      have h1 := HINV.out.ok.len HINV.out.win
      have h2 : (fromV A5.votes 1).length ≤ A5.votes.length := List.length_filter_le ..
      have := hfn.out
      omega, fun x hx => by
      have hv : x.1 ∈ fromV A5.votes 1 := by rw [← HM.out]; exact List.mem_map.2 ⟨x, hx, rfl⟩
      have := HINV.out.ok.small (List.mem_filter.1 hv).1
      omega⟩
    have hsv := sameVotes_any vo vo2 fn fn vc vc2 M M2 w13 (HVR.out.keep kv2) HVR2.out HFL.out.2 HFL.out.1
    rw [HM.out, hM2] at hsv
    have hsv2 : decide (fromV A5.votes 1 = fromV A5.votes 1) = true := decide_eq_true rfl
    rw [hsv2] at hsv
    clear hM2 hown2 hvals2 kv2 hsv2 HVR HVR2 HFL HM hfn HK12
    go_wp2_with fail
    refine hsv.mono ?_
    clear hsv
    rintro e w14 ⟨rfl, k14⟩
    have HK14 := Lib.hid (HK13.out.trans k14)
    have himg := image_dk col9 0 p s8 w14 (HDK.out.keep HK14.out)
    rw [HIM2.out] at himg
    clear k14 HK13
    go_wp2_with fail
    refine himg.mono ?_
    clear himg
    rintro e w15 ⟨io2, ic2, rfl, hi15, k15⟩
    have HK15 := Lib.hid (HK14.out.trans k15)
    have hrs := refSame_any io2 iL.length ic2 io iL.length ic iL w15 hi15.as (HI9.out.keep HK15.out).as (imageF_len (HDK.out) HIM2.out)
    clear hi15 k15 HK14
    go_wp2_with fail
    refine hrs.mono ?_
    clear hrs
    rintro e w16 ⟨rfl, k16⟩
    have HFIN : Hid (Kp Noone W w16) := Lib.hid (HKW.out.trans (HK15.out.trans k16))
    clear k16
    go_wp2_with fail
    go_ret
    exact ⟨rfl, HFIN.out⟩

end Go.Proofs.YtgbgbokcohfnpaaGreat

/-
  AcceptorTwice: the walk, of any input.
-/
namespace Go.Proofs.YtgbgbokcohfnpaaGreat
open Go.RowKit Go.ChangeShapes Go.WideShapes Go.ChangeAt

set_option maxRecDepth 100000 in
theorem acceptorTwice_core {H : Type} {enc : TypeId × Value → H} (W : World) (base : Nat) (v0 : Value) (d0 : DataW H) (p0 : List MemPlace) (v1 : Value) (d1 : DataW H) (p1 : List MemPlace) (v2 : Value) (d2 : DataW H) (p2 : List MemPlace)
    (h0 : DataW.Trod enc Tryz.prog W 0 (fun _ => true) true 3 v0 d0 p0) (h1 : DataW.Trod enc Tryz.prog W 0 (fun _ => true) true 3 v1 d1 p1) (h2 : DataW.Trod enc Tryz.prog W 0 (fun _ => true) true 22 v2 d2 p2)
    (g0 : Value.okWide Tryz.prog W .any base 3 v0) (g1 : Value.okWide Tryz.prog W .any base 3 v1) (g2 : Value.okWide Tryz.prog W .any base 22 v2)
    (_ : ∀ n ∈ d0.weights Tryz.prog 3, n ≤ reachBytes) (_ : ∀ n ∈ d1.weights Tryz.prog 3, n ≤ reachBytes) (w2 : ∀ n ∈ d2.weights Tryz.prog 22, n ≤ reachBytes) :
    Calls Tryz.prog 7 #[v0, v1, v2] W fun e w' => e = .returned (.bool true) ∧ Kp Noone W w' := by
  obtain ⟨room, rfl, -⟩ := arg_int h0 g0
  obtain ⟨limit, rfl, -⟩ := arg_int h1 g1
  obtain ⟨ao, n, cap, ps, rfl, hps⟩ := arg_opA h2 g2 w2
  exact twice_of room limit ao n cap ps W hps

end Go.Proofs.YtgbgbokcohfnpaaGreat
