/-
  The texts AccEnter, Acc4, Acc5 in one: what the claim reaches of them.
-/
import Derived.Test.YtgbgbokcohfnpaaGreatP23
import Derived.Test.YtgbgbokcohfnpaaGreatP12
import Derived.Test.YtgbgbokcohfnpaaGreatP21
import Derived.Test.YtgbgbokcohfnpaaGreatVoteSort
import Derived.Shelf.SlSortCmp.NoneTotal
/-
  THE WALK of Enter.
-/
namespace Go.Proofs.YtgbgbokcohfnpaaGreat
open Go.RowKit

/-- What Raise and Enter leave. -/
structure CallTo (B : Nat) (col : Nat → Nat) (w : World) (p ql q : Nat) (o : AO) (K : Nat) (e : Ending) (w' : World) : Prop where
  ex : ∃ col', e = .returned (.int .i64 (o.e : Int)) ∧ Ext B SX col w col' w' ∧ AcL col' w' p ql q o.s o.l o.a
  li : LI K o.s o.l
theorem sl_sx (x : Nat) (h : SL 0 5 x) : SX x := Or.inl h
theorem sa_sx (x : Nat) (h : SA 8 x) : SX x := Or.inr h
theorem AcL.ext_s {B : Nat} {col col' : Nat → Nat} {w w' : World} {p ql q : Nat} {s s' : DS} {l l' : LogP} {a : AcS} (h : AcL col w p ql q s l a) (e : Ext B (SL 0 5) col w col' w') (hl : Lg 5 0 col' w' p ql s' l') : AcL col' w' p ql q s' l' a :=
  ⟨hl, h.ac.ext e (sl_ac 8 (Or.inl rfl)) (sl_ac 9 (Or.inr (Or.inl rfl))) (sl_ac 10 (Or.inr (Or.inr rfl)))⟩
theorem sa_lg (x : Nat) (h : SL 0 5 x) : ¬ SA 8 x := fun c => sl_ac x c h
theorem AcL.ext_a {B : Nat} {col col' : Nat → Nat} {w w' : World} {p ql q : Nat} {s : DS} {l : LogP} {a a' : AcS} (h : AcL col w p ql q s l a) (hc : Cols B w col) (e : Ext B (SA 8) col w col' w') (ha : AcAt 8 col' w' q ql a') : AcL col' w' p ql q s l a' := by
  obtain ⟨⟨hk, po, pc, hl⟩, _⟩ := h
  exact ⟨⟨hk.ext hc e (fun x hx => sa_lg x (Or.inl hx)), po, pc, hl.ext e (sa_lg 5 (Or.inr (Or.inl rfl))) (sa_lg 6 (Or.inr (Or.inr rfl)))⟩, ha⟩
theorem AcL.logc {col : Nat → Nat} {w : World} {p ql q : Nat} {s : DS} {l : LogP} {a : AcS} (h : AcL col w p ql q s l a) : ∃ mb, Cells6 w q (.int .i64 a.epoch) (.int .i64 a.floor) (.int .i64 a.prom.round) (.int .i64 a.prom.node) (.map (some mb)) (.pointer (some ⟨ql, 0, none⟩)) := by
  obtain ⟨mb, M, h⟩ := h.ac
  have hbx := h.box
  unfold acCs at hbx
  exact ⟨mb, cells_6v hbx⟩
/-- One record laid in a row of its own. -/
theorem recs_one {B : Nat} {col : Nat → Nat} {w : World} (hc : Cols B w col) (x : RecR) (m : VLoc) (T : TypeId) (hv : ValC (fun j => col j = 0) w x.val m) :
    RecsC (fun j => col j = 0) (w.alloc (.cells (arCs (x, m)).toArray T)) (some ⟨w.heap.size, 0, none⟩) [(x, m)] := by
  have k : Kp Noone w (w.alloc (.cells (arCs (x, m)).toArray T)) := (Kp.refl _ _).alloc _
  refine ⟨Or.inr ⟨w.heap.size, 0, rfl, fun j hj => ?_⟩, fun _ a e => ?_, fun p hp => ?_⟩
  · have hb := heap_alloc_new w (.cells (arCs (x, m)).toArray T)
    rw [Nat.zero_add, cell_of_row _ _ j _ T (0, 0) hb]
    have e : arsV [(x, m)] = arCs (x, m) := by unfold arsV; simp
    rw [← List.getElem?_eq_getElem hj, e, List.getElem?_toArray]
  · cases e
    exact ⟨cols_new hc (Nat.le_refl _), by simp⟩
  · rw [List.mem_singleton] at hp
    rw [hp]
    exact hv.keep k
set_option maxHeartbeats 1000000 in
set_option maxRecDepth 100000 in
theorem enterO_a (B : Nat) (col : Nat → Nat) (w : World) (p ql q : Nat) (s : DS) (l : LogP) (a : AcS) (ep fl : Int) (i : Nat) (h : AcL col w p ql q s l a) (hc : Cols B w col) (hB : B ≤ w.heap.size) (hli : LI i s l) (hi : i ≤ 80000) (ha : 0 ≤ a.epoch) :
    Calls Tryz.prog 28 #[.pointer (some ⟨q, 0, none⟩), .int .i64 ep, .int .i64 fl] w fun e w' => CallTo B col w p ql q (enterO s l a ep fl) (i + 3) e w' := by
  obtain ⟨R, hR⟩ : ∃ R, Hid (enterO s l a ep fl = R) := ⟨_, Lib.hid rfl⟩
  rw [hR.out]
  obtain ⟨mb, x0, x1, x2, x3, x4, x5⟩ := h.logc
  have HA := Lib.hid h
  have HC := Lib.hid hc
  have HB := Lib.hid hB
  have HLI := Lib.hid hli
  have HI := Lib.hid hi
  have HEP := Lib.hid ha
  clear h hc hB hli hi ha
  by_cases hbad : ep ≤ a.epoch ∨ 1099511627776 < ep ∨ fl < 0 ∨ 1099511627776 < fl
  · have HF : Hid (CallTo B col w p ql q R (i + 3) (.returned (.int .i64 (1 : Int))) w) := Lib.hid (by
      have hr := hR.out
      unfold enterO at hr
      rw [if_pos hbad] at hr
      subst hr
      exact ⟨⟨col, rfl, Ext.quiet HC.out (Kp.refl _ _), HA.out⟩, HLI.out.mono (by omega)⟩)
    go_enter Tryz.func28, Tryz.ntmps28
    by_cases h1 : ep ≤ a.epoch
    · clear hbad
      go_wp2_with fail
      go_ret
      exact HF.out
    by_cases h2 : 1099511627776 < ep
    · clear hbad
      go_wp2_with fail
      go_ret
      exact HF.out
    by_cases h3 : fl < 0
    · clear hbad
      go_wp2_with fail
      go_ret
      exact HF.out
    have h4 : 1099511627776 < fl := by omega
    clear hbad
    go_wp2_with fail
    go_ret
    exact HF.out
  · have h1 : ¬ ep ≤ a.epoch := fun c => hbad (Or.inl c)
    have h2 : ¬ 1099511627776 < ep := fun c => hbad (Or.inr (Or.inl c))
    have h3 : ¬ fl < 0 := fun c => hbad (Or.inr (Or.inr (Or.inl c)))
    have h4 : ¬ 1099511627776 < fl := fun c => hbad (Or.inr (Or.inr (Or.inr c)))
    have HR2 : Hid (enterW a ep fl (writeF [recL ⟨3, ep, fl, bal0, val0⟩] true 0 s l) = R) := Lib.hid (by
      have hr := hR.out
      unfold enterO at hr
      rw [if_neg hbad] at hr
      exact hr)
    clear hbad hR
    have kA : Kp Noone w (w.alloc (.cells (arCs (⟨3, ep, fl, bal0, val0⟩, loc9)).toArray 112)) := (Kp.refl _ _).alloc _
    have hok : RecOk ⟨3, ep, fl, bal0, val0⟩ := ⟨show (0 : Int) ≤ 3 ∧ (3 : Int) ≤ 3 by decide, ⟨by have := HEP.out; show 0 ≤ ep; omega, by show ep ≤ 1099511627776; omega⟩, ⟨by show 0 ≤ fl; omega, by show fl ≤ 1099511627776; omega⟩, show (0 : Int) ≤ 0 ∧ (0 : Int) ≤ 1099511627776 by decide, show (0 : Int) ≤ 0 ∧ (0 : Int) ≤ 9 by decide, show valF val0 = 0 by decide⟩
    have hw := write_a B col _ p ql q s l a (some ⟨w.heap.size, 0, none⟩) 1 [(⟨3, ep, fl, bal0, val0⟩, loc9)] i (HA.out.keep kA) (HC.out.keep kA.size) (by have := kA.size; have := HB.out; omega) (recs_one HC.out ⟨3, ep, fl, bal0, val0⟩ loc9 112 (ValC.zero _ _)) (fun x hx => by rw [List.mem_singleton] at hx; subst hx; exact hok) (by simp) HLI.out (by have := HI.out; omega)
    have eA := Ext.quiet (S := SX) HC.out kA
    unfold arCs at hw
    simp only [List.map_cons, List.map_nil] at hw
    generalize writeF [recL ⟨3, ep, fl, bal0, val0⟩] true 0 s l = WR at *
    obtain ⟨s2, l2, n2, e2⟩ := WR
    clear hok
    go_enter Tryz.func28, Tryz.ntmps28
    go_wp2_with fail
    refine hw.mono ?_
    clear hw
    rintro e w1 hto
    obtain ⟨⟨col1, rfl, e1, hA1⟩, hl1⟩ := hto
    simp only [] at hA1 hl1 HR2 ⊢
    have HE1 := Lib.hid (eA.trans (e1.mono sl_sx))
    have HA1 := Lib.hid hA1
    have HL1 := Lib.hid hl1
    obtain ⟨mb1, y0, y1, y2, y3, y4, y5⟩ := hA1.logc
    clear eA kA e1 hA1 hl1 x0 x1 x2 x3 x4 x5 y0 y1 y2 y3 y4
    by_cases h0 : e2 = 0
    case neg =>
      have hne : ((e2 : Int) != 0) = true := by simp only [bne_iff_ne, ne_eq]; omega
      have HF : Hid (CallTo B col w p ql q R (i + 3) (.returned (.int .i64 (e2 : Int))) w1) := Lib.hid (by
        rw [← HR2.out]
        unfold enterW
        rw [if_pos h0]
        exact ⟨⟨col1, rfl, HE1.out, HA1.out⟩, HL1.out.mono (by simp)⟩)
      clear h0
      go_wp2_with fail
      go_ret
      exact HF.out
    subst h0
    have hen := enter_a B 8 col1 w1 q ql a ep fl HA1.out.ac HE1.out.cols (Nat.le_trans HB.out HE1.out.size) (by decide)
    go_wp2_with fail
    refine hen.mono ?_
    clear hen
    rintro e w2 ⟨rfl, ⟨col2, e2, ha2⟩⟩
    have HA2 := Lib.hid (HA1.out.ext_a HE1.out.cols e2 ha2)
    have HE2 := Lib.hid (HE1.out.trans (e2.mono sa_sx))
    obtain ⟨mb2, z0, z1, z2, z3, z4, z5⟩ := HA2.out.logc
    have hbd := HL1.out.bd (by have := HI.out; simp; omega)
    have htr := trim_l B 5 0 col2 w2 p ql s2 l2 (n2 : Int) HA2.out.lg hbd.1 HE2.out.cols (Nat.le_trans HB.out HE2.out.size) (by omega) (by have := hbd.2.2.2.2; omega)
    have HTI := Lib.hid (HL1.out.trim (by have := HI.out; simp; omega) HA2.out.lg.dk.2 (n2 : Int))
    clear hbd e2 ha2 y5 z0 z1 z2 z3 z4
    go_wp2_with fail
    refine htr.mono ?_
    clear htr
    rintro e w3 ⟨⟨col3, rfl, e3, lg3⟩⟩
    have HF : Hid (CallTo B col w p ql q R (i + 3) (.returned (.int .i64 ((trimLF s2 l2 (n2 : Int)).2.2 : Int))) w3) := Lib.hid (by
      rw [← HR2.out]
      unfold enterW
      rw [if_neg (by simp)]
      exact ⟨⟨col3, rfl, HE2.out.trans (e3.mono sl_sx), HA2.out.ext_s e3 lg3⟩, HTI.out⟩)
    clear e3 lg3 z5
    go_wp2_with fail
    go_ret
    exact HF.out

end Go.Proofs.YtgbgbokcohfnpaaGreat

/-
  Votes in a row, and sorted: what slices.SortFunc leaves.
-/
namespace Go.Proofs.YtgbgbokcohfnpaaGreat
open Go.RowKit Go.Sort

instance : Inhabited VoteL := ⟨(⟨0, bal0, val0⟩, loc9)⟩
def voteCs (p : VoteL) : List Value := [.int .i64 p.1.slot, .int .i64 p.1.bal.round, .int .i64 p.1.bal.node, .int .i64 p.1.val.kind, .slice p.2.co p.1.val.cmds.length p.2.cc, .slice p.2.no p.1.val.next.length p.2.nc]
def votesV (L : List VoteL) : List Value := (L.map voteCs).flatten
theorem length_votesV (L : List VoteL) : (votesV L).length = L.length * 6 := by
  induction L with
  | nil => rfl
  | cons a r ih =>
    have : (votesV (a :: r)).length = 6 + (votesV r).length := by unfold votesV; rw [List.map_cons, List.flatten_cons, List.length_append]; rfl
    rw [this, ih, List.length_cons]
    omega
theorem votesV_app (a b : List VoteL) : votesV (a ++ b) = votesV a ++ votesV b := by unfold votesV; simp
theorem votesV_get (L : List VoteL) (k j : Nat) (hk : k < L.length) (hj : j < 6) : (votesV L)[k * 6 + j]? = (voteCs L[k])[j]? := by
  induction L generalizing k with
  | nil => simp at hk
  | cons a r ih =>
    have e : votesV (a :: r) = voteCs a ++ votesV r := by unfold votesV; simp
    have hl : (voteCs a).length = 6 := rfl
    rw [e]
    cases k with
    | zero =>
      rw [List.getElem?_append_left (by omega)]
      simp
    | succ k =>
      rw [List.getElem?_append_right (by omega), hl, show (k + 1) * 6 + j - 6 = k * 6 + j by omega, ih k (by simpa using hk)]
      rfl
theorem voteCs_one (p : VoteL) : ∀ v ∈ voteCs p, v.oneCell' = true := by
  intro u hu
  simp [voteCs] at hu
  rcases hu with rfl | rfl | rfl | rfl | rfl | rfl <;> rfl
theorem flat_votes (L : List VoteL) : (flatK voteCs 6 L.toArray).toList = votesV L := by
  apply List.ext_getElem?
  intro t
  by_cases ht : t < L.length * 6
  · have h1 : t < (flatK voteCs 6 L.toArray).size := by simpa using ht
    have h2 := get_flatK voteCs 6 L.toArray t (by simpa using ht)
    have hk : t / 6 < L.length := by omega
    have h3 := votesV_get L (t / 6) (t % 6) hk (by omega)
    rw [show t / 6 * 6 + t % 6 = t by omega] at h3
    rw [h3, Array.getElem?_toList, Array.getElem?_eq_getElem h1]
    rw [getElem!_pos (flatK voteCs 6 L.toArray) t h1] at h2
    have h5 : L.toArray[t / 6]! = L[t / 6] := by rw [getElem!_pos L.toArray (t / 6) (by simpa using hk)]; simp
    rw [h2, h5]
    have h4 : t % 6 < (voteCs L[t / 6]).length := by show t % 6 < 6; omega
    rw [List.getElem?_eq_getElem h4, getElem!_pos (voteCs L[t / 6]) (t % 6) h4]
  · have h1 : (flatK voteCs 6 L.toArray).size ≤ t := by simp; omega
    rw [Array.getElem?_toList, Array.getElem?_eq_none h1, List.getElem?_eq_none (by rw [length_votesV]; omega)]
/-- Votes by slot. -/
def cfV (x y : VoteL) : Int := cmpI x.1.slot y.1.slot
theorem lt_cfV (x y : VoteL) : ltOf cfV x y = decide (x.1.slot < y.1.slot) := by
  unfold ltOf cfV cmpI
  by_cases h1 : x.1.slot < y.1.slot
  · simp [h1]
  · by_cases h2 : y.1.slot < x.1.slot <;> simp [h1, h2]
theorem swo_cfV : SWO (ltOf cfV) where
  irrefl x := by rw [lt_cfV]; simp
  trans x y z h1 h2 := by rw [lt_cfV] at *; simp at *; omega
  ntrans x y z h1 h2 := by rw [lt_cfV] at *; simp at *; omega
theorem isAgg_vote (w : World) : (isAgg 56).run Tryz.prog w = .ok true w := by kernel_rfl
theorem sizeOf_vote (w : World) : (Go.sizeOf 56).run Tryz.prog w = .ok 6 w := by kernel_rfl
set_option maxHeartbeats 1000000 in
theorem closureV (x y : VoteL) (W : World) : Calls Tryz.prog 50 #[.agg (voteCs x).toArray, .agg (voteCs y).toArray] W fun e w' => e = .returned (.int .i64 (cfV x y)) ∧ ∃ q os', w' = grow (W.drewN q) os' := by
  have hcon := fun W' => cmpI_any x.1.slot y.1.slot W'
  unfold cfV
  generalize cmpI x.1.slot y.1.slot = r at hcon ⊢
  unfold voteCs
  go_enter Tryz.func50, Tryz.ntmps50
  go_wp2_with (go_at_call 51; refine (hcon _).mono ?_; rintro e w' ⟨rfl, rfl⟩)
  go_ret
  exact ⟨rfl, 0, _, by rw [alloc_eq_grow, alloc_eq_grow, grow_grow]; rfl⟩
theorem cmpLaysV (blk off size : Nat) (w : World) : CmpLays Tryz.prog 50 #[] voteCs 6 cfV blk off size w :=
  fun _ _ _ _ x y => closureV x y _
theorem heap_sortedK {w : World} {g n off : Nat} {os : Array Obj} {cur : Array Value} {e : TypeId} {fr : Nat × Nat} (d : Array VoteL) (hb : w.heap[g]? = some (.cells cur e fr)) :
    (sortWorldK voteCs 6 w g off n d os).heap[g]? = some (.cells (putCells id off (flatK voteCs 6 d) cur) e fr) := by
  have hg : g < w.heap.size := (Array.getElem?_eq_some_iff.1 hb).1
  unfold sortWorldK putRowK
  rw [heap_grow_old _ _ (by simpa using hg)]
  simp [putRow, mapBlock, Sort.ahead, Array.getElem?_modify, hb, onCells]
theorem kp_sortedK (w : World) (g n off : Nat) (os : Array Obj) (d : Array VoteL) : Kp (fun j => j = g) w (sortWorldK voteCs 6 w g off n d os) := by
  unfold sortWorldK putRowK
  refine ⟨rfl, rfl, rfl, by simp, fun k hk hne => ?_⟩
  rw [heap_grow_old _ _ (by simpa using hk)]
  have : g ≠ k := fun e => hne e.symm
  simp [putRow, mapBlock, Sort.ahead, Array.getElem?_modify, this]
/-- What the sort asks of an owned slice of votes, and what it leaves. -/
theorem own_holdsK {F : Nat → Prop} {w : World} {e : Nat} {no : Option Addr} {n cap : Nat} {L : List VoteL} (h : Own F w e 6 no n cap (votesV L)) (h0 : 0 < n) :
    ∃ g off, no = some ⟨g, off, none⟩ ∧ F g ∧ g < w.heap.size ∧ HoldsK voteCs 6 w g off L.toArray ∧
      ∀ (m : Nat) (os : Array Obj) (M : List VoteL), M.length = L.length → Own F (sortWorldK voteCs 6 w g off m M.toArray os) e 6 no n cap (votesV M) ∧ Kp F w (sortWorldK voteCs 6 w g off m M.toArray os) := by
  obtain ⟨h1, h2, h3, h4⟩ := h
  have hl : L.length = n := by rw [length_votesV] at h1; omega
  rcases h4 with h4 | ⟨g, off, cur, ha, hg, hh, hb, hr⟩
  · omega
  · have hlt := (Array.getElem?_eq_some_iff.1 hh).1
    refine ⟨g, off, ha, hg, hlt, fun j hj => ⟨?_, by simp [World.frozen?, hh]⟩, fun m os M hM => ⟨⟨by rw [length_votesV]; omega, h2, h3, Or.inr ⟨g, off, putCells id off (flatK voteCs 6 M.toArray) cur, ha, hg, heap_sortedK _ hh, by simp [putCells]; omega, fun i hi => ?_⟩⟩, (kp_sortedK w g m off os _).mono (fun j _ c => by rw [c]; exact hg)⟩⟩
    · have hj' : j < (votesV L).length := by rw [length_votesV]; simpa using hj
      rw [cell_of_row w g _ cur e (0, 0) hh, hr j hj']
      have h5 := flat_votes L
      have h6 : (flatK voteCs 6 L.toArray)[j]! = (votesV L)[j] := by
        rw [getElem!_pos (flatK voteCs 6 L.toArray) j hj, ← Array.getElem_toList]
        simp only [h5]
      simp only [id, h6]
    · have hi' : i < (flatK voteCs 6 M.toArray).size := by rw [length_votesV] at hi; simpa using hi
      have hsz : off + i < cur.size := by rw [length_votesV] at hi; omega
      have h5 := flat_votes M
      have h6 : (flatK voteCs 6 M.toArray)[i]! = (votesV M)[i] := by
        rw [getElem!_pos (flatK voteCs 6 M.toArray) i hi', ← Array.getElem_toList]
        simp only [h5]
      have hi6 : i < M.length * 6 := by simpa using hi'
      rw [getElem!_pos (flatK voteCs 6 M.toArray) i hi'] at h6
      simp [putCells, hi6, hsz, h6]
/-- The sort of a row of votes. -/
theorem sortV (g off cap : Nat) (L : List VoteL) (w : World) (hH : HoldsK voteCs 6 w g off L.toArray) (hg : g < w.heap.size) (hn : L.length < 4611686018427387904) :
    Calls Tryz.prog 49 #[.slice (some ⟨g, off, none⟩) L.length cap, .func (.func 50) #[] #[]] w fun e w' => e = .returned (.tuple #[]) ∧ ∃ (M : List VoteL) (n : Nat) (os : Array Obj), M.length = L.length ∧ M.Perm L ∧ M.Pairwise (fun x y => x.1.slot ≤ y.1.slot) ∧ w' = sortWorldK voteCs 6 w g off n M.toArray os := by
  have eg : ∀ args w, (callFunc 50 args).run Tryz.prog w = .ok (.enter 50 args) w := enters_of Tryz.func50 (by kernel_rfl) rfl
  have hcon := AnyQ.slices_SortFunc Tryz.sortVotes 6 isAgg_vote sizeOf_vote voteCs (fun _ => rfl) voteCs_one cfV swo_cfV 50 #[] g off cap L.toArray w eg (cmpLaysV g off L.toArray.size w) hH hg (by simpa using hn)
  change Calls Tryz.prog 49 _ _ _ at hcon
  rw [show L.toArray.size = L.length by simp] at hcon
  refine hcon.mono ?_
  rintro e w' ⟨rfl, d, n, os, ⟨hp1, -, hp3⟩, hs, rfl⟩
  have hd : d.size = L.length := by simpa using hp1
  have e1 : (d.extract 0 L.length).toList = d.toList := by rw [← hd]; simp
  have e2 : (L.toArray.extract 0 L.length).toList = L := by simp
  rw [e1, e2] at hp3
  refine ⟨rfl, d.toList, n, os, by simpa using hd, hp3, ?_, by simp⟩
  rw [List.pairwise_iff_getElem]
  intro i j hi hj hij
  have h9 := hs i j (Nat.zero_le _) hij (by simpa [hd] using hj)
  rw [lt_cfV] at h9
  have hi2 : i < d.size := by simpa using hi
  have hj2 : j < d.size := by simpa using hj
  rw [getElem!_pos d i hi2, getElem!_pos d j hj2] at h9
  have := of_decide_eq_false h9
  simp only [Array.getElem_toList]
  omega

end Go.Proofs.YtgbgbokcohfnpaaGreat

/-
  THE WALK of Votes: an acceptor's votes from a slot on, by slot, in new memory.
-/
namespace Go.Proofs.YtgbgbokcohfnpaaGreat
open Go.RowKit Go.Sort

/-- What Votes answers. -/
structure VotesTo (w : World) (vs : List VoteR) (e : Ending) (w' : World) : Prop where
  ex : ∃ (ao : Option Addr) (cap : Nat) (M : List VoteL) (D : Nat → Prop), e = .returned (.slice ao vs.length cap) ∧ M.map (·.1) = vs ∧ Own (fun j => Ex Noone w w' j ∧ D j) w' 56 6 ao vs.length cap (votesV M) ∧ ∀ p ∈ M, ValOwn (fun j => Ex Noone w w' j ∧ ¬ D j) w' p.1.val p.2
  kp : Kp Noone w w'
theorem sorted_votes {M : List VoteL} {vs : List VoteR} (hp : (M.map (·.1)).Perm vs) (hu : Up9 vs) (hs : M.Pairwise (fun x y => x.1.slot ≤ y.1.slot)) : M.map (·.1) = vs := by
  have hn : (M.map (fun p => p.1.slot)).Nodup := by
    have h1 : (vs.map (·.slot)).Nodup := by
      unfold Up9 at hu
      rw [List.Nodup, List.pairwise_map]
      exact hu.imp (fun h e => by omega)
    have h2 : (M.map (fun p => p.1.slot)).Perm (vs.map (·.slot)) := by
      have := hp.map (fun v : VoteR => v.slot)
      rwa [List.map_map] at this
    exact h2.symm.nodup h1
  refine up_ext ?_ hu (fun v => hp.mem_iff)
  unfold Up9
  rw [List.pairwise_map]
  rw [List.Nodup, List.pairwise_map] at hn
  exact (hs.and hn).imp (fun h => by omega)
/-- A vote taken out of what is left. -/
theorem take_out {T : List VoteL} {k : Int} {v : Value} (hn : ((voteM T).map (·.1)).Nodup) (h : (k, v) ∈ voteM T) : ∃ p ∈ T, p.1.slot = k ∧ v = voteV p.1 p.2 ∧ T.Perm (p :: T.filter (fun p => !decide (k = p.1.slot))) := by
  rw [voteM_keys] at hn
  unfold voteM at h
  obtain ⟨p, hp, e⟩ := List.mem_map.1 h
  injection e with e1 e2
  refine ⟨p, hp, e1, e2.symm, ?_⟩
  have hnT : T.Nodup := nodup_of_map (fun p : VoteL => p.1.slot) hn
  have hnp : p ∉ T.filter (fun p => !decide (k = p.1.slot)) := fun c => by
    have := (List.mem_filter.1 c).2
    rw [e1] at this
    simp at this
  refine (List.perm_ext_iff_of_nodup hnT (List.nodup_cons.2 ⟨hnp, hnT.sublist List.filter_sublist⟩)).2 (fun x => ?_)
  rw [List.mem_cons, List.mem_filter]
  constructor
  · intro hx
    by_cases hk : k = x.1.slot
    · exact Or.inl (inj_nodup9 hn hx hp (by omega))
    · exact Or.inr ⟨hx, by simp [hk]⟩
  · rintro (rfl | hx)
    · exact hp
    · exact hx.1
theorem three_at {w : World} {g e : Nat} {a b c d x y p q r : Value} (h : w.heap[g]? = some (.cells #[a, b, c, d, x, y] e (0, 0))) :
    (((w.setCell ⟨g, 3, none⟩ p).setCell ⟨g, 4, none⟩ q).setCell ⟨g, 5, none⟩ r).heap[g]? = some (.cells #[a, b, c, p, q, r] e (0, 0)) ∧ Kp (fun j => j = g) w (((w.setCell ⟨g, 3, none⟩ p).setCell ⟨g, 4, none⟩ q).setCell ⟨g, 5, none⟩ r) :=
  ⟨(heap_set_cell (heap_set_cell (heap_set_cell h))).trans (by simp), (((Kp.refl (fun j => j = g) w).setCell (p := ⟨g, 3, none⟩) (fun _ => rfl) p).setCell (p := ⟨g, 4, none⟩) (fun _ => rfl) q).setCell (p := ⟨g, 5, none⟩) (fun _ => rfl) r⟩
/-- The sort of no votes. -/
theorem sortV_none (p : Option Addr) (cap : Nat) (w : World) : Calls Tryz.prog 49 #[.slice p 0 cap, .func (.func 50) #[] #[]] w fun e w' => e = .returned (.tuple #[]) ∧ w' = w :=
  AnyF.slices_SortFunc_none Tryz.sortVotes p cap _ w
attribute [local irreducible] voteM votesV
set_option maxHeartbeats 4000000 in
set_option maxRecDepth 100000 in
theorem votes_a (c : Nat) (col : Nat → Nat) (w : World) (q lq : Nat) (a : AcS) (fr9 : Int) (h : AcAt c col w q lq a) (hup : Up9 a.votes) (hsm : ∀ v ∈ a.votes, v.val.cmds.length ≤ 8 ∧ v.val.next.length ≤ 7) (hlen : a.votes.length ≤ 1099511627776) :
    Calls Tryz.prog 15 #[.pointer (some ⟨q, 0, none⟩), .int .i64 fr9] w fun e w' => VotesTo w (fromV a.votes fr9) e w' := by
  obtain ⟨i0, hi, hz0, hz1, hz2⟩ := info_parts (P := Tryz.prog) (e := 56) (z := .agg #[.int .i64 0, .int .i64 0, .int .i64 0, .int .i64 0, .slice none 0 0, .slice none 0 0]) (size := 6) (bytes := 80) (by kernel_rfl)
  obtain ⟨mb, L, hp⟩ := h
  have hb := hp.box
  unfold acCs at hb
  obtain ⟨x0, x1, x2, x3, x4, x5⟩ := cells_6v hb
  have hmap := hp.map
  have HLL : Hid (L.length ≤ 1099511627776) := Lib.hid (by have := hp.perm.length_eq; rw [List.length_map] at this; omega)
  have HPERM := Lib.hid hp.perm
  have HVAL := Lib.hid (fun p (hpL : p ∈ L) => (hp.vals p hpL).at)
  have HSM : Hid (∀ p ∈ L, p.1.val.cmds.length ≤ 8 ∧ p.1.val.next.length ≤ 7) := Lib.hid (fun p hpL => hsm p.1 (hp.perm.subset (List.mem_map_of_mem (f := (·.1)) hpL)))
  have HUP : Hid (Up9 (fromV a.votes fr9)) := Lib.hid (up_filter hup _)
  have HML := Lib.hid hmap.lt
  have HMN := Lib.hid hmap.keys
  clear hp hb hsm hup hlen x0 x1 x2 x3 x5
  go_enter Tryz.func15, Tryz.ntmps15
  go_wp2_with (at_range; refine wpList_range_is _ rfl _ 104 rfl 56 Tryz.underlying104 mb (voteM L) rfl hmap ?_)
  intro w2 hit k2 hsz
  have HK2 := Lib.hid k2
  have HSZ := Lib.hid hsz
  clear hmap x4 k2 hsz
  generalize hr : w.heap.size = r at *
  have HR := Lib.hid hr
  have HRM : Hid (r ≠ mb) := Lib.hid (by have := HML.out; omega)
  clear hr
  go_wp2_with fail
  go_loopg [5] L.length (fun g v5 wr => ∃ (T M : List VoteL) (no : Option Addr) (cap : Nat) (D : Nat → Prop), g = T.length ∧ v5 = .slice no M.length cap ∧ Iter encI wr r mb (voteM L) (voteM T) ∧ Hid (Own (fun j => r < j ∧ D j) wr 56 6 no M.length cap (votesV M)) ∧ Hid (∀ p ∈ M, ValOwn (fun j => r < j ∧ ¬ D j) wr p.1.val p.2) ∧
    Hid ((M.map (·.1) ++ (T.filter (fun p => decide (fr9 ≤ p.1.slot))).map (·.1)).Perm (fromV a.votes fr9)) ∧ Hid (∀ p ∈ T, p ∈ L) ∧ Hid (Kp Noone w wr) ∧ M.length + T.length ≤ 1099511627776)
  case atStart => exact ⟨L, [], none, 0, fun _ => False, rfl, rfl, hit, Lib.hid (by rw [show votesV [] = [] from by unfold votesV; rfl]; exact Own.nil _ _ _ _ _), Lib.hid (fun p hpm => by cases hpm), Lib.hid (by rw [List.map_nil, List.nil_append]; exact perm_filter HPERM.out (fun v => decide (fr9 ≤ v.slot))), Lib.hid (fun _ h => h), HK2, by have := HLL.out; simp only [List.length_nil]; omega⟩
  case round =>
    obtain ⟨T, M, no, cap, D, hg, rfl, hitr, hown, hvs, hpm, hTL, kr, hML⟩ := hrel
    have HG := Lib.hid hg
    have HIT := Lib.hid hitr
    clear hg hit hitr
    go_wp2_with (at_next; refine wpList_next_is _ rfl _ rfl encI_inj9 r mb (voteM L) (voteM T) rfl HIT.out ?_ ?_)
    · intro hdone
      have hT : T = [] := by
        unfold voteM at hdone
        exact List.map_eq_nil_iff.1 hdone
      subst hT
      have hpm2 : (M.map (·.1)).Perm (fromV a.votes fr9) := by
        have := hpm.out
        simpa using this
      have HPM := Lib.hid hpm2
      have HL2 : Hid ((fromV a.votes fr9).length = M.length) := Lib.hid (by have := hpm2.length_eq; rw [List.length_map] at this; exact this.symm)
      clear hpm2 hdone HG HIT
      by_cases h0 : M.length = 0
      · have hM : M = [] := List.eq_nil_of_length_eq_zero h0
        subst hM
        have HF : Hid (VotesTo w (fromV a.votes fr9) (.returned (.slice no 0 cap)) wr) := Lib.hid (by
          have hv : fromV a.votes fr9 = [] := List.eq_nil_of_length_eq_zero HL2.out
          rw [hv]
          exact ⟨⟨no, cap, [], D, rfl, rfl, hown.out.mono (fun j hj d => ⟨Or.inr ⟨by have := HR.out; omega, hj⟩, d.2⟩), fun p hpm => by cases hpm⟩, kr.out⟩)
        have hsn := sortV_none no cap wr
        simp only [List.length_nil]
        go_wp2_with fail
        refine hsn.mono ?_
        rintro e w4 ⟨rfl, rfl⟩
        go_wp2_with fail
        go_ret
        exact HF.out
      · obtain ⟨g, off, rfl, hgr, hgl, hH, hnew⟩ := own_holdsK hown.out (by omega)
        have hso := sortV g off cap M wr hH hgl (by omega)
        have HN := Lib.hid hnew
        clear hH hnew h0
        go_wp2_with fail
        refine hso.mono ?_
        clear hso
        rintro e w4 ⟨rfl, M2, n, os, hl2, hp2, hs2, hw4⟩
        have hfin := HN.out n os M2 hl2
        rw [← hw4] at hfin
        have HF : Hid (VotesTo w (fromV a.votes fr9) (.returned (.slice (some ⟨g, off, none⟩) M.length cap)) w4) := Lib.hid (by
          have hsv := sorted_votes ((hp2.map (·.1)).trans HPM.out) HUP.out hs2
          have hk4 : Kp Noone w w4 := kr.out.fin hfin.2 (fun j d => Or.inr (by have := HR.out; omega))
          refine ⟨⟨some ⟨g, off, none⟩, cap, M2, D, by rw [HL2.out], hsv, ?_, fun p hpm => ?_⟩, hk4⟩
          · rw [HL2.out]
            exact hfin.1.mono (fun j hj d => ⟨Or.inr ⟨by have := HR.out; omega, hj⟩, d.2⟩)
          · have hv := hvs.out p (hp2.subset hpm)
            have hkg : Kp (fun j => j = g) wr w4 := by rw [hw4]; exact kp_sortedK wr g n off os M2.toArray
            exact (hv.kp hkg (fun j d e => by subst e; exact d.2 hgr.2)).mono (fun j hj d => ⟨Or.inr ⟨by have := HR.out; omega, hj⟩, d.2⟩))
        clear hw4 hfin HN hl2 hp2 hs2
        go_wp2_with fail
        go_ret
        exact HF.out
    · intro k v w3 hmem hit3 k3 hsz3 hen
      obtain ⟨p, hpT, hpk, hpv, hpp⟩ := take_out (by have h9 := HIT.out.nodup encI_inj9; exact h9) hmem
      have hit4 := hit3
      rw [voteM_del k T (by have h9 := HIT.out.nodup encI_inj9; exact h9)] at hit4
      have HIT4 := Lib.hid hit4
      have hTT := hpp.length_eq
      simp only [List.length_cons] at hTT
      have HPP := Lib.hid hpp
      have hpL := hTL.out p hpT
      have hva := HVAL.out p hpL
      have hsm := HSM.out p hpL
      have hk3 : Kp Noone w w3 := kr.out.fin k3 (fun j e => Or.inr (by have := HR.out; omega))
      have HK3 := Lib.hid hk3
      have HVA := Lib.hid (hva.keep hk3)
      have HOW := Lib.hid (hown.out.kp k3 (fun j d e => by omega))
      have HVS : Hid (∀ p ∈ M, ValOwn (fun j => r < j ∧ ¬ D j) w3 p.1.val p.2) := Lib.hid (fun p hpm => (hvs.out p hpm).kp k3 (fun j d e => by omega))
      have HTL : Hid (∀ p ∈ T.filter (fun p => !decide (k = p.1.slot)), p ∈ L) := Lib.hid (fun p hpm => hTL.out p (List.mem_filter.1 hpm).1)
      have HGL : Hid ((T.filter (fun p => !decide (k = p.1.slot))).length < T.length) := Lib.hid (by omega)
      have hML2 : M.length + (T.filter (fun p => !decide (k = p.1.slot))).length + 1 ≤ 1099511627776 := by omega
      have HML2 := Lib.hid hML2
      have hM1 : M.length ≤ 1099511627775 := by omega
      subst hpv
      unfold encI voteV at hen
      have hrz : r < w3.heap.size := hit3.lt
      have HRZ := Lib.hid hrz
      have HPK := Lib.hid hpk
      have HPM := Lib.hid hpm.out
      clear hmem hit3 hit4 hpp hpL hva hk3 k3 hsz3 hTT hML2 hML hrz HIT kr hown hvs hTL hpT hpm hpk
      generalize T.filter (fun p => !decide (k = p.1.slot)) = T2 at *
      by_cases hfr : fr9 ≤ k
      case neg =>
        have HP2 : Hid ((M.map (·.1) ++ (T2.filter (fun p => decide (fr9 ≤ p.1.slot))).map (·.1)).Perm (fromV a.votes fr9)) := Lib.hid (by
          have h1 := (HPP.out.filter (fun p => decide (fr9 ≤ p.1.slot)))
          rw [List.filter_cons_of_neg (by rw [HPK.out]; simpa using hfr)] at h1
          exact (List.Perm.append_left _ ((h1.map (·.1)).symm)).trans HPM.out)
        have kA := Lib.hid ((Kp.refl Noone w3).alloc (.cells #[.int .i64 p.1.slot, .int .i64 p.1.bal.round, .int .i64 p.1.bal.node, .int .i64 p.1.val.kind, .slice p.2.co p.1.val.cmds.length p.2.cc, .slice p.2.no p.1.val.next.length p.2.nc] 56))
        go_wp2_with fail
        go_roundg T2.length
        case measure => rw [HG.out]; exact HGL.out
        case rel => exact ⟨T2, M, no, cap, D, rfl, rfl, HIT4.out.kp kA.out id id, Lib.hid (HOW.out.keep kA.out), Lib.hid (fun p hpm => (HVS.out p hpm).keep kA.out), HP2, HTL, Lib.hid (HK3.out.trans kA.out), by have := HML2.out; omega⟩
      case pos =>
        have HP2 : Hid ((M.map (·.1) ++ p.1 :: (T2.filter (fun p => decide (fr9 ≤ p.1.slot))).map (·.1)).Perm (fromV a.votes fr9)) := Lib.hid (by
          have h1 := (HPP.out.filter (fun p => decide (fr9 ≤ p.1.slot)))
          rw [List.filter_cons_of_pos (by rw [HPK.out]; simpa using hfr)] at h1
          exact (List.Perm.append_left _ ((h1.map (·.1)).symm)).trans HPM.out)
        have kA : Kp Noone w3 (w3.alloc (.cells #[.int .i64 p.1.slot, .int .i64 p.1.bal.round, .int .i64 p.1.bal.node, .int .i64 p.1.val.kind, .slice p.2.co p.1.val.cmds.length p.2.cc, .slice p.2.no p.1.val.next.length p.2.nc] 56)) := (Kp.refl _ _).alloc _
        have hbA := heap_alloc_new w3 (.cells #[.int .i64 p.1.slot, .int .i64 p.1.bal.round, .int .i64 p.1.bal.node, .int .i64 p.1.val.kind, .slice p.2.co p.1.val.cmds.length p.2.cc, .slice p.2.no p.1.val.next.length p.2.nc] 56)
        have HKA := Lib.hid kA
        have HBA := Lib.hid hbA
        have hcl := fun W (kk : Kp Noone w3 W) => cloneVal_any p.1.val p.2 W (HVA.out.keep kk) (by omega) (by omega)
        unfold valV at hcl
        have HS1 : Hid ((w3.alloc (.cells #[.int .i64 p.1.slot, .int .i64 p.1.bal.round, .int .i64 p.1.bal.node, .int .i64 p.1.val.kind, .slice p.2.co p.1.val.cmds.length p.2.cc, .slice p.2.no p.1.val.next.length p.2.nc] 56)).heap.size = w3.heap.size + 1) := Lib.hid (by simp)
        rw [← HPK.out] at hfr
        have hfr2 : fr9 ≤ p.1.slot := hfr
        clear kA hbA
        rw [← HPK.out] at hen
        go_upto_region 8 with fail
        generalize w3.alloc (.cells #[.int .i64 p.1.slot, .int .i64 p.1.bal.round, .int .i64 p.1.bal.node, .int .i64 p.1.val.kind, .slice p.2.co p.1.val.cmds.length p.2.cc, .slice p.2.no p.1.val.next.length p.2.nc] 56) = wA at *
        generalize hgg : w3.heap.size = g at *
        have HGG := Lib.hid hgg
        obtain ⟨x0, x1, x2, x3, x4, x5⟩ := cells_6v HBA.out
        clear x0 x1 x2 hgg hen
        go_wp2_with fail
        refine (hcl _ HKA.out).mono ?_
        clear hcl
        rintro e w5 ⟨m5, rfl, ho5, k5⟩
        have hb5 := k5.heap HBA.out id
        have yf := frz hb5
        have yf3 := yf 3
        have yf4 := yf 4
        have yf5 := yf 5
        obtain ⟨y0, y1, y2, y3, y4, y5⟩ := cells_6v hb5
        have hts := three_at (p := .int .i64 p.1.val.kind) (q := .slice m5.co p.1.val.cmds.length m5.cc) (r := .slice m5.no p.1.val.next.length m5.nc) hb5
        have HTS := Lib.hid hts
        have HO5 := Lib.hid ho5
        have HK5 := Lib.hid k5
        clear x3 x4 x5 hts ho5 k5 hb5 yf y0 y1 y2
        go_upto_region 9 with fail
        clear y3 y4 y5 yf3 yf4 yf5
        generalize ((w5.setCell ⟨g, 3, none⟩ (.int .i64 p.1.val.kind)).setCell ⟨g, 4, none⟩ (.slice m5.co p.1.val.cmds.length m5.cc)).setCell ⟨g, 5, none⟩ (.slice m5.no p.1.val.next.length m5.nc) = w6 at *
        obtain ⟨z0, z1, z2, z3, z4, z5⟩ := cells_6v HTS.out.1
        have hkA5 := HKA.out.trans HK5.out
        have hgr : r < g := by have := HRZ.out; have := HGG.out; omega
        have how6 := (((HOW.out.mono (G := fun j => (r < j ∧ D j) ∧ j < g) (fun j hj d => ⟨d, by have := HGG.out; omega⟩)).keep hkA5).kp HTS.out.2 (fun j d e => by omega))
        have hit6 := (HIT4.out.kp hkA5 id id).kp HTS.out.2 (by omega) (by have := HIT4.out.map.lt; have := HGG.out; omega)
        have kB : Kp Noone w6 (w6.alloc (.cells #[.int .i64 p.1.slot, .int .i64 p.1.bal.round, .int .i64 p.1.bal.node, .int .i64 p.1.val.kind, .slice m5.co p.1.val.cmds.length m5.cc, .slice m5.no p.1.val.next.length m5.nc] 56)) := (Kp.refl _ _).alloc _
        have hrowB := heap_alloc_new w6 (.cells #[.int .i64 p.1.slot, .int .i64 p.1.bal.round, .int .i64 p.1.bal.node, .int .i64 p.1.val.kind, .slice m5.co p.1.val.cmds.length m5.cc, .slice m5.no p.1.val.next.length m5.nc] 56)
        have hsB : (w6.alloc (.cells #[.int .i64 p.1.slot, .int .i64 p.1.bal.round, .int .i64 p.1.bal.node, .int .i64 p.1.val.kind, .slice m5.co p.1.val.cmds.length m5.cc, .slice m5.no p.1.val.next.length m5.nc] 56)).heap.size = w6.heap.size + 1 := by simp
        have howB := how6.keep kB
        have HOB := Lib.hid howB
        have HROWB : Hid (Row (w6.alloc (.cells #[.int .i64 p.1.slot, .int .i64 p.1.bal.round, .int .i64 p.1.bal.node, .int .i64 p.1.val.kind, .slice m5.co p.1.val.cmds.length m5.cc, .slice m5.no p.1.val.next.length m5.nc] 56)) (some ⟨w6.heap.size, 0, none⟩) (voteCs (p.1, m5))) := Lib.hid (Row.ofHeap hrowB)
        have HIB := Lib.hid (hit6.kp kB id id)
        have HVB : Hid (∀ x ∈ M, ValOwn (fun j => (r < j ∧ ¬ D j) ∧ j < g) (w6.alloc (.cells #[.int .i64 p.1.slot, .int .i64 p.1.bal.round, .int .i64 p.1.bal.node, .int .i64 p.1.val.kind, .slice m5.co p.1.val.cmds.length m5.cc, .slice m5.no p.1.val.next.length m5.nc] 56)) x.1.val x.2) := Lib.hid (fun x hx =>
          ((((HVS.out x hx).mono (G := fun j => (r < j ∧ ¬ D j) ∧ j < g) (fun j hj d => ⟨d, by have := HGG.out; omega⟩)).keep hkA5).kp HTS.out.2 (fun j d e => by omega)).keep kB)
        have HNB : Hid (ValOwn (fun j => g < j ∧ j < w6.heap.size + 1) (w6.alloc (.cells #[.int .i64 p.1.slot, .int .i64 p.1.bal.round, .int .i64 p.1.bal.node, .int .i64 p.1.val.kind, .slice m5.co p.1.val.cmds.length m5.cc, .slice m5.no p.1.val.next.length m5.nc] 56)) p.1.val m5) := Lib.hid (by
          have h1 := HO5.out.mono (G := fun j => g < j ∧ j < w6.heap.size + 1) (fun j hj d => by
            have h2 := d.none
            have h3 := HS1.out
            have h4 := HTS.out.2.size
            omega)
          exact (h1.kp HTS.out.2 (fun j d e => by omega)).keep kB)
        have HKB : Hid (Kp Noone w (w6.alloc (.cells #[.int .i64 p.1.slot, .int .i64 p.1.bal.round, .int .i64 p.1.bal.node, .int .i64 p.1.val.kind, .slice m5.co p.1.val.cmds.length m5.cc, .slice m5.no p.1.val.next.length m5.nc] 56))) := Lib.hid (((HK3.out.trans hkA5).fin HTS.out.2 (fun j e => Or.inr (by have := HR.out; omega))).trans kB)
        have HSB := Lib.hid hsB
        have HGR := Lib.hid hgr
        have HG6 : Hid (g < w6.heap.size) := Lib.hid (Array.getElem?_eq_some_iff.1 HTS.out.1).1
        clear hkA5 hgr how6 hit6 kB hrowB hsB howB hfr hfr2 hsm
        go_wp2_with (at_builtin; refine wpList_append_gen _ rfl (.tmp 28) (.tmp 30) 37 rfl 56 i0 (.agg #[.int .i64 0, .int .i64 0, .int .i64 0, .int .i64 0, .slice none 0 0, .slice none 0 0]) 6 80 Tryz.underlying37 hi hz0 hz1 hz2 rfl no M.length cap rfl (some ⟨w6.heap.size, 0, none⟩) 1 1 rfl _ _ HOB.out (voteCs (p.1, m5)) rfl HROWB.out (voteCs_one _) (by omega) (by unfold maxLen; omega) ?_)
        intro no' cap' w7 ho7 k7
        have RR : Hid (∃ (T M9 : List VoteL) (no9 : Option Addr) (cap9 : Nat) (D9 : Nat → Prop), T2.length = T.length ∧ Value.slice no' (M.length + 1) cap' = .slice no9 M9.length cap9 ∧ Iter encI w7 r mb (voteM L) (voteM T) ∧ Hid (Own (fun j => r < j ∧ D9 j) w7 56 6 no9 M9.length cap9 (votesV M9)) ∧ Hid (∀ p ∈ M9, ValOwn (fun j => r < j ∧ ¬ D9 j) w7 p.1.val p.2) ∧
            Hid ((M9.map (·.1) ++ (T.filter (fun p => decide (fr9 ≤ p.1.slot))).map (·.1)).Perm (fromV a.votes fr9)) ∧ Hid (∀ p ∈ T, p ∈ L) ∧ Hid (Kp Noone w w7) ∧ M9.length + T.length ≤ 1099511627776) := Lib.hid (by
          have hsB := HSB.out
          have hgr := HGR.out
          have hg6 := HG6.out
          refine ⟨T2, M ++ [(p.1, m5)], no', cap', fun j => (D j ∧ j < g) ∨ w6.heap.size + 1 ≤ j, rfl, by rw [List.length_append]; rfl, HIB.out.kp k7 (fun d => by omega) (fun d => by have := HML.out; have := HR.out; omega), Lib.hid ?_, Lib.hid (fun x hx => ?_), Lib.hid ?_, HTL, Lib.hid (HKB.out.fin k7 (fun j d => Or.inr (by have := HR.out; omega))), by rw [List.length_append]; have := HML2.out; simp only [List.length_cons, List.length_nil]; omega⟩
          · rw [List.length_append, votesV_app, show votesV [(p.1, m5)] = voteCs (p.1, m5) from by unfold votesV; simp]
            exact ho7.mono (fun j hj d => by
              rcases d with d | d
              · exact ⟨d.1.1, Or.inl ⟨d.1.2, d.2⟩⟩
              · exact ⟨by omega, Or.inr (by omega)⟩)
          · rcases List.mem_append.1 hx with hx | hx
            · exact ((HVB.out x hx).kp k7 (fun j d e => d.1.2 e.1.2)).mono (fun j hj d => ⟨d.1.1, fun e => by
                rcases e with e | e
                · exact d.1.2 e.1
                · omega⟩)
            · rw [List.mem_singleton.1 hx]
              exact (HNB.out.kp k7 (fun j d e => by omega)).mono (fun j hj d => ⟨by omega, fun e => by omega⟩)
          · rw [List.map_append, List.append_assoc]
            exact HP2.out)
        clear ho7 k7 HOB HROWB HIB HVB HNB HKB HP2
        go_wp2_with fail
        go_roundg T2.length
        case measure => rw [HG.out]; exact HGL.out
        case rel => exact RR.out

end Go.Proofs.YtgbgbokcohfnpaaGreat
