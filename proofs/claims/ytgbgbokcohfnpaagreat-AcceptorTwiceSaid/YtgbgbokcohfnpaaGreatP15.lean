/-
  The texts WalSimAll in one: what the claim reaches of them.
-/
import Derived.Test.YtgbgbokcohfnpaaGreatP14
import Derived.Test.YtgbgbokcohfnpaaGreatP07
/-
  WalChain, WalSim, WalSimO in one text.
-/
/-
  wal: PIECES THAT FOLLOW ONE ANOTHER, in plain Lean: what is found of them.
-/
namespace Go.Proofs.YtgbgbokcohfnpaaGreat
open Go.RowKit

structure PcS where
  num : Nat
  first : Nat
  recs : List (List UInt8)
def pieceD (p : PcS) : List UInt8 := headerL p.num p.first ++ frames p.recs
structure PcOk (p : PcS) : Prop where
  num : 1 ≤ p.num ∧ p.num ≤ 999999
  first : 1 ≤ p.first ∧ p.first ≤ 1099511627776
  recs : ∀ d ∈ p.recs, d.length ≤ 8192
def Chain : Nat → List PcS → Prop
  | _, [] => True
  | n, p :: r => p.first = n ∧ Chain (n + p.recs.length) r
def endOf : Nat → List PcS → Nat
  | n, [] => n
  | n, p :: r => endOf (n + p.recs.length) r
def recsOf : List PcS → Recs
  | [] => []
  | p :: r => numbered p.first p.recs ++ recsOf r
def heads (ps : List PcS) : List (Nat × Nat) := ps.map fun p => (p.num, p.first)
def datOf (ps : List PcS) : Dat := ps.map fun p => (walName p.num, pieceD p)
theorem pieceD_frames (p : PcS) : pieceD p = frames ((numL p.num ++ numL p.first) :: p.recs) := by
  rw [frames_cons]
  rfl
theorem splitL_all {ds : List (List UInt8)} (h : ∀ d ∈ ds, d.length ≤ 8192) : splitL (frames ds) = ds := by
  have h1 := splitL_frames ds [] h
  rw [List.append_nil, splitL_nil, List.append_nil] at h1
  exact h1
theorem split_piece {p : PcS} (h : PcOk p) : splitL (pieceD p) = (numL p.num ++ numL p.first) :: p.recs := by
  rw [pieceD_frames]
  refine splitL_all fun d hd => ?_
  rcases List.mem_cons.1 hd with e | e
  · rw [e]; exact header_small _ _
  · exact h.recs d e
theorem scan_piece {p : PcS} (h : PcOk p) {f : FoundS} (hw : f.whole = true) (hn : f.pieces = [] ∨ f.next = p.first) : scan1 f (walName p.num) (pieceD p) = ⟨f.pieces ++ [(p.num, p.first)], f.recs ++ numbered p.first p.recs, p.first + p.recs.length, (pieceD p).length, true, f.rest⟩ := by
  have hsp := split_piece h
  have hnm := number_of p.num h.num.2
  have hh : headOf (splitL (pieceD p)) p.num = (p.first, true) := by
    rw [hsp]
    exact begins_header p.num p.first h.num.2 h.first.2 h.first.1
  have hl : (frames (splitL (pieceD p))).length = (pieceD p).length := by rw [hsp, ← pieceD_frames]
  rw [scan1_eq, hnm, if_neg (by have := h.num.1; omega), if_neg]
  · unfold tookF
    rw [hnm, hh, hl, hsp]
    simp
  · unfold strayB
    rw [hnm, hh, hw]
    rintro (c | c | ⟨c1, c2⟩)
    · cases c
    · cases c
    · rcases hn with e | e
      · rw [e] at c1
        simp at c1
      · exact c2 e.symm
theorem scan_chain : ∀ (ps : List PcS) (n : Nat) (f : FoundS), f.whole = true → (f.pieces = [] ∨ f.next = n) → Chain n ps → (∀ p ∈ ps, PcOk p) → ∀ (h0 : ps ≠ []), foldS (datOf ps) f = ⟨f.pieces ++ heads ps, f.recs ++ recsOf ps, endOf n ps, (pieceD (ps.getLast h0)).length, true, f.rest⟩
  | [], _, _, _, _, _, _, h0 => absurd rfl h0
  | [p], n, f, hw, hn, hc, hk, _ => by
    show scan1 f (walName p.num) (pieceD p) = _
    have e := hc.1
    rw [scan_piece (hk p (List.mem_cons_self ..)) hw (by rw [e]; exact hn)]
    simp [heads, recsOf, endOf, e]
  | p :: q :: r, n, f, hw, hn, hc, hk, _ => by
    have e := hc.1
    show foldS (datOf (q :: r)) (scan1 f (walName p.num) (pieceD p)) = _
    rw [scan_piece (hk p (List.mem_cons_self ..)) hw (by rw [e]; exact hn)]
    have ih := scan_chain (q :: r) (n + p.recs.length) ⟨f.pieces ++ [(p.num, p.first)], f.recs ++ numbered p.first p.recs, p.first + p.recs.length, (pieceD p).length, true, f.rest⟩ rfl (Or.inr (by rw [e])) hc.2 (fun x hx => hk x (List.mem_cons_of_mem _ hx)) (List.cons_ne_nil _ _)
    rw [ih]
    simp [heads, recsOf, endOf]
theorem numbered_append : ∀ (i : Nat) (a b : List (List UInt8)), numbered i (a ++ b) = numbered i a ++ numbered (i + a.length) b
  | _, [], _ => rfl
  | i, d :: r, b => by
    show (i, d) :: numbered (i + 1) (r ++ b) = (i, d) :: (numbered (i + 1) r ++ numbered (i + (r.length + 1)) b)
    rw [numbered_append (i + 1) r b, show i + 1 + r.length = i + (r.length + 1) by omega]
/-- All records behind one another. -/
def allOf (ps : List PcS) : List (List UInt8) := (ps.map (·.recs)).flatten
theorem recs_chain : ∀ (ps : List PcS) (n : Nat), Chain n ps → recsOf ps = numbered n (allOf ps)
  | [], _, _ => rfl
  | p :: r, n, h => by
    have e := h.1
    show numbered p.first p.recs ++ recsOf r = numbered n (p.recs ++ allOf r)
    rw [numbered_append, e, recs_chain r _ h.2]
theorem end_chain : ∀ (ps : List PcS) (n : Nat), endOf n ps = n + (allOf ps).length
  | [], _ => rfl
  | p :: r, n => by
    show endOf (n + p.recs.length) r = n + (p.recs ++ allOf r).length
    rw [end_chain r, List.length_append]
    omega
theorem chain_append : ∀ (a b : List PcS) (n : Nat), Chain n (a ++ b) ↔ Chain n a ∧ Chain (endOf n a) b
  | [], b, n => by simp [Chain, endOf]
  | p :: r, b, n => by
    show p.first = n ∧ Chain (n + p.recs.length) (r ++ b) ↔ (p.first = n ∧ Chain (n + p.recs.length) r) ∧ Chain (endOf (n + p.recs.length) r) b
    rw [chain_append r b]
    exact ⟨fun h => ⟨⟨h.1, h.2.1⟩, h.2.2⟩, fun h => ⟨h.1.1, h.1.2, h.2⟩⟩
/-- A new area behind all others. -/
theorem ins_last {k : ByteArray} {a : AreaP} : ∀ {L : Img}, (∀ x ∈ L, toL x.1 < toL k) → ins (k, a) L = L ++ [(k, a)]
  | [], _ => rfl
  | x :: r, h => by
    unfold ins
    rw [if_pos (h x (List.mem_cons_self ..)), ins_last (fun y hy => h y (List.mem_cons_of_mem _ hy))]
    rfl
/-- The last area takes another content. -/
theorem upd_last {k : ByteArray} {a b : AreaP} {L : Img} (h : ∀ x ∈ L, x.1 ≠ k) : upd k b (L ++ [(k, a)]) = L ++ [(k, b)] := by
  have h1 := upd_none (L := L) (k := k) (fun c => by
    obtain ⟨x, hx, e⟩ := List.mem_map.1 c
    exact h x hx e) b
  unfold upd at h1 ⊢
  rw [List.map_append, h1]
  simp
theorem get_last {k : ByteArray} {a : AreaP} : ∀ {L : Img}, (∀ x ∈ L, x.1 ≠ k) → alGet k (L ++ [(k, a)]) = some a
  | [], _ => by rw [List.nil_append, alGet_cons, if_pos rfl]
  | x :: r, h => by
    rw [List.cons_append, alGet_cons, if_neg (fun e => h x (List.mem_cons_self ..) e.symm)]
    exact get_last (fun y hy => h y (List.mem_cons_of_mem _ hy))

end Go.Proofs.YtgbgbokcohfnpaaGreat

/-
  THE DOCUMENT'S log (synodref09) in plain Lean, side by side with the code's.
-/
namespace Go.Proofs.YtgbgbokcohfnpaaGreat
open Go.RowKit

structure RLog where
  d : RD
  lim : Nat
  ps : List PcS
  shut : Bool
abbrev RLE := RLog × Nat
def oCut (k : ByteArray) (n : Int) : OpD := ⟨2, k, ByteArray.empty, [], n, []⟩
def stepR (l : RLog) (o : OpD) : RLE := (⟨(doE l.d o).1, l.lim, l.ps, if (doE l.d o).2 = 2 then true else l.shut⟩, (doE l.d o).2)
def begR2 (r : RLE) (num first : Nat) : RLE :=
  if r.2 = 42 then ((stepR r.1 (oDrop (walName num))).1, if (stepR r.1 (oDrop (walName num))).2 ≠ 0 then (stepR r.1 (oDrop (walName num))).2 else 42)
  else if r.2 ≠ 0 then r else (⟨r.1.d, r.1.lim, r.1.ps ++ [⟨num, first, []⟩], r.1.shut⟩, 0)
def begR (l : RLog) (num first : Nat) : RLE :=
  if (stepR l (oApp (walName num) (headerL num first))).2 ≠ 0 then stepR l (oApp (walName num) (headerL num first)) else begR2 (stepR (stepR l (oApp (walName num) (headerL num first))).1 (oSync (walName num))) num first
def tailP (ps : List PcS) : PcS := ps.getLastD ⟨0, 0, []⟩
def nextP9 (ps : List PcS) : Nat := (tailP ps).first + (tailP ps).recs.length
/-- One record more in the last piece. -/
def moreP (ps : List PcS) (d : List UInt8) : List PcS := ps.dropLast ++ [⟨(tailP ps).num, (tailP ps).first, (tailP ps).recs ++ [d]⟩]
def tailR (l : RLog) (d : List UInt8) : RLog × Nat × Nat :=
  if (stepR l (oApp (walName (tailP l.ps).num) (frameL d))).2 ≠ 0 then ((stepR l (oApp (walName (tailP l.ps).num) (frameL d))).1, 0, (stepR l (oApp (walName (tailP l.ps).num) (frameL d))).2)
  else (⟨(stepR l (oApp (walName (tailP l.ps).num) (frameL d))).1.d, l.lim, moreP l.ps d, (stepR l (oApp (walName (tailP l.ps).num) (frameL d))).1.shut⟩, nextP9 l.ps, 0)
def rollR2 (r : RLE) (d : List UInt8) : RLog × Nat × Nat := if r.2 ≠ 0 then (r.1, 0, r.2) else tailR r.1 d
def rollR (r : RLE) (d : List UInt8) : RLog × Nat × Nat := if r.2 ≠ 0 then (r.1, 0, r.2) else rollR2 (begR r.1 ((tailP r.1.ps).num + 1) (nextP9 r.1.ps)) d
def shutR (l : RLog) : RLog := ⟨l.d, l.lim, l.ps, true⟩
def appendR (l : RLog) (d : List UInt8) : RLog × Nat × Nat :=
  if l.shut = true ∨ l.d.down = true then (shutR l, 0, 2)
  else if 8192 < d.length then (l, 0, 12)
  else if (tailP l.ps).recs ≠ [] ∧ l.lim ≤ (pieceD (tailP l.ps)).length then (if 999999 ≤ (tailP l.ps).num then (l, 0, 43) else rollR (stepR l (oSync (walName (tailP l.ps).num))) d)
  else tailR l d
def syncR (l : RLog) : RLE := if l.shut = true ∨ l.d.down = true then (shutR l, 2) else stepR l (oSync (walName (tailP l.ps).num))
def trimRL (idx : Int) : List PcS → RLog → RLE
  | [], l => (l, 0)
  | [_], l => (l, 0)
  | a :: b :: r, l => if (b.first : Int) ≤ idx then (if (stepR l (oDrop (walName a.num))).2 ≠ 0 then stepR l (oDrop (walName a.num)) else trimRL idx (b :: r) ⟨(stepR l (oDrop (walName a.num))).1.d, l.lim, b :: r, (stepR l (oDrop (walName a.num))).1.shut⟩) else (l, 0)
def trimR (l : RLog) (idx : Int) : RLE := if l.shut = true ∨ l.d.down = true then (shutR l, 2) else trimRL idx l.ps l

/-! ### What is found -/
structure FndR where
  ps : List PcS
  strays : List Nat
  whole : Bool
  next : Nat
  good : Nat
def fnd0 : FndR := ⟨[], [], true, 0, 0⟩
def strayD (g : FndR) (k : ByteArray) (b : List UInt8) : Prop := g.whole = false ∨ (headOf (splitL b) (numberN k)).2 = false ∨ (0 < g.ps.length ∧ (headOf (splitL b) (numberN k)).1 ≠ g.next)
instance (g : FndR) (k : ByteArray) (b : List UInt8) : Decidable (strayD g k b) := by unfold strayD; infer_instance
def fnd1 (g : FndR) (k : ByteArray) (b : List UInt8) : FndR :=
  if numberN k = 0 then g
  else if strayD g k b then { g with whole := false, strays := g.strays ++ [numberN k] }
  else ⟨g.ps ++ [⟨numberN k, (headOf (splitL b) (numberN k)).1, (splitL b).tail⟩], g.strays, decide ((frames (splitL b)).length = b.length), (headOf (splitL b) (numberN k)).1 + (splitL b).tail.length, (frames (splitL b)).length⟩
def foundR (L : Dat) : FndR := L.foldl (fun g x => fnd1 g x.1 x.2) fnd0
def strayR : List Nat → RLog → RLE
  | [], l => (l, 0)
  | n :: r, l => if (stepR l (oDrop (walName n))).2 ≠ 0 then stepR l (oDrop (walName n)) else strayR r (stepR l (oDrop (walName n))).1
abbrev OpenD := RLog × Recs × Nat
def openSyncR (t : RLE) : OpenD := if t.2 ≠ 0 then (t.1, [], t.2) else (t.1, recsOf t.1.ps, 0)
def openCutR (k : ByteArray) (t : RLE) : OpenD := if t.2 ≠ 0 then (t.1, [], t.2) else openSyncR (stepR t.1 (oSync k))
def openDropR (g : FndR) (r : RLE) : OpenD :=
  if r.2 ≠ 0 then (r.1, [], r.2)
  else if g.ps = [] then ((begR r.1 1 1).1, [], (begR r.1 1 1).2)
  else openCutR (walName (tailP g.ps).num) (stepR ⟨r.1.d, r.1.lim, g.ps, r.1.shut⟩ (oCut (walName (tailP g.ps).num) (g.good : Int)))
def openR (m : RD) (n : Int) : OpenD := if m.down = true then (⟨m, limF n, [], false⟩, [], 2) else openDropR (foundR (datL m.L)) (strayR (foundR (datL m.L)).strays.reverse ⟨m, limF n, [], false⟩)

/-! ### Side by side -/
structure SimW (m : RLog) (s : DS) (l : LogP) : Prop where
  d : Sim m.d s
  lim : m.lim = l.limit
  ps : heads m.ps = l.pieces
  shut : m.shut = l.shut
  last : m.ps ≠ [] → l.next = nextP9 m.ps ∧ l.size = (pieceD (tailP m.ps)).length
def W2 (a : RLE) (b : DS × LogP × Nat) : Prop := SimW a.1 b.1 b.2.1 ∧ a.2 = b.2.2
def W3 (a : RLog × Nat × Nat) (b : DS × LogP × Nat × Nat) : Prop := SimW a.1 b.1 b.2.1 ∧ a.2 = b.2.2
theorem sim_cut {m : RD} {s : DS} (h : Sim m s) (hd : DOk s) (k : ByteArray) (n : Int) : S2 (doE m (oCut k n)) (cutF s k n) := by
  have h1 := sim_do h hd (oCut k n)
  exact ⟨h1.1, congrArg Prod.snd h1.2⟩
theorem step_sim {m : RLog} {s : DS} {l : LogP} (h : SimW m s l) {o : OpD} {t : DS × Nat} (hs : S2 (doE m.d o) t) : SimW (stepR m o).1 t.1 (metF l t.2) ∧ (stepR m o).2 = t.2 := by
  obtain ⟨h1, h2⟩ := hs
  unfold stepR metF
  rw [h2]
  refine ⟨?_, rfl⟩
  by_cases c : t.2 = 2
  · rw [if_pos c, if_pos c]
    exact ⟨h1, h.lim, h.ps, rfl, h.last⟩
  · rw [if_neg c, if_neg c]
    exact ⟨h1, h.lim, h.ps, h.shut, h.last⟩
theorem step_zero {m : RLog} {s : DS} {l : LogP} (h : SimW m s l) {o : OpD} {t : DS × Nat} (hs : S2 (doE m.d o) t) (h0 : ¬ t.2 ≠ 0) : SimW (stepR m o).1 t.1 l := by
  have h1 := (step_sim h hs).1
  have h2 : t.2 = 0 := by omega
  rw [h2] at h1
  exact h1
theorem heads_snoc (ps : List PcS) (p : PcS) : heads (ps ++ [p]) = heads ps ++ [(p.num, p.first)] := by simp [heads]
theorem tailP_snoc (ps : List PcS) (p : PcS) : tailP (ps ++ [p]) = p := by simp [tailP]
theorem snoc_tail {ps : List PcS} (h : ps ≠ []) : ps = ps.dropLast ++ [tailP ps] := by
  unfold tailP
  rw [List.getLastD_eq_getLast?, List.getLast?_eq_some_getLast h]
  exact (List.dropLast_concat_getLast h).symm
theorem SimW.lastP {m : RLog} {s : DS} {l : LogP} (h : SimW m s l) (h0 : m.ps ≠ []) : Proofs.YtgbgbokcohfnpaaGreat.lastP l = ((tailP m.ps).num, (tailP m.ps).first) := by
  have h1 := h.ps
  rw [snoc_tail h0, heads_snoc] at h1
  unfold Proofs.YtgbgbokcohfnpaaGreat.lastP
  rw [← h1]
  simp
theorem begin_sim {m : RLog} {s : DS} {l : LogP} (h : SimW m s l) (hd : DOk s) (hst : s.steps < 4611686018427387900) (num first : Nat) : W2 (begR m num first) (beginF s l num first) := by
  have a1 := sim_app h.d hd (walName num) (headerL num first)
  have d1 := appendF_ok hd (walName num) (headerL num first) (by omega)
  have s1 := appendF_steps s (walName num) (headerL num first)
  have b1 := step_sim h a1
  unfold begR beginF
  rw [b1.2]
  by_cases c1 : (appendF s (walName num) (headerL num first)).2 ≠ 0
  · rw [if_pos c1, if_pos c1]
    exact b1
  rw [if_neg c1, if_neg c1]
  have b1 := step_zero h a1 c1
  generalize (stepR m (oApp (walName num) (headerL num first))).1 = m1 at *
  generalize (appendF s (walName num) (headerL num first)).1 = t1 at *
  have a2 := sim_sync b1.d d1 (walName num)
  have d2 := syncF_ok d1 (walName num) (by omega)
  have s2 := syncF_steps t1 (walName num)
  have b2 := step_sim b1 a2
  have b20 := step_zero b1 a2
  unfold begR2 beginB
  rw [b2.2]
  by_cases c2 : (syncF t1 (walName num)).2 = 42
  · rw [if_pos c2, if_pos c2]
    rw [c2] at b2
    have b2 : SimW (stepR m1 (oSync (walName num))).1 (syncF t1 (walName num)).1 l := b2.1
    have a3 := sim_drop b2.d d2 (walName num)
    have b3 := step_sim b2 a3
    have b30 := step_zero b2 a3
    rw [b3.2]
    by_cases c3 : (dropF (syncF t1 (walName num)).1 (walName num)).2 ≠ 0
    · rw [if_pos c3, if_pos c3]
      exact ⟨b3.1, rfl⟩
    · rw [if_neg c3, if_neg c3]
      exact ⟨b30 c3, rfl⟩
  · rw [if_neg c2, if_neg c2]
    by_cases c4 : (syncF t1 (walName num)).2 ≠ 0
    · rw [if_pos c4, if_pos c4]
      exact b2
    · rw [if_neg c4, if_neg c4]
      have b := b20 c4
      refine ⟨⟨b.d, b.lim, ?_, b.shut, fun _ => ?_⟩, rfl⟩
      · show heads _ = l.pieces ++ _
        rw [heads_snoc, b.ps]
      · unfold nextP9
        rw [tailP_snoc]
        refine ⟨by show first = _; simp, ?_⟩
        show (headerL num first).length = _
        unfold pieceD
        rw [frames_nil, List.append_nil]
theorem begin_ok {s : DS} (hd : DOk s) (l : LogP) (num first : Nat) (hst : s.steps < 4611686018427387900) : DOk (beginF s l num first).1 := by
  have d1 := appendF_ok hd (walName num) (headerL num first) (by omega)
  have s1 := appendF_steps s (walName num) (headerL num first)
  have d2 := syncF_ok d1 (walName num) (by omega)
  have s2 := syncF_steps (appendF s (walName num) (headerL num first)).1 (walName num)
  have d3 := dropF_ok d2 (walName num) (by omega)
  unfold beginF
  split
  · exact d1
  · unfold beginB
    split
    · split
      · exact d3
      · exact d3
    · split
      · exact d2
      · exact d2
theorem moreP_tail {ps : List PcS} (d : List UInt8) : tailP (moreP ps d) = ⟨(tailP ps).num, (tailP ps).first, (tailP ps).recs ++ [d]⟩ := by
  unfold moreP
  rw [tailP_snoc]
theorem heads_more {ps : List PcS} (h : ps ≠ []) (d : List UInt8) : heads (moreP ps d) = heads ps := by
  conv => rhs; rw [snoc_tail h]
  unfold moreP
  rw [heads_snoc, heads_snoc]
theorem tail_sim {m : RLog} {s : DS} {l : LogP} (h : SimW m s l) (h0 : m.ps ≠ []) (hd : DOk s) (d : List UInt8) : W3 (tailR m d) (appTail s l d) := by
  have hl := h.lastP h0
  have a1 := sim_app h.d hd (walName (tailP m.ps).num) (frameL d)
  have b1 := step_sim h a1
  have b10 := step_zero h a1
  obtain ⟨n1, n2⟩ := h.last h0
  unfold tailR appTail
  rw [hl, b1.2]
  by_cases c1 : (appendF s (walName (tailP m.ps).num) (frameL d)).2 ≠ 0
  · rw [if_pos c1, if_pos c1]
    exact ⟨b1.1, rfl⟩
  · rw [if_neg c1, if_neg c1]
    have b := b10 c1
    refine ⟨⟨b.d, h.lim, ?_, b.shut, fun _ => ?_⟩, by rw [n1]⟩
    · show heads (moreP m.ps d) = l.pieces
      rw [heads_more h0, h.ps]
    · show l.next + 1 = nextP9 (moreP m.ps d) ∧ l.size + (frameL d).length = (pieceD (tailP (moreP m.ps d))).length
      unfold nextP9 at n1 ⊢
      rw [moreP_tail]
      refine ⟨by rw [n1, List.length_append]; simp; omega, ?_⟩
      rw [n2]
      unfold pieceD
      rw [frames_append, frames_cons, frames_nil]
      simp
      omega
theorem begR_ps {m : RLog} (num first : Nat) (h0 : m.ps ≠ []) : (begR m num first).1.ps ≠ [] := by
  unfold begR
  split
  · exact h0
  · unfold begR2
    split
    · exact h0
    · split
      · exact h0
      · simp
theorem alive_sim {m : RLog} {s : DS} {l : LogP} (h : SimW m s l) : (m.shut = true ∨ m.d.down = true) ↔ (l.shut = true ∨ s.down = true) := by rw [h.shut, h.d.down]
theorem shut_sim {m : RLog} {s : DS} {l : LogP} (h : SimW m s l) : SimW (shutR m) s { l with shut := true } := ⟨h.d, h.lim, h.ps, rfl, h.last⟩
theorem alive_shut {s : DS} {l : LogP} (h : l.shut = true ∨ s.down = true) : aliveF s l = ({ l with shut := true }, 2) := by unfold aliveF; rw [if_pos h]
theorem alive_yes {s : DS} {l : LogP} (h : ¬ (l.shut = true ∨ s.down = true)) : aliveF s l = (l, 0) := by unfold aliveF; rw [if_neg h]
theorem append_sim {m : RLog} {s : DS} {l : LogP} (h : SimW m s l) (h0 : m.ps ≠ []) (hd : DOk s) (hst : s.steps < 4611686018427387000) (d : List UInt8) : W3 (appendR m d) (appendLF s l d) := by
  have hl := h.lastP h0
  obtain ⟨n1, n2⟩ := h.last h0
  unfold appendR appendLF
  by_cases c0 : l.shut = true ∨ s.down = true
  · rw [alive_shut c0, if_pos ((alive_sim h).2 c0), if_pos (show ({ l with shut := true }, 2).2 ≠ 0 by simp)]
    exact ⟨shut_sim h, rfl⟩
  rw [alive_yes c0, if_neg (fun c => c0 ((alive_sim h).1 c)), if_neg (show ¬ (l, 0).2 ≠ 0 by simp)]
  by_cases c1 : 8192 < d.length
  · rw [if_pos c1, if_pos c1]
    exact ⟨h, rfl⟩
  rw [if_neg c1, if_neg c1, hl]
  simp only []
  have hc : ((tailP m.ps).recs ≠ [] ∧ m.lim ≤ (pieceD (tailP m.ps)).length) ↔ (l.limit ≤ l.size ∧ (tailP m.ps).first < l.next) := by
    rw [n1, n2, h.lim]
    unfold nextP9
    rw [← List.length_pos_iff]
    omega
  by_cases c2 : l.limit ≤ l.size ∧ (tailP m.ps).first < l.next
  · rw [if_pos c2, if_pos (hc.2 c2)]
    by_cases c3 : 999999 ≤ (tailP m.ps).num
    · rw [if_pos c3, if_pos c3]
      exact ⟨h, rfl⟩
    rw [if_neg c3, if_neg c3]
    have a1 := sim_sync h.d hd (walName (tailP m.ps).num)
    have d1 := syncF_ok hd (walName (tailP m.ps).num) (by omega)
    have s1 := syncF_steps s (walName (tailP m.ps).num)
    have b1 := step_sim h a1
    have b10 := step_zero h a1
    unfold rollR rollF
    rw [b1.2]
    by_cases c4 : (syncF s (walName (tailP m.ps).num)).2 ≠ 0
    · rw [if_pos c4, if_pos c4]
      exact ⟨b1.1, rfl⟩
    rw [if_neg c4, if_neg c4]
    have b := b10 c4
    have hps : (stepR m (oSync (walName (tailP m.ps).num))).1.ps = m.ps := rfl
    rw [hps, ← n1, hl]
    simp only []
    have hq : (stepR m (oSync (walName (tailP m.ps).num))).1.ps ≠ [] := h0
    generalize (stepR m (oSync (walName (tailP m.ps).num))).1 = m1 at *
    generalize (syncF s (walName (tailP m.ps).num)).1 = t1 at *
    have b2 := begin_sim b d1 (by omega) ((tailP m.ps).num + 1) l.next
    have p2 := begR_ps (m := m1) ((tailP m.ps).num + 1) l.next hq
    have d2 := begin_ok d1 l ((tailP m.ps).num + 1) l.next (by omega)
    unfold rollR2 roll2
    rw [b2.2]
    by_cases c5 : (beginF t1 l ((tailP m.ps).num + 1) l.next).2.2 ≠ 0
    · rw [if_pos c5, if_pos c5]
      exact ⟨b2.1, rfl⟩
    · rw [if_neg c5, if_neg c5]
      exact tail_sim b2.1 p2 d2 d
  · rw [if_neg c2, if_neg (fun c => c2 (hc.1 c))]
    exact tail_sim h h0 hd d
theorem sync_sim {m : RLog} {s : DS} {l : LogP} (h : SimW m s l) (h0 : m.ps ≠ []) (hd : DOk s) : W2 (syncR m) (syncLF s l) := by
  have hl := h.lastP h0
  unfold syncR syncLF
  by_cases c0 : l.shut = true ∨ s.down = true
  · rw [alive_shut c0, if_pos ((alive_sim h).2 c0), if_pos (show ({ l with shut := true }, 2).2 ≠ 0 by simp)]
    exact ⟨shut_sim h, rfl⟩
  rw [alive_yes c0, if_neg (fun c => c0 ((alive_sim h).1 c)), if_neg (show ¬ (l, 0).2 ≠ 0 by simp), hl]
  exact step_sim h (sim_sync h.d hd _)
theorem trimL_sim (idx : Int) : ∀ (ps : List PcS) {m : RLog} {s : DS} {l : LogP}, SimW m s l → m.ps = ps → ps ≠ [] → DOk s → s.steps + ps.length < 4611686018427387904 → W2 (trimRL idx ps m) (trimLoop idx (heads ps) s l) ∧ (trimRL idx ps m).1.ps ≠ []
  | [], _, _, _, _, _, h0, _, _ => absurd rfl h0
  | [a], m, s, l, h, e, h0, _, _ => ⟨⟨h, rfl⟩, by show m.ps ≠ []; rw [e]; exact h0⟩
  | a :: b :: r, m, s, l, h, e, _, hd, hst => by
    rw [show heads (a :: b :: r) = (a.num, a.first) :: (b.num, b.first) :: heads r from rfl, trimLoop_cons]
    unfold trimRL
    by_cases c1 : (b.first : Int) ≤ idx
    case neg =>
      rw [if_neg c1, if_neg c1]
      exact ⟨⟨h, rfl⟩, by rw [e]; simp⟩
    rw [if_pos c1, if_pos c1]
    have a1 := sim_drop h.d hd (walName a.num)
    have d1 := dropF_ok hd (walName a.num) (by omega)
    have s1 := dropF_steps s (walName a.num)
    have b1 := step_sim h a1
    have b10 := step_zero h a1
    rw [b1.2]
    by_cases c2 : (dropF s (walName a.num)).2 ≠ 0
    · rw [if_pos c2, if_pos c2]
      exact ⟨b1, by show m.ps ≠ []; rw [e]; simp⟩
    rw [if_neg c2, if_neg c2]
    have bb := b10 c2
    have hl := h.last (by rw [e]; simp)
    rw [e] at hl
    simp only [List.length_cons] at hst
    refine trimL_sim idx (b :: r) (m := ⟨(stepR m (oDrop (walName a.num))).1.d, m.lim, b :: r, (stepR m (oDrop (walName a.num))).1.shut⟩) ⟨bb.d, h.lim, rfl, bb.shut, fun _ => ?_⟩ rfl (by simp) d1 (by simp only [List.length_cons]; omega)
    have e1 : tailP (a :: b :: r) = tailP (b :: r) := by simp [tailP]
    unfold nextP9 at hl ⊢
    rw [e1] at hl
    exact hl
theorem trim_sim {m : RLog} {s : DS} {l : LogP} (h : SimW m s l) (h0 : m.ps ≠ []) (hd : DOk s) (idx : Int) (hst : s.steps + m.ps.length < 4611686018427387904) : W2 (trimR m idx) (trimLF s l idx) ∧ (trimR m idx).1.ps ≠ [] := by
  unfold trimR trimLF
  by_cases c0 : l.shut = true ∨ s.down = true
  · rw [alive_shut c0, if_pos ((alive_sim h).2 c0), if_pos (show ({ l with shut := true }, 2).2 ≠ 0 by simp)]
    exact ⟨⟨shut_sim h, rfl⟩, h0⟩
  rw [alive_yes c0, if_neg (fun c => c0 ((alive_sim h).1 c)), if_neg (show ¬ (l, 0).2 ≠ 0 by simp), ← h.ps]
  exact trimL_sim idx m.ps h rfl h0 hd hst

end Go.Proofs.YtgbgbokcohfnpaaGreat

/-
  THE DOCUMENT'S Open of a log in plain Lean, side by side with the code's.
-/
namespace Go.Proofs.YtgbgbokcohfnpaaGreat
open Go.RowKit

theorem rcount_back {left : List UInt8} {bad : Nat} {most : Int} (h : (rcount left bad most).1.2 = 0) : bad = 0 ∧ left = numL (rcount left bad most).2 ++ (rcount left bad most).1.1 := by
  unfold rcount at h ⊢
  by_cases c : (max 0 most).toNat < (rnum left bad).2
  · rw [if_pos c] at h
    simp at h
  · rw [if_neg c] at h ⊢
    by_cases hb : bad = 0
    · subst hb
      exact ⟨rfl, rnum_back' left h⟩
    · exfalso
      have e : rnum left bad = ((left, bad), 0) := by
        unfold rnum
        rw [if_pos hb]
      rw [e] at h
      exact hb h
theorem rdone_zero {left : List UInt8} {bad : Nat} (h : rdone left bad = 0) : bad = 0 ∧ left = [] := by
  unfold rdone at h
  by_cases c : bad = 0 ∧ left ≠ []
  · rw [if_pos c] at h
    omega
  · rw [if_neg c] at h
    refine ⟨h, ?_⟩
    by_cases hl : left = []
    · exact hl
    · exact absurd ⟨h, hl⟩ c
/-- A piece's header has one form. -/
theorem begins_form {d : List UInt8} {num : Nat} (h : (beginsF d num).2 = true) : d = numL num ++ numL (beginsF d num).1 := by
  unfold beginsF at h ⊢
  simp only [decide_eq_true_eq] at h
  obtain ⟨h1, h2, -⟩ := h
  obtain ⟨b2, l2⟩ := rdone_zero h1
  obtain ⟨b1, e2⟩ := rcount_back b2
  obtain ⟨-, e1⟩ := rcount_back b1
  rw [l2, List.append_nil] at e2
  simp only []
  rw [← e2, ← h2]
  exact e1
theorem recsOf_snoc : ∀ (ps : List PcS) (p : PcS), recsOf (ps ++ [p]) = recsOf ps ++ numbered p.first p.recs
  | [], p => by simp [recsOf]
  | a :: r, p => by
    show numbered a.first a.recs ++ recsOf (r ++ [p]) = (numbered a.first a.recs ++ recsOf r) ++ numbered p.first p.recs
    rw [recsOf_snoc r p, List.append_assoc]
structure FSim (f : FoundS) (g : FndR) : Prop where
  ps : f.pieces = heads g.ps
  recs : f.recs = recsOf g.ps
  rest : f.rest = g.strays
  whole : f.whole = g.whole
  last : g.ps ≠ [] → f.next = g.next ∧ f.good = g.good ∧ g.next = nextP9 g.ps ∧ g.good = (pieceD (tailP g.ps)).length
theorem stray_iff {f : FoundS} {g : FndR} (h : FSim f g) (k : ByteArray) (b : List UInt8) : strayB f k b ↔ strayD g k b := by
  unfold strayB strayD
  have hl : f.pieces.length = g.ps.length := by rw [h.ps]; simp [heads]
  rw [h.whole, hl]
  by_cases h0 : 0 < g.ps.length
  · rw [(h.last (List.length_pos_iff.1 h0)).1]
  · simp [h0]
theorem fnd_sim {f : FoundS} {g : FndR} (h : FSim f g) (k : ByteArray) (b : List UInt8) : FSim (scan1 f k b) (fnd1 g k b) := by
  rw [scan1_eq]
  unfold fnd1
  by_cases h0 : numberN k = 0
  · rw [if_pos h0, if_pos h0]
    exact h
  rw [if_neg h0, if_neg h0]
  by_cases hs : strayB f k b
  · rw [if_pos hs, if_pos ((stray_iff h k b).1 hs)]
    exact ⟨h.ps, h.recs, by show _ ++ _ = _ ++ _; rw [h.rest], rfl, h.last⟩
  · rw [if_neg hs, if_neg (fun c => hs ((stray_iff h k b).2 c))]
    have hh : (headOf (splitL b) (numberN k)).2 = true := by
      cases hx : (headOf (splitL b) (numberN k)).2 with
      | true => rfl
      | false => exact absurd (Or.inr (Or.inl hx)) hs
    obtain ⟨d, r, e⟩ : ∃ d r, splitL b = d :: r := by
      cases hx : splitL b with
      | nil => rw [hx] at hh; cases hh
      | cons d r => exact ⟨d, r, rfl⟩
    unfold tookF
    rw [e] at hh ⊢
    have hf := begins_form hh
    refine ⟨?_, ?_, h.rest, rfl, fun _ => ⟨rfl, rfl, ?_, ?_⟩⟩
    · show _ = heads _
      rw [heads_snoc, h.ps]
    · show _ = recsOf _
      rw [recsOf_snoc, h.recs]
    · unfold nextP9
      rw [tailP_snoc]
    · rw [tailP_snoc, pieceD_frames]
      simp only [List.tail_cons]
      show (frames (d :: r)).length = _
      conv => lhs; rw [hf]
      rfl
theorem fold_sim : ∀ (L : Dat) (f : FoundS) (g : FndR), FSim f g → FSim (foldS L f) (L.foldl (fun g x => fnd1 g x.1 x.2) g)
  | [], _, _, h => h
  | x :: r, _, _, h => fold_sim r _ _ (fnd_sim h x.1 x.2)
theorem found_sim {m : RD} {s : DS} (h : Sim m s) (hd : DOk s) (hdn : s.down = false) : FSim (scanF s) (foundR (datL m.L)) := by
  have hu : Up { s with fuse := 0 } m.L := ⟨h.a, hdn, rfl⟩
  have e : scanF s = scanL (datL m.L) := hu.scan (s := { s with fuse := 0 }) ⟨hd.room, hd.keys, hd.len, hd.each, hd.names, hd.steps, ⟨by simp, by simp⟩⟩
  rw [e, scanL_fold]
  exact fold_sim _ _ _ ⟨rfl, rfl, rfl, rfl, fun c => absurd rfl c⟩
theorem stray_sim : ∀ (N : List Nat) {m : RLog} {s : DS} {l : LogP}, SimW m s l → DOk s → s.steps + N.length < 4611686018427387904 → (strayR N m).2 = (dropAll N s).2 ∧ Sim (strayR N m).1.d (dropAll N s).1 ∧ ((dropAll N s).2 = 0 → SimW (strayR N m).1 (dropAll N s).1 l ∧ (strayR N m).1.ps = m.ps ∧ DOk (dropAll N s).1)
  | [], m, s, l, h, hd, _ => ⟨rfl, h.d, fun _ => ⟨h, rfl, hd⟩⟩
  | n :: r, m, s, l, h, hd, hst => by
    rw [List.length_cons] at hst
    have a1 := sim_drop h.d hd (walName n)
    have d1 := dropF_ok hd (walName n) (by omega)
    have s1 := dropF_steps s (walName n)
    have b1 := step_sim h a1
    have b10 := step_zero h a1
    rw [dropAll_cons]
    unfold strayR
    rw [b1.2]
    by_cases c1 : (dropF s (walName n)).2 ≠ 0
    · rw [if_pos c1, if_pos c1]
      exact ⟨b1.2, b1.1.d, fun c => absurd c c1⟩
    · rw [if_neg c1, if_neg c1]
      exact stray_sim r (b10 c1) d1 (by omega)
theorem begR_zero {m : RLog} {num first : Nat} (h : (begR m num first).2 = 0) : (begR m num first).1.ps ≠ [] := by
  unfold begR at h ⊢
  by_cases c1 : (stepR m (oApp (walName num) (headerL num first))).2 ≠ 0
  · rw [if_pos c1] at h
    exact absurd h c1
  rw [if_neg c1] at h ⊢
  generalize stepR (stepR m (oApp (walName num) (headerL num first))).1 (oSync (walName num)) = r at *
  unfold begR2 at h ⊢
  by_cases c2 : r.2 = 42
  · rw [if_pos c2] at h
    simp only [] at h
    split at h
    · rename_i c; exact absurd h c
    · omega
  · rw [if_neg c2] at h ⊢
    by_cases c3 : r.2 ≠ 0
    · rw [if_pos c3] at h
      exact absurd h c3
    · rw [if_neg c3]
      simp
/-- What Open does, side by side. -/
structure OpenSim (a : OpenD) (b : OpenR) : Prop where
  d : Sim a.1.d b.1
  e : a.2.2 = b.2.2
  ok : ∀ l recs, b.2.1 = some (l, recs) → a.2.1 = recs ∧ SimW a.1 b.1 l ∧ a.1.ps ≠ []
  none : b.2.1 = none → b.2.2 ≠ 0
theorem open_sim {m : RD} {s : DS} (h : Sim m s) (hd : DOk s) (hst : s.steps < 4611686018420000000) (hsm : ∀ k, (readF s k).1.length ≤ 4194304) (n : Int) : OpenSim (openR m n) (openF s n) := by
  unfold openR openF
  by_cases hdn : s.down = true
  · rw [if_pos hdn, if_pos (h.down.trans hdn)]
    exact ⟨h, rfl, fun l recs c => (by cases c), fun _ => by simp⟩
  have hdf : s.down = false := by simpa using hdn
  rw [if_neg hdn, if_neg (by rw [h.down]; exact hdn)]
  have hf := found_sim h hd hdf
  have hbd := (scanF_bd hd hsm).rest
  generalize scanF s = f at *
  generalize foundR (datL m.L) = g at *
  rw [← hf.rest]
  have hst2 := stray_sim f.rest.reverse (m := ⟨m, limF n, [], false⟩) (s := s) (l := freshL n) ⟨h, rfl, rfl, rfl, fun c => absurd rfl c⟩ hd (by rw [List.length_reverse]; omega)
  have hds := dropAll_steps f.rest.reverse s
  rw [List.length_reverse] at hds
  generalize strayR f.rest.reverse ⟨m, limF n, [], false⟩ = r at *
  generalize dropAll f.rest.reverse s = t at *
  obtain ⟨h1, h2, h3⟩ := hst2
  unfold openDropR openDrop
  rw [h1]
  by_cases c1 : t.2 ≠ 0
  · rw [if_pos c1, if_pos c1]
    exact ⟨h2, rfl, fun l recs c => (by cases c), fun _ => c1⟩
  rw [if_neg c1, if_neg c1]
  obtain ⟨h4, h5, d4⟩ := h3 (by omega)
  have hpe : f.pieces = [] ↔ g.ps = [] := by
    rw [hf.ps]
    unfold heads
    simp
  by_cases c2 : g.ps = []
  · rw [if_pos c2, if_pos (hpe.2 c2)]
    have hb := begin_sim h4 d4 (by omega) 1 1
    have hz := @begR_zero r.1 1 1
    generalize begR r.1 1 1 = x at *
    generalize beginF t.1 (freshL n) 1 1 = y at *
    unfold openNew
    by_cases c3 : y.2.2 ≠ 0
    · rw [if_pos c3]
      exact ⟨hb.1.d, hb.2, fun l recs c => (by cases c), fun _ => c3⟩
    · rw [if_neg c3]
      have hy : y.2.2 = 0 := by omega
      refine ⟨hb.1.d, hb.2.trans hy, fun l recs c => ?_, fun c => (by cases c)⟩
      cases c
      exact ⟨rfl, hb.1, hz (hb.2.trans hy)⟩
  · rw [if_neg c2, if_neg (fun c => c2 (hpe.1 c))]
    obtain ⟨l1, l2, l3, l4⟩ := hf.last c2
    have hw : SimW ⟨r.1.d, r.1.lim, g.ps, r.1.shut⟩ t.1 (foundL f n) := ⟨h4.d, h4.lim, hf.ps.symm, h4.shut, fun _ => ⟨l1.trans l3, l2.trans l4⟩⟩
    have hlp := hw.lastP c2
    simp only [] at hlp
    rw [hlp]
    simp only []
    rw [l2]
    generalize walName (tailP g.ps).num = k
    have a1 := sim_cut hw.d d4 k (g.good : Int)
    have d5 := cutF_ok d4 k (g.good : Int) (by omega)
    have s5 := cutF_steps t.1 k (g.good : Int)
    have b1 := step_sim hw a1
    have b10 := step_zero hw a1
    have p1 : (stepR ⟨r.1.d, r.1.lim, g.ps, r.1.shut⟩ (oCut k (g.good : Int))).1.ps = g.ps := rfl
    generalize stepR ⟨r.1.d, r.1.lim, g.ps, r.1.shut⟩ (oCut k (g.good : Int)) = x at *
    generalize cutF t.1 k (g.good : Int) = y at *
    unfold openCutR openCut
    rw [b1.2]
    by_cases c3 : y.2 ≠ 0
    · rw [if_pos c3, if_pos c3]
      exact ⟨b1.1.d, rfl, fun l recs c => (by cases c), fun _ => c3⟩
    rw [if_neg c3, if_neg c3]
    have b := b10 c3
    have a2 := sim_sync b.d d5 k
    have b2 := step_sim b a2
    have b20 := step_zero b a2
    have p2 : (stepR x.1 (oSync k)).1.ps = g.ps := p1
    generalize stepR x.1 (oSync k) = x2 at *
    generalize syncF y.1 k = y2 at *
    unfold openSyncR openSync
    rw [b2.2]
    by_cases c4 : y2.2 ≠ 0
    · rw [if_pos c4, if_pos c4]
      exact ⟨b2.1.d, rfl, fun l recs c => (by cases c), fun _ => c4⟩
    · rw [if_neg c4, if_neg c4]
      refine ⟨b2.1.d, rfl, fun l recs c => ?_, fun c => (by cases c)⟩
      cases c
      exact ⟨by show recsOf x2.1.ps = _; rw [p2, hf.recs], b20 c4, by show x2.1.ps ≠ []; rw [p2]; exact c2⟩

end Go.Proofs.YtgbgbokcohfnpaaGreat
