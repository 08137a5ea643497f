/-
  The texts WalUp, WalTwiceP, WalTwiceQ, WalTwiceR, WalSimAll in one: what the claim reaches of them.
-/
import Derived.Test.YtgbgbokcohfnpaaGreatQ12
import Derived.Test.YtgbgbokcohfnpaaGreatQ05
import Derived.Test.YtgbgbokcohfnpaaGreatQ07
/-
  A DISK THAT IS UP, as its image: what each call does to the image.
-/
namespace Go.Proofs.YtgbgbokcohfnpaaGreat
open Go.RowKit

/-- Nothing stands in the way: the power is on, no fuse. -/
structure Up (s : DS) (L : Img) : Prop where
  sim : SimA L s.areas
  down : s.down = false
  fuse : s.fuse = 0
theorem Up.names {s : DS} {L : Img} (h : Up s L) : listF s = L.map (·.1) := by
  unfold listF
  rw [h.down]
  exact h.sim.names
theorem Up.get {s : DS} {L : Img} (h : Up s L) (k : ByteArray) : alGet k s.areas = alGet k L := (h.sim.get k).symm
theorem Up.get0 {s : DS} {L : Img} (h : Up s L) (k : ByteArray) : get0 k s.areas = Proofs.YtgbgbokcohfnpaaGreat.get0 k L := (h.sim.get0 k).symm
theorem get0_mem {L : Img} (h : Srt L) {x : ByteArray × AreaP} (hx : x ∈ L) : get0 x.1 L = x.2 := by
  unfold Proofs.YtgbgbokcohfnpaaGreat.get0
  rw [alGet_of_mem h.nodup hx]
  rfl
theorem Up.step {s : DS} {L : Img} (h : Up s L) : stepF s = ({ s with steps := s.steps + 1 }, true) := by
  obtain ⟨A, r, st, f0, d⟩ := s
  have hf : f0 = 0 := h.fuse
  subst hf
  rfl
theorem Up.read {s : DS} {L : Img} (h : Up s L) (hok : DOk s) {x : ByteArray × AreaP} (hx : x ∈ L) : (readF s x.1).1 = x.2.data := by
  have hm := h.sim.perm.subset hx
  have hn := hok.names x hm
  unfold readF
  rw [bars_up h.down hn (fun _ e => by rw [h.get, alGet_of_mem h.sim.srt.nodup hx] at e; cases e), if_neg (by simp), h.get0, get0_mem h.sim.srt hx]
def datL (L : Img) : List (ByteArray × List UInt8) := L.map fun x => (x.1, x.2.data)
theorem Up.scan {s : DS} {L : Img} (h : Up s L) (hok : DOk s) : scanF s = scanL (datL L) := by
  unfold scanF datL
  rw [h.names, List.map_map]
  congr 1
  refine List.map_congr_left fun x hx => ?_
  show (x.1, (readF s x.1).1) = _
  rw [h.read hok hx]
theorem Up.drop {s : DS} {L : Img} (h : Up s L) {k : ByteArray} (hk : nameOk k = true) (hg : alGet k L ≠ none) : dropF s k = ({ s with steps := s.steps + 1, areas := alDel k s.areas }, 0) ∧ Up (dropF s k).1 (L.filter fun y => decide (y.1 ≠ k)) := by
  have e : dropF s k = ({ s with steps := s.steps + 1, areas := alDel k s.areas }, 0) := by
    unfold dropF
    rw [bars_up h.down hk (fun _ => by rw [h.get]; exact hg), if_neg (by simp), h.step, if_neg (by simp)]
  refine ⟨e, ?_⟩
  rw [e]
  exact ⟨by rw [← withoutL_filter]; exact h.sim.del k, h.down, h.fuse⟩
/-- One area takes another content. -/
def upd (k : ByteArray) (a : AreaP) (L : Img) : Img := L.map fun y => if y.1 = k then (k, a) else y
theorem filter_ne {L : Img} {k : ByteArray} (h : k ∉ L.map (·.1)) : L.filter (fun y => decide (y.1 ≠ k)) = L := by
  refine List.filter_eq_self.2 fun y hy => ?_
  simp only [decide_eq_true_eq]
  intro e
  exact h (List.mem_map.2 ⟨y, hy, e⟩)
theorem upd_none {L : Img} {k : ByteArray} (h : k ∉ L.map (·.1)) (a : AreaP) : upd k a L = L := by
  unfold upd
  refine (List.map_congr_left (g := id) fun y hy => ?_).trans (List.map_id _)
  rw [if_neg (fun e => h (List.mem_map.2 ⟨y, hy, e⟩))]
  rfl
theorem ins_there : ∀ {L : Img}, Srt L → ∀ {k : ByteArray} (a : AreaP), k ∈ L.map (·.1) → ins (k, a) L = upd k a L
  | [], _, k, a, h => by simp at h
  | x :: r, hs, k, a, h => by
    have hs2 := List.pairwise_cons.1 hs
    have hnd := List.nodup_cons.1 (show (x.1 :: r.map (·.1)).Nodup from hs.nodup)
    unfold ins upd
    rw [List.map_cons]
    rcases List.mem_cons.1 h with e | e
    · have hx : ¬ toL x.1 < toL (k, a).1 := by rw [e]; exact List.lt_irrefl _
      rw [if_neg hx, if_pos e.symm, List.filter_cons_of_neg (by simp [e])]
      rw [show (k, a).1 = x.1 from e, filter_ne hnd.1]
      have h2 := upd_none (L := r) (k := k) (by rw [e]; exact hnd.1) a
      unfold upd at h2
      rw [h2]
    · obtain ⟨y, hy, hyk⟩ := List.mem_map.1 e
      have hx : toL x.1 < toL (k, a).1 := by
        have := hs2.1 y hy
        rw [hyk] at this
        exact this
      have hne : ¬ x.1 = k := fun e2 => hnd.1 (by rw [e2]; exact e)
      rw [if_pos hx, if_neg hne, ins_there hs2.2 a e]
      rfl
theorem mem_keys {L : Img} {k : ByteArray} (h : alGet k L ≠ none) : k ∈ L.map (·.1) := by
  by_cases hk : k ∈ L.map (·.1)
  · exact hk
  · exact absurd ((alGet_none k L).2 hk) h
theorem Up.put {s : DS} {L : Img} (h : Up s L) (n : Int) (k : ByteArray) (a : AreaP) : Up (putF { s with steps := n } k a) (ins (k, a) L) :=
  ⟨by rw [← withL_ins]; exact h.sim.put k a, h.down, h.fuse⟩
theorem Up.cut {s : DS} {L : Img} (h : Up s L) {k : ByteArray} {a : AreaP} (hk : nameOk k = true) (hg : alGet k L = some a) {n : Nat} (hn : n ≤ a.data.length) : cutF s k (n : Int) = (putF { s with steps := s.steps + 1 } k (cutA a n), 0) ∧ Up (cutF s k (n : Int)).1 (upd k (cutA a n) L) := by
  have h0 : Proofs.YtgbgbokcohfnpaaGreat.get0 k s.areas = a := by unfold Proofs.YtgbgbokcohfnpaaGreat.get0; rw [h.get, hg]; rfl
  have e : cutF s k (n : Int) = (putF { s with steps := s.steps + 1 } k (cutA a n), 0) := by
    unfold cutF
    rw [bars_up h.down hk (fun _ => by rw [h.get, hg]; simp), if_neg (by simp), h0, if_neg (by omega), h.step, if_neg (by simp)]
  refine ⟨e, ?_⟩
  rw [e, ← ins_there h.sim.srt _ (mem_keys (by rw [hg]; simp))]
  exact h.put _ k _
theorem Up.sync {s : DS} {L : Img} (h : Up s L) {k : ByteArray} {a : AreaP} (hk : nameOk k = true) (hg : alGet k L = some a) : (s.room < sumL L - a.safe + a.data.length ∧ syncF s k = (s, 42)) ∨ (¬ s.room < sumL L - a.safe + a.data.length ∧ syncF s k = (putF { s with steps := s.steps + 1 } k (full a.data), 0) ∧ Up (syncF s k).1 (upd k (full a.data) L)) := by
  have h0 : Proofs.YtgbgbokcohfnpaaGreat.get0 k s.areas = a := by unfold Proofs.YtgbgbokcohfnpaaGreat.get0; rw [h.get, hg]; rfl
  have e : syncF s k = if s.room < sumL L - a.safe + a.data.length then (s, 42) else (putF { s with steps := s.steps + 1 } k (full a.data), 0) := by
    unfold syncF
    rw [bars_up h.down hk (fun _ => by rw [h.get, hg]; simp), if_neg (by simp), h0, h.step, ← h.sim.sum]
    split
    · rfl
    · rw [if_neg (by simp)]
      rfl
  by_cases hr : s.room < sumL L - a.safe + a.data.length
  · rw [if_pos hr] at e
    exact Or.inl ⟨hr, e⟩
  · rw [if_neg hr] at e
    refine Or.inr ⟨hr, e, ?_⟩
    rw [e, ← ins_there h.sim.srt _ (mem_keys (by rw [hg]; simp))]
    exact h.put _ k _
theorem Up.append {s : DS} {L : Img} (h : Up s L) {k : ByteArray} {d : List UInt8} (hk : nameOk k = true) (hg : alGet k L ≠ none ∨ L.length < 64) (hd : (Proofs.YtgbgbokcohfnpaaGreat.get0 k L).data.length + d.length ≤ 4194304) : appendF s k d = ({ putF s k ⟨(Proofs.YtgbgbokcohfnpaaGreat.get0 k L).data ++ d, (Proofs.YtgbgbokcohfnpaaGreat.get0 k L).safe⟩ with steps := s.steps + 1 }, 0) ∧ Up (appendF s k d).1 (ins (k, ⟨(Proofs.YtgbgbokcohfnpaaGreat.get0 k L).data ++ d, (Proofs.YtgbgbokcohfnpaaGreat.get0 k L).safe⟩) L) := by
  have e : appendF s k d = ({ putF s k ⟨(Proofs.YtgbgbokcohfnpaaGreat.get0 k L).data ++ d, (Proofs.YtgbgbokcohfnpaaGreat.get0 k L).safe⟩ with steps := s.steps + 1 }, 0) := by
    unfold appendF
    rw [bars_up h.down hk (fun e => by simp at e), if_neg (by simp), if_neg, h.get0, if_neg (by omega), h.step]
    · have hu : Up (putF s k ⟨(Proofs.YtgbgbokcohfnpaaGreat.get0 k L).data ++ d, (Proofs.YtgbgbokcohfnpaaGreat.get0 k L).safe⟩) (ins (k, ⟨(Proofs.YtgbgbokcohfnpaaGreat.get0 k L).data ++ d, (Proofs.YtgbgbokcohfnpaaGreat.get0 k L).safe⟩) L) := h.put s.steps k _
      rw [hu.step]
      rfl
    · rw [h.get, ← h.sim.len]
      intro c
      rcases hg with hg | hg
      · exact hg c.1
      · omega
  refine ⟨e, ?_⟩
  rw [e]
  exact ⟨(h.put (s.steps + 1) k _).sim, h.down, h.fuse⟩

end Go.Proofs.YtgbgbokcohfnpaaGreat

/-
  wal: OPENED TWICE, in plain Lean.
-/
namespace Go.Proofs.YtgbgbokcohfnpaaGreat
open Go.RowKit

abbrev Dat := List (ByteArray × List UInt8)
def strayB (f : FoundS) (k : ByteArray) (b : List UInt8) : Prop := f.whole = false ∨ (headOf (splitL b) (numberN k)).2 = false ∨ (0 < f.pieces.length ∧ (headOf (splitL b) (numberN k)).1 ≠ f.next)
instance (f : FoundS) (k : ByteArray) (b : List UInt8) : Decidable (strayB f k b) := by unfold strayB; infer_instance
def tookF (f : FoundS) (k : ByteArray) (b : List UInt8) : FoundS := ⟨f.pieces ++ [(numberN k, (headOf (splitL b) (numberN k)).1)], f.recs ++ numbered (headOf (splitL b) (numberN k)).1 (splitL b).tail, (headOf (splitL b) (numberN k)).1 + (splitL b).tail.length,
    (frames (splitL b)).length, decide ((frames (splitL b)).length = b.length), f.rest⟩
theorem scan1_eq (f : FoundS) (k : ByteArray) (b : List UInt8) : scan1 f k b = if numberN k = 0 then f else if strayB f k b then { f with whole := false, rest := f.rest ++ [numberN k] } else tookF f k b := rfl
def foldS (L : Dat) (f : FoundS) : FoundS := L.foldl (fun f x => scan1 f x.1 x.2) f
/-- Strays lie in rest, in the order in which they came. -/
def strays : FoundS → Dat → List ByteArray
  | _, [] => []
  | f, x :: r => if numberN x.1 = 0 then strays f r else if strayB f x.1 x.2 then x.1 :: strays (scan1 f x.1 x.2) r else strays (scan1 f x.1 x.2) r
end Go.Proofs.YtgbgbokcohfnpaaGreat

/-
  wal: OPENED TWICE, the plain law.
-/
namespace Go.Proofs.YtgbgbokcohfnpaaGreat
open Go.RowKit

theorem scanL_fold (L : Dat) : scanL L = foldS L found0 := rfl
end Go.Proofs.YtgbgbokcohfnpaaGreat

/-
  wal: OPENED TWICE where no piece is.
-/
namespace Go.Proofs.YtgbgbokcohfnpaaGreat
open Go.RowKit

theorem openF_steps {s : DS} (hok : DOk s) (hsm : SmallD s) (n : Int) : (openF s n).1.steps ≤ s.steps + 70 := by
  have hb := (scanF_bd hok hsm.read).rest
  unfold openF
  split
  · show s.steps ≤ _; omega
  · have h1 := dropAll_steps (scanF s).rest.reverse s
    rw [List.length_reverse] at h1
    generalize dropAll (scanF s).rest.reverse s = t at *
    unfold openDrop
    split
    · show t.1.steps ≤ _; omega
    · split
      · have h2 := beginF_steps t.1 (freshL n) 1 1
        unfold openNew
        split
        · show (beginF t.1 (freshL n) 1 1).1.steps ≤ _; omega
        · show (beginF t.1 (freshL n) 1 1).1.steps ≤ _; omega
      · have h2 := cutF_steps t.1 (walName (lastP (foundL (scanF s) n)).1) ((scanF s).good : Int)
        unfold openCut
        split
        · show (cutF t.1 (walName (lastP (foundL (scanF s) n)).1) ((scanF s).good : Int)).1.steps ≤ _; omega
        · have h3 := syncF_steps (cutF t.1 (walName (lastP (foundL (scanF s) n)).1) ((scanF s).good : Int)).1 (walName (lastP (foundL (scanF s) n)).1)
          unfold openSync
          split
          · show (syncF (cutF t.1 (walName (lastP (foundL (scanF s) n)).1) ((scanF s).good : Int)).1 (walName (lastP (foundL (scanF s) n)).1)).1.steps ≤ _; omega
          · show (syncF (cutF t.1 (walName (lastP (foundL (scanF s) n)).1) ((scanF s).good : Int)).1 (walName (lastP (foundL (scanF s) n)).1)).1.steps ≤ _; omega
end Go.Proofs.YtgbgbokcohfnpaaGreat

/-
  WalChain, WalSim, WalSimO in one text.
-/
/-
  wal: PIECES THAT FOLLOW ONE ANOTHER, in plain Lean: what is found of them.
-/
namespace Go.Proofs.YtgbgbokcohfnpaaGreat
open Go.RowKit

structure PcS where
  num : Nat
  first : Nat
  recs : List (List UInt8)
def pieceD (p : PcS) : List UInt8 := headerL p.num p.first ++ frames p.recs
def recsOf : List PcS → Recs
  | [] => []
  | p :: r => numbered p.first p.recs ++ recsOf r
def heads (ps : List PcS) : List (Nat × Nat) := ps.map fun p => (p.num, p.first)
theorem pieceD_frames (p : PcS) : pieceD p = frames ((numL p.num ++ numL p.first) :: p.recs) := by
  rw [frames_cons]
  rfl
end Go.Proofs.YtgbgbokcohfnpaaGreat

/-
  THE DOCUMENT'S log (synodref09) in plain Lean, side by side with the code's.
-/
namespace Go.Proofs.YtgbgbokcohfnpaaGreat
open Go.RowKit

structure RLog where
  d : RD
  lim : Nat
  ps : List PcS
  shut : Bool
abbrev RLE := RLog × Nat
def oCut (k : ByteArray) (n : Int) : OpD := ⟨2, k, ByteArray.empty, [], n, []⟩
def stepR (l : RLog) (o : OpD) : RLE := (⟨(doE l.d o).1, l.lim, l.ps, if (doE l.d o).2 = 2 then true else l.shut⟩, (doE l.d o).2)
def begR2 (r : RLE) (num first : Nat) : RLE :=
  if r.2 = 42 then ((stepR r.1 (oDrop (walName num))).1, if (stepR r.1 (oDrop (walName num))).2 ≠ 0 then (stepR r.1 (oDrop (walName num))).2 else 42)
  else if r.2 ≠ 0 then r else (⟨r.1.d, r.1.lim, r.1.ps ++ [⟨num, first, []⟩], r.1.shut⟩, 0)
def begR (l : RLog) (num first : Nat) : RLE :=
  if (stepR l (oApp (walName num) (headerL num first))).2 ≠ 0 then stepR l (oApp (walName num) (headerL num first)) else begR2 (stepR (stepR l (oApp (walName num) (headerL num first))).1 (oSync (walName num))) num first
def tailP (ps : List PcS) : PcS := ps.getLastD ⟨0, 0, []⟩
def nextP9 (ps : List PcS) : Nat := (tailP ps).first + (tailP ps).recs.length
/-- One record more in the last piece. -/
def moreP (ps : List PcS) (d : List UInt8) : List PcS := ps.dropLast ++ [⟨(tailP ps).num, (tailP ps).first, (tailP ps).recs ++ [d]⟩]
def tailR (l : RLog) (d : List UInt8) : RLog × Nat × Nat :=
  if (stepR l (oApp (walName (tailP l.ps).num) (frameL d))).2 ≠ 0 then ((stepR l (oApp (walName (tailP l.ps).num) (frameL d))).1, 0, (stepR l (oApp (walName (tailP l.ps).num) (frameL d))).2)
  else (⟨(stepR l (oApp (walName (tailP l.ps).num) (frameL d))).1.d, l.lim, moreP l.ps d, (stepR l (oApp (walName (tailP l.ps).num) (frameL d))).1.shut⟩, nextP9 l.ps, 0)
def rollR2 (r : RLE) (d : List UInt8) : RLog × Nat × Nat := if r.2 ≠ 0 then (r.1, 0, r.2) else tailR r.1 d
def rollR (r : RLE) (d : List UInt8) : RLog × Nat × Nat := if r.2 ≠ 0 then (r.1, 0, r.2) else rollR2 (begR r.1 ((tailP r.1.ps).num + 1) (nextP9 r.1.ps)) d
def shutR (l : RLog) : RLog := ⟨l.d, l.lim, l.ps, true⟩
def appendR (l : RLog) (d : List UInt8) : RLog × Nat × Nat :=
  if l.shut = true ∨ l.d.down = true then (shutR l, 0, 2)
  else if 8192 < d.length then (l, 0, 12)
  else if (tailP l.ps).recs ≠ [] ∧ l.lim ≤ (pieceD (tailP l.ps)).length then (if 999999 ≤ (tailP l.ps).num then (l, 0, 43) else rollR (stepR l (oSync (walName (tailP l.ps).num))) d)
  else tailR l d
def syncR (l : RLog) : RLE := if l.shut = true ∨ l.d.down = true then (shutR l, 2) else stepR l (oSync (walName (tailP l.ps).num))
def trimRL (idx : Int) : List PcS → RLog → RLE
  | [], l => (l, 0)
  | [_], l => (l, 0)
  | a :: b :: r, l => if (b.first : Int) ≤ idx then (if (stepR l (oDrop (walName a.num))).2 ≠ 0 then stepR l (oDrop (walName a.num)) else trimRL idx (b :: r) ⟨(stepR l (oDrop (walName a.num))).1.d, l.lim, b :: r, (stepR l (oDrop (walName a.num))).1.shut⟩) else (l, 0)
def trimR (l : RLog) (idx : Int) : RLE := if l.shut = true ∨ l.d.down = true then (shutR l, 2) else trimRL idx l.ps l

/-! ### What is found -/
structure FndR where
  ps : List PcS
  strays : List Nat
  whole : Bool
  next : Nat
  good : Nat
def fnd0 : FndR := ⟨[], [], true, 0, 0⟩
def strayD (g : FndR) (k : ByteArray) (b : List UInt8) : Prop := g.whole = false ∨ (headOf (splitL b) (numberN k)).2 = false ∨ (0 < g.ps.length ∧ (headOf (splitL b) (numberN k)).1 ≠ g.next)
instance (g : FndR) (k : ByteArray) (b : List UInt8) : Decidable (strayD g k b) := by unfold strayD; infer_instance
def fnd1 (g : FndR) (k : ByteArray) (b : List UInt8) : FndR :=
  if numberN k = 0 then g
  else if strayD g k b then { g with whole := false, strays := g.strays ++ [numberN k] }
  else ⟨g.ps ++ [⟨numberN k, (headOf (splitL b) (numberN k)).1, (splitL b).tail⟩], g.strays, decide ((frames (splitL b)).length = b.length), (headOf (splitL b) (numberN k)).1 + (splitL b).tail.length, (frames (splitL b)).length⟩
def foundR (L : Dat) : FndR := L.foldl (fun g x => fnd1 g x.1 x.2) fnd0
def strayR : List Nat → RLog → RLE
  | [], l => (l, 0)
  | n :: r, l => if (stepR l (oDrop (walName n))).2 ≠ 0 then stepR l (oDrop (walName n)) else strayR r (stepR l (oDrop (walName n))).1
abbrev OpenD := RLog × Recs × Nat
def openSyncR (t : RLE) : OpenD := if t.2 ≠ 0 then (t.1, [], t.2) else (t.1, recsOf t.1.ps, 0)
def openCutR (k : ByteArray) (t : RLE) : OpenD := if t.2 ≠ 0 then (t.1, [], t.2) else openSyncR (stepR t.1 (oSync k))
def openDropR (g : FndR) (r : RLE) : OpenD :=
  if r.2 ≠ 0 then (r.1, [], r.2)
  else if g.ps = [] then ((begR r.1 1 1).1, [], (begR r.1 1 1).2)
  else openCutR (walName (tailP g.ps).num) (stepR ⟨r.1.d, r.1.lim, g.ps, r.1.shut⟩ (oCut (walName (tailP g.ps).num) (g.good : Int)))
def openR (m : RD) (n : Int) : OpenD := if m.down = true then (⟨m, limF n, [], false⟩, [], 2) else openDropR (foundR (datL m.L)) (strayR (foundR (datL m.L)).strays.reverse ⟨m, limF n, [], false⟩)

/-! ### Side by side -/
structure SimW (m : RLog) (s : DS) (l : LogP) : Prop where
  d : Sim m.d s
  lim : m.lim = l.limit
  ps : heads m.ps = l.pieces
  shut : m.shut = l.shut
  last : m.ps ≠ [] → l.next = nextP9 m.ps ∧ l.size = (pieceD (tailP m.ps)).length
def W2 (a : RLE) (b : DS × LogP × Nat) : Prop := SimW a.1 b.1 b.2.1 ∧ a.2 = b.2.2
def W3 (a : RLog × Nat × Nat) (b : DS × LogP × Nat × Nat) : Prop := SimW a.1 b.1 b.2.1 ∧ a.2 = b.2.2
theorem sim_cut {m : RD} {s : DS} (h : Sim m s) (hd : DOk s) (k : ByteArray) (n : Int) : S2 (doE m (oCut k n)) (cutF s k n) := by
  have h1 := sim_do h hd (oCut k n)
  exact ⟨h1.1, congrArg Prod.snd h1.2⟩
theorem step_sim {m : RLog} {s : DS} {l : LogP} (h : SimW m s l) {o : OpD} {t : DS × Nat} (hs : S2 (doE m.d o) t) : SimW (stepR m o).1 t.1 (metF l t.2) ∧ (stepR m o).2 = t.2 := by
  obtain ⟨h1, h2⟩ := hs
  unfold stepR metF
  rw [h2]
  refine ⟨?_, rfl⟩
  by_cases c : t.2 = 2
  · rw [if_pos c, if_pos c]
    exact ⟨h1, h.lim, h.ps, rfl, h.last⟩
  · rw [if_neg c, if_neg c]
    exact ⟨h1, h.lim, h.ps, h.shut, h.last⟩
theorem step_zero {m : RLog} {s : DS} {l : LogP} (h : SimW m s l) {o : OpD} {t : DS × Nat} (hs : S2 (doE m.d o) t) (h0 : ¬ t.2 ≠ 0) : SimW (stepR m o).1 t.1 l := by
  have h1 := (step_sim h hs).1
  have h2 : t.2 = 0 := by omega
  rw [h2] at h1
  exact h1
theorem heads_snoc (ps : List PcS) (p : PcS) : heads (ps ++ [p]) = heads ps ++ [(p.num, p.first)] := by simp [heads]
theorem tailP_snoc (ps : List PcS) (p : PcS) : tailP (ps ++ [p]) = p := by simp [tailP]
theorem snoc_tail {ps : List PcS} (h : ps ≠ []) : ps = ps.dropLast ++ [tailP ps] := by
  unfold tailP
  rw [List.getLastD_eq_getLast?, List.getLast?_eq_some_getLast h]
  exact (List.dropLast_concat_getLast h).symm
theorem SimW.lastP {m : RLog} {s : DS} {l : LogP} (h : SimW m s l) (h0 : m.ps ≠ []) : Proofs.YtgbgbokcohfnpaaGreat.lastP l = ((tailP m.ps).num, (tailP m.ps).first) := by
  have h1 := h.ps
  rw [snoc_tail h0, heads_snoc] at h1
  unfold Proofs.YtgbgbokcohfnpaaGreat.lastP
  rw [← h1]
  simp
theorem begin_sim {m : RLog} {s : DS} {l : LogP} (h : SimW m s l) (hd : DOk s) (hst : s.steps < 4611686018427387900) (num first : Nat) : W2 (begR m num first) (beginF s l num first) := by
  have a1 := sim_app h.d hd (walName num) (headerL num first)
  have d1 := appendF_ok hd (walName num) (headerL num first) (by omega)
  have s1 := appendF_steps s (walName num) (headerL num first)
  have b1 := step_sim h a1
  unfold begR beginF
  rw [b1.2]
  by_cases c1 : (appendF s (walName num) (headerL num first)).2 ≠ 0
  · rw [if_pos c1, if_pos c1]
    exact b1
  rw [if_neg c1, if_neg c1]
  have b1 := step_zero h a1 c1
  generalize (stepR m (oApp (walName num) (headerL num first))).1 = m1 at *
  generalize (appendF s (walName num) (headerL num first)).1 = t1 at *
  have a2 := sim_sync b1.d d1 (walName num)
  have d2 := syncF_ok d1 (walName num) (by omega)
  have s2 := syncF_steps t1 (walName num)
  have b2 := step_sim b1 a2
  have b20 := step_zero b1 a2
  unfold begR2 beginB
  rw [b2.2]
  by_cases c2 : (syncF t1 (walName num)).2 = 42
  · rw [if_pos c2, if_pos c2]
    rw [c2] at b2
    have b2 : SimW (stepR m1 (oSync (walName num))).1 (syncF t1 (walName num)).1 l := b2.1
    have a3 := sim_drop b2.d d2 (walName num)
    have b3 := step_sim b2 a3
    have b30 := step_zero b2 a3
    rw [b3.2]
    by_cases c3 : (dropF (syncF t1 (walName num)).1 (walName num)).2 ≠ 0
    · rw [if_pos c3, if_pos c3]
      exact ⟨b3.1, rfl⟩
    · rw [if_neg c3, if_neg c3]
      exact ⟨b30 c3, rfl⟩
  · rw [if_neg c2, if_neg c2]
    by_cases c4 : (syncF t1 (walName num)).2 ≠ 0
    · rw [if_pos c4, if_pos c4]
      exact b2
    · rw [if_neg c4, if_neg c4]
      have b := b20 c4
      refine ⟨⟨b.d, b.lim, ?_, b.shut, fun _ => ?_⟩, rfl⟩
      · show heads _ = l.pieces ++ _
        rw [heads_snoc, b.ps]
      · unfold nextP9
        rw [tailP_snoc]
        refine ⟨by show first = _; simp, ?_⟩
        show (headerL num first).length = _
        unfold pieceD
        rw [frames_nil, List.append_nil]
theorem begin_ok {s : DS} (hd : DOk s) (l : LogP) (num first : Nat) (hst : s.steps < 4611686018427387900) : DOk (beginF s l num first).1 := by
  have d1 := appendF_ok hd (walName num) (headerL num first) (by omega)
  have s1 := appendF_steps s (walName num) (headerL num first)
  have d2 := syncF_ok d1 (walName num) (by omega)
  have s2 := syncF_steps (appendF s (walName num) (headerL num first)).1 (walName num)
  have d3 := dropF_ok d2 (walName num) (by omega)
  unfold beginF
  split
  · exact d1
  · unfold beginB
    split
    · split
      · exact d3
      · exact d3
    · split
      · exact d2
      · exact d2
theorem moreP_tail {ps : List PcS} (d : List UInt8) : tailP (moreP ps d) = ⟨(tailP ps).num, (tailP ps).first, (tailP ps).recs ++ [d]⟩ := by
  unfold moreP
  rw [tailP_snoc]
theorem heads_more {ps : List PcS} (h : ps ≠ []) (d : List UInt8) : heads (moreP ps d) = heads ps := by
  conv => rhs; rw [snoc_tail h]
  unfold moreP
  rw [heads_snoc, heads_snoc]
theorem tail_sim {m : RLog} {s : DS} {l : LogP} (h : SimW m s l) (h0 : m.ps ≠ []) (hd : DOk s) (d : List UInt8) : W3 (tailR m d) (appTail s l d) := by
  have hl := h.lastP h0
  have a1 := sim_app h.d hd (walName (tailP m.ps).num) (frameL d)
  have b1 := step_sim h a1
  have b10 := step_zero h a1
  obtain ⟨n1, n2⟩ := h.last h0
  unfold tailR appTail
  rw [hl, b1.2]
  by_cases c1 : (appendF s (walName (tailP m.ps).num) (frameL d)).2 ≠ 0
  · rw [if_pos c1, if_pos c1]
    exact ⟨b1.1, rfl⟩
  · rw [if_neg c1, if_neg c1]
    have b := b10 c1
    refine ⟨⟨b.d, h.lim, ?_, b.shut, fun _ => ?_⟩, by rw [n1]⟩
    · show heads (moreP m.ps d) = l.pieces
      rw [heads_more h0, h.ps]
    · show l.next + 1 = nextP9 (moreP m.ps d) ∧ l.size + (frameL d).length = (pieceD (tailP (moreP m.ps d))).length
      unfold nextP9 at n1 ⊢
      rw [moreP_tail]
      refine ⟨by rw [n1, List.length_append]; simp; omega, ?_⟩
      rw [n2]
      unfold pieceD
      rw [frames_append, frames_cons, frames_nil]
      simp
      omega
theorem begR_ps {m : RLog} (num first : Nat) (h0 : m.ps ≠ []) : (begR m num first).1.ps ≠ [] := by
  unfold begR
  split
  · exact h0
  · unfold begR2
    split
    · exact h0
    · split
      · exact h0
      · simp
theorem alive_sim {m : RLog} {s : DS} {l : LogP} (h : SimW m s l) : (m.shut = true ∨ m.d.down = true) ↔ (l.shut = true ∨ s.down = true) := by rw [h.shut, h.d.down]
theorem shut_sim {m : RLog} {s : DS} {l : LogP} (h : SimW m s l) : SimW (shutR m) s { l with shut := true } := ⟨h.d, h.lim, h.ps, rfl, h.last⟩
theorem alive_shut {s : DS} {l : LogP} (h : l.shut = true ∨ s.down = true) : aliveF s l = ({ l with shut := true }, 2) := by unfold aliveF; rw [if_pos h]
theorem alive_yes {s : DS} {l : LogP} (h : ¬ (l.shut = true ∨ s.down = true)) : aliveF s l = (l, 0) := by unfold aliveF; rw [if_neg h]
theorem append_sim {m : RLog} {s : DS} {l : LogP} (h : SimW m s l) (h0 : m.ps ≠ []) (hd : DOk s) (hst : s.steps < 4611686018427387000) (d : List UInt8) : W3 (appendR m d) (appendLF s l d) := by
  have hl := h.lastP h0
  obtain ⟨n1, n2⟩ := h.last h0
  unfold appendR appendLF
  by_cases c0 : l.shut = true ∨ s.down = true
  · rw [alive_shut c0, if_pos ((alive_sim h).2 c0), if_pos (show ({ l with shut := true }, 2).2 ≠ 0 by simp)]
    exact ⟨shut_sim h, rfl⟩
  rw [alive_yes c0, if_neg (fun c => c0 ((alive_sim h).1 c)), if_neg (show ¬ (l, 0).2 ≠ 0 by simp)]
  by_cases c1 : 8192 < d.length
  · rw [if_pos c1, if_pos c1]
    exact ⟨h, rfl⟩
  rw [if_neg c1, if_neg c1, hl]
  simp only []
  have hc : ((tailP m.ps).recs ≠ [] ∧ m.lim ≤ (pieceD (tailP m.ps)).length) ↔ (l.limit ≤ l.size ∧ (tailP m.ps).first < l.next) := by
    rw [n1, n2, h.lim]
    unfold nextP9
    rw [← List.length_pos_iff]
    omega
  by_cases c2 : l.limit ≤ l.size ∧ (tailP m.ps).first < l.next
  · rw [if_pos c2, if_pos (hc.2 c2)]
    by_cases c3 : 999999 ≤ (tailP m.ps).num
    · rw [if_pos c3, if_pos c3]
      exact ⟨h, rfl⟩
    rw [if_neg c3, if_neg c3]
    have a1 := sim_sync h.d hd (walName (tailP m.ps).num)
    have d1 := syncF_ok hd (walName (tailP m.ps).num) (by omega)
    have s1 := syncF_steps s (walName (tailP m.ps).num)
    have b1 := step_sim h a1
    have b10 := step_zero h a1
    unfold rollR rollF
    rw [b1.2]
    by_cases c4 : (syncF s (walName (tailP m.ps).num)).2 ≠ 0
    · rw [if_pos c4, if_pos c4]
      exact ⟨b1.1, rfl⟩
    rw [if_neg c4, if_neg c4]
    have b := b10 c4
    have hps : (stepR m (oSync (walName (tailP m.ps).num))).1.ps = m.ps := rfl
    rw [hps, ← n1, hl]
    simp only []
    have hq : (stepR m (oSync (walName (tailP m.ps).num))).1.ps ≠ [] := h0
    generalize (stepR m (oSync (walName (tailP m.ps).num))).1 = m1 at *
    generalize (syncF s (walName (tailP m.ps).num)).1 = t1 at *
    have b2 := begin_sim b d1 (by omega) ((tailP m.ps).num + 1) l.next
    have p2 := begR_ps (m := m1) ((tailP m.ps).num + 1) l.next hq
    have d2 := begin_ok d1 l ((tailP m.ps).num + 1) l.next (by omega)
    unfold rollR2 roll2
    rw [b2.2]
    by_cases c5 : (beginF t1 l ((tailP m.ps).num + 1) l.next).2.2 ≠ 0
    · rw [if_pos c5, if_pos c5]
      exact ⟨b2.1, rfl⟩
    · rw [if_neg c5, if_neg c5]
      exact tail_sim b2.1 p2 d2 d
  · rw [if_neg c2, if_neg (fun c => c2 (hc.1 c))]
    exact tail_sim h h0 hd d
theorem sync_sim {m : RLog} {s : DS} {l : LogP} (h : SimW m s l) (h0 : m.ps ≠ []) (hd : DOk s) : W2 (syncR m) (syncLF s l) := by
  have hl := h.lastP h0
  unfold syncR syncLF
  by_cases c0 : l.shut = true ∨ s.down = true
  · rw [alive_shut c0, if_pos ((alive_sim h).2 c0), if_pos (show ({ l with shut := true }, 2).2 ≠ 0 by simp)]
    exact ⟨shut_sim h, rfl⟩
  rw [alive_yes c0, if_neg (fun c => c0 ((alive_sim h).1 c)), if_neg (show ¬ (l, 0).2 ≠ 0 by simp), hl]
  exact step_sim h (sim_sync h.d hd _)
theorem trimL_sim (idx : Int) : ∀ (ps : List PcS) {m : RLog} {s : DS} {l : LogP}, SimW m s l → m.ps = ps → ps ≠ [] → DOk s → s.steps + ps.length < 4611686018427387904 → W2 (trimRL idx ps m) (trimLoop idx (heads ps) s l) ∧ (trimRL idx ps m).1.ps ≠ []
  | [], _, _, _, _, _, h0, _, _ => absurd rfl h0
  | [a], m, s, l, h, e, h0, _, _ => ⟨⟨h, rfl⟩, by show m.ps ≠ []; rw [e]; exact h0⟩
  | a :: b :: r, m, s, l, h, e, _, hd, hst => by
    rw [show heads (a :: b :: r) = (a.num, a.first) :: (b.num, b.first) :: heads r from rfl, trimLoop_cons]
    unfold trimRL
    by_cases c1 : (b.first : Int) ≤ idx
    case neg =>
      rw [if_neg c1, if_neg c1]
      exact ⟨⟨h, rfl⟩, by rw [e]; simp⟩
    rw [if_pos c1, if_pos c1]
    have a1 := sim_drop h.d hd (walName a.num)
    have d1 := dropF_ok hd (walName a.num) (by omega)
    have s1 := dropF_steps s (walName a.num)
    have b1 := step_sim h a1
    have b10 := step_zero h a1
    rw [b1.2]
    by_cases c2 : (dropF s (walName a.num)).2 ≠ 0
    · rw [if_pos c2, if_pos c2]
      exact ⟨b1, by show m.ps ≠ []; rw [e]; simp⟩
    rw [if_neg c2, if_neg c2]
    have bb := b10 c2
    have hl := h.last (by rw [e]; simp)
    rw [e] at hl
    simp only [List.length_cons] at hst
    refine trimL_sim idx (b :: r) (m := ⟨(stepR m (oDrop (walName a.num))).1.d, m.lim, b :: r, (stepR m (oDrop (walName a.num))).1.shut⟩) ⟨bb.d, h.lim, rfl, bb.shut, fun _ => ?_⟩ rfl (by simp) d1 (by simp only [List.length_cons]; omega)
    have e1 : tailP (a :: b :: r) = tailP (b :: r) := by simp [tailP]
    unfold nextP9 at hl ⊢
    rw [e1] at hl
    exact hl
theorem trim_sim {m : RLog} {s : DS} {l : LogP} (h : SimW m s l) (h0 : m.ps ≠ []) (hd : DOk s) (idx : Int) (hst : s.steps + m.ps.length < 4611686018427387904) : W2 (trimR m idx) (trimLF s l idx) ∧ (trimR m idx).1.ps ≠ [] := by
  unfold trimR trimLF
  by_cases c0 : l.shut = true ∨ s.down = true
  · rw [alive_shut c0, if_pos ((alive_sim h).2 c0), if_pos (show ({ l with shut := true }, 2).2 ≠ 0 by simp)]
    exact ⟨⟨shut_sim h, rfl⟩, h0⟩
  rw [alive_yes c0, if_neg (fun c => c0 ((alive_sim h).1 c)), if_neg (show ¬ (l, 0).2 ≠ 0 by simp), ← h.ps]
  exact trimL_sim idx m.ps h rfl h0 hd hst

end Go.Proofs.YtgbgbokcohfnpaaGreat

/-
  THE DOCUMENT'S Open of a log in plain Lean, side by side with the code's.
-/
namespace Go.Proofs.YtgbgbokcohfnpaaGreat
open Go.RowKit

theorem rcount_back {left : List UInt8} {bad : Nat} {most : Int} (h : (rcount left bad most).1.2 = 0) : bad = 0 ∧ left = numL (rcount left bad most).2 ++ (rcount left bad most).1.1 := by
  unfold rcount at h ⊢
  by_cases c : (max 0 most).toNat < (rnum left bad).2
  · rw [if_pos c] at h
    simp at h
  · rw [if_neg c] at h ⊢
    by_cases hb : bad = 0
    · subst hb
      exact ⟨rfl, rnum_back' left h⟩
    · exfalso
      have e : rnum left bad = ((left, bad), 0) := by
        unfold rnum
        rw [if_pos hb]
      rw [e] at h
      exact hb h
theorem rdone_zero {left : List UInt8} {bad : Nat} (h : rdone left bad = 0) : bad = 0 ∧ left = [] := by
  unfold rdone at h
  by_cases c : bad = 0 ∧ left ≠ []
  · rw [if_pos c] at h
    omega
  · rw [if_neg c] at h
    refine ⟨h, ?_⟩
    by_cases hl : left = []
    · exact hl
    · exact absurd ⟨h, hl⟩ c
/-- A piece's header has one form. -/
theorem begins_form {d : List UInt8} {num : Nat} (h : (beginsF d num).2 = true) : d = numL num ++ numL (beginsF d num).1 := by
  unfold beginsF at h ⊢
  simp only [decide_eq_true_eq] at h
  obtain ⟨h1, h2, -⟩ := h
  obtain ⟨b2, l2⟩ := rdone_zero h1
  obtain ⟨b1, e2⟩ := rcount_back b2
  obtain ⟨-, e1⟩ := rcount_back b1
  rw [l2, List.append_nil] at e2
  simp only []
  rw [← e2, ← h2]
  exact e1
theorem recsOf_snoc : ∀ (ps : List PcS) (p : PcS), recsOf (ps ++ [p]) = recsOf ps ++ numbered p.first p.recs
  | [], p => by simp [recsOf]
  | a :: r, p => by
    show numbered a.first a.recs ++ recsOf (r ++ [p]) = (numbered a.first a.recs ++ recsOf r) ++ numbered p.first p.recs
    rw [recsOf_snoc r p, List.append_assoc]
structure FSim (f : FoundS) (g : FndR) : Prop where
  ps : f.pieces = heads g.ps
  recs : f.recs = recsOf g.ps
  rest : f.rest = g.strays
  whole : f.whole = g.whole
  last : g.ps ≠ [] → f.next = g.next ∧ f.good = g.good ∧ g.next = nextP9 g.ps ∧ g.good = (pieceD (tailP g.ps)).length
theorem stray_iff {f : FoundS} {g : FndR} (h : FSim f g) (k : ByteArray) (b : List UInt8) : strayB f k b ↔ strayD g k b := by
  unfold strayB strayD
  have hl : f.pieces.length = g.ps.length := by rw [h.ps]; simp [heads]
  rw [h.whole, hl]
  by_cases h0 : 0 < g.ps.length
  · rw [(h.last (List.length_pos_iff.1 h0)).1]
  · simp [h0]
theorem fnd_sim {f : FoundS} {g : FndR} (h : FSim f g) (k : ByteArray) (b : List UInt8) : FSim (scan1 f k b) (fnd1 g k b) := by
  rw [scan1_eq]
  unfold fnd1
  by_cases h0 : numberN k = 0
  · rw [if_pos h0, if_pos h0]
    exact h
  rw [if_neg h0, if_neg h0]
  by_cases hs : strayB f k b
  · rw [if_pos hs, if_pos ((stray_iff h k b).1 hs)]
    exact ⟨h.ps, h.recs, by show _ ++ _ = _ ++ _; rw [h.rest], rfl, h.last⟩
  · rw [if_neg hs, if_neg (fun c => hs ((stray_iff h k b).2 c))]
    have hh : (headOf (splitL b) (numberN k)).2 = true := by
      cases hx : (headOf (splitL b) (numberN k)).2 with
      | true => rfl
      | false => exact absurd (Or.inr (Or.inl hx)) hs
    obtain ⟨d, r, e⟩ : ∃ d r, splitL b = d :: r := by
      cases hx : splitL b with
      | nil => rw [hx] at hh; cases hh
      | cons d r => exact ⟨d, r, rfl⟩
    unfold tookF
    rw [e] at hh ⊢
    have hf := begins_form hh
    refine ⟨?_, ?_, h.rest, rfl, fun _ => ⟨rfl, rfl, ?_, ?_⟩⟩
    · show _ = heads _
      rw [heads_snoc, h.ps]
    · show _ = recsOf _
      rw [recsOf_snoc, h.recs]
    · unfold nextP9
      rw [tailP_snoc]
    · rw [tailP_snoc, pieceD_frames]
      simp only [List.tail_cons]
      show (frames (d :: r)).length = _
      conv => lhs; rw [hf]
      rfl
theorem fold_sim : ∀ (L : Dat) (f : FoundS) (g : FndR), FSim f g → FSim (foldS L f) (L.foldl (fun g x => fnd1 g x.1 x.2) g)
  | [], _, _, h => h
  | x :: r, _, _, h => fold_sim r _ _ (fnd_sim h x.1 x.2)
theorem found_sim {m : RD} {s : DS} (h : Sim m s) (hd : DOk s) (hdn : s.down = false) : FSim (scanF s) (foundR (datL m.L)) := by
  have hu : Up { s with fuse := 0 } m.L := ⟨h.a, hdn, rfl⟩
  have e : scanF s = scanL (datL m.L) := hu.scan (s := { s with fuse := 0 }) ⟨hd.room, hd.keys, hd.len, hd.each, hd.names, hd.steps, ⟨by simp, by simp⟩⟩
  rw [e, scanL_fold]
  exact fold_sim _ _ _ ⟨rfl, rfl, rfl, rfl, fun c => absurd rfl c⟩
theorem stray_sim : ∀ (N : List Nat) {m : RLog} {s : DS} {l : LogP}, SimW m s l → DOk s → s.steps + N.length < 4611686018427387904 → (strayR N m).2 = (dropAll N s).2 ∧ Sim (strayR N m).1.d (dropAll N s).1 ∧ ((dropAll N s).2 = 0 → SimW (strayR N m).1 (dropAll N s).1 l ∧ (strayR N m).1.ps = m.ps ∧ DOk (dropAll N s).1)
  | [], m, s, l, h, hd, _ => ⟨rfl, h.d, fun _ => ⟨h, rfl, hd⟩⟩
  | n :: r, m, s, l, h, hd, hst => by
    rw [List.length_cons] at hst
    have a1 := sim_drop h.d hd (walName n)
    have d1 := dropF_ok hd (walName n) (by omega)
    have s1 := dropF_steps s (walName n)
    have b1 := step_sim h a1
    have b10 := step_zero h a1
    rw [dropAll_cons]
    unfold strayR
    rw [b1.2]
    by_cases c1 : (dropF s (walName n)).2 ≠ 0
    · rw [if_pos c1, if_pos c1]
      exact ⟨b1.2, b1.1.d, fun c => absurd c c1⟩
    · rw [if_neg c1, if_neg c1]
      exact stray_sim r (b10 c1) d1 (by omega)
theorem begR_zero {m : RLog} {num first : Nat} (h : (begR m num first).2 = 0) : (begR m num first).1.ps ≠ [] := by
  unfold begR at h ⊢
  by_cases c1 : (stepR m (oApp (walName num) (headerL num first))).2 ≠ 0
  · rw [if_pos c1] at h
    exact absurd h c1
  rw [if_neg c1] at h ⊢
  generalize stepR (stepR m (oApp (walName num) (headerL num first))).1 (oSync (walName num)) = r at *
  unfold begR2 at h ⊢
  by_cases c2 : r.2 = 42
  · rw [if_pos c2] at h
    simp only [] at h
    split at h
    · rename_i c; exact absurd h c
    · omega
  · rw [if_neg c2] at h ⊢
    by_cases c3 : r.2 ≠ 0
    · rw [if_pos c3] at h
      exact absurd h c3
    · rw [if_neg c3]
      simp
/-- What Open does, side by side. -/
structure OpenSim (a : OpenD) (b : OpenR) : Prop where
  d : Sim a.1.d b.1
  e : a.2.2 = b.2.2
  ok : ∀ l recs, b.2.1 = some (l, recs) → a.2.1 = recs ∧ SimW a.1 b.1 l ∧ a.1.ps ≠ []
  none : b.2.1 = none → b.2.2 ≠ 0
theorem open_sim {m : RD} {s : DS} (h : Sim m s) (hd : DOk s) (hst : s.steps < 4611686018420000000) (hsm : ∀ k, (readF s k).1.length ≤ 4194304) (n : Int) : OpenSim (openR m n) (openF s n) := by
  unfold openR openF
  by_cases hdn : s.down = true
  · rw [if_pos hdn, if_pos (h.down.trans hdn)]
    exact ⟨h, rfl, fun l recs c => (by cases c), fun _ => by simp⟩
  have hdf : s.down = false := by simpa using hdn
  rw [if_neg hdn, if_neg (by rw [h.down]; exact hdn)]
  have hf := found_sim h hd hdf
  have hbd := (scanF_bd hd hsm).rest
  generalize scanF s = f at *
  generalize foundR (datL m.L) = g at *
  rw [← hf.rest]
  have hst2 := stray_sim f.rest.reverse (m := ⟨m, limF n, [], false⟩) (s := s) (l := freshL n) ⟨h, rfl, rfl, rfl, fun c => absurd rfl c⟩ hd (by rw [List.length_reverse]; omega)
  have hds := dropAll_steps f.rest.reverse s
  rw [List.length_reverse] at hds
  generalize strayR f.rest.reverse ⟨m, limF n, [], false⟩ = r at *
  generalize dropAll f.rest.reverse s = t at *
  obtain ⟨h1, h2, h3⟩ := hst2
  unfold openDropR openDrop
  rw [h1]
  by_cases c1 : t.2 ≠ 0
  · rw [if_pos c1, if_pos c1]
    exact ⟨h2, rfl, fun l recs c => (by cases c), fun _ => c1⟩
  rw [if_neg c1, if_neg c1]
  obtain ⟨h4, h5, d4⟩ := h3 (by omega)
  have hpe : f.pieces = [] ↔ g.ps = [] := by
    rw [hf.ps]
    unfold heads
    simp
  by_cases c2 : g.ps = []
  · rw [if_pos c2, if_pos (hpe.2 c2)]
    have hb := begin_sim h4 d4 (by omega) 1 1
    have hz := @begR_zero r.1 1 1
    generalize begR r.1 1 1 = x at *
    generalize beginF t.1 (freshL n) 1 1 = y at *
    unfold openNew
    by_cases c3 : y.2.2 ≠ 0
    · rw [if_pos c3]
      exact ⟨hb.1.d, hb.2, fun l recs c => (by cases c), fun _ => c3⟩
    · rw [if_neg c3]
      have hy : y.2.2 = 0 := by omega
      refine ⟨hb.1.d, hb.2.trans hy, fun l recs c => ?_, fun c => (by cases c)⟩
      cases c
      exact ⟨rfl, hb.1, hz (hb.2.trans hy)⟩
  · rw [if_neg c2, if_neg (fun c => c2 (hpe.1 c))]
    obtain ⟨l1, l2, l3, l4⟩ := hf.last c2
    have hw : SimW ⟨r.1.d, r.1.lim, g.ps, r.1.shut⟩ t.1 (foundL f n) := ⟨h4.d, h4.lim, hf.ps.symm, h4.shut, fun _ => ⟨l1.trans l3, l2.trans l4⟩⟩
    have hlp := hw.lastP c2
    simp only [] at hlp
    rw [hlp]
    simp only []
    rw [l2]
    generalize walName (tailP g.ps).num = k
    have a1 := sim_cut hw.d d4 k (g.good : Int)
    have d5 := cutF_ok d4 k (g.good : Int) (by omega)
    have s5 := cutF_steps t.1 k (g.good : Int)
    have b1 := step_sim hw a1
    have b10 := step_zero hw a1
    have p1 : (stepR ⟨r.1.d, r.1.lim, g.ps, r.1.shut⟩ (oCut k (g.good : Int))).1.ps = g.ps := rfl
    generalize stepR ⟨r.1.d, r.1.lim, g.ps, r.1.shut⟩ (oCut k (g.good : Int)) = x at *
    generalize cutF t.1 k (g.good : Int) = y at *
    unfold openCutR openCut
    rw [b1.2]
    by_cases c3 : y.2 ≠ 0
    · rw [if_pos c3, if_pos c3]
      exact ⟨b1.1.d, rfl, fun l recs c => (by cases c), fun _ => c3⟩
    rw [if_neg c3, if_neg c3]
    have b := b10 c3
    have a2 := sim_sync b.d d5 k
    have b2 := step_sim b a2
    have b20 := step_zero b a2
    have p2 : (stepR x.1 (oSync k)).1.ps = g.ps := p1
    generalize stepR x.1 (oSync k) = x2 at *
    generalize syncF y.1 k = y2 at *
    unfold openSyncR openSync
    rw [b2.2]
    by_cases c4 : y2.2 ≠ 0
    · rw [if_pos c4, if_pos c4]
      exact ⟨b2.1.d, rfl, fun l recs c => (by cases c), fun _ => c4⟩
    · rw [if_neg c4, if_neg c4]
      refine ⟨b2.1.d, rfl, fun l recs c => ?_, fun c => (by cases c)⟩
      cases c
      exact ⟨by show recsOf x2.1.ps = _; rw [p2, hf.recs], b20 c4, by show x2.1.ps ≠ []; rw [p2]; exact c2⟩

end Go.Proofs.YtgbgbokcohfnpaaGreat
