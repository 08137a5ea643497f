/-
  The texts WalUp, WalTwiceP, WalTwiceQ, WalTwiceR in one: what the claim reaches of them.
-/
import Derived.Test.YtgbgbokcohfnpaaGreatP13
/-
  A DISK THAT IS UP, as its image: what each call does to the image.
-/
namespace Go.Proofs.YtgbgbokcohfnpaaGreat
open Go.RowKit

/-- Nothing stands in the way: the power is on, no fuse. -/
structure Up (s : DS) (L : Img) : Prop where
  sim : SimA L s.areas
  down : s.down = false
  fuse : s.fuse = 0
theorem Up.names {s : DS} {L : Img} (h : Up s L) : listF s = L.map (·.1) := by
  unfold listF
  rw [h.down]
  exact h.sim.names
theorem Up.image {s : DS} {L : Img} (h : Up s L) : imageF s = L := h.sim.image
theorem Up.get {s : DS} {L : Img} (h : Up s L) (k : ByteArray) : alGet k s.areas = alGet k L := (h.sim.get k).symm
theorem Up.get0 {s : DS} {L : Img} (h : Up s L) (k : ByteArray) : get0 k s.areas = Proofs.YtgbgbokcohfnpaaGreat.get0 k L := (h.sim.get0 k).symm
theorem get0_mem {L : Img} (h : Srt L) {x : ByteArray × AreaP} (hx : x ∈ L) : get0 x.1 L = x.2 := by
  unfold Proofs.YtgbgbokcohfnpaaGreat.get0
  rw [alGet_of_mem h.nodup hx]
  rfl
theorem Up.step {s : DS} {L : Img} (h : Up s L) : stepF s = ({ s with steps := s.steps + 1 }, true) := by
  obtain ⟨A, r, st, f0, d⟩ := s
  have hf : f0 = 0 := h.fuse
  subst hf
  rfl
theorem Up.read {s : DS} {L : Img} (h : Up s L) (hok : DOk s) {x : ByteArray × AreaP} (hx : x ∈ L) : (readF s x.1).1 = x.2.data := by
  have hm := h.sim.perm.subset hx
  have hn := hok.names x hm
  unfold readF
  rw [bars_up h.down hn (fun _ e => by rw [h.get, alGet_of_mem h.sim.srt.nodup hx] at e; cases e), if_neg (by simp), h.get0, get0_mem h.sim.srt hx]
def datL (L : Img) : List (ByteArray × List UInt8) := L.map fun x => (x.1, x.2.data)
theorem Up.scan {s : DS} {L : Img} (h : Up s L) (hok : DOk s) : scanF s = scanL (datL L) := by
  unfold scanF datL
  rw [h.names, List.map_map]
  congr 1
  refine List.map_congr_left fun x hx => ?_
  show (x.1, (readF s x.1).1) = _
  rw [h.read hok hx]
theorem Up.drop {s : DS} {L : Img} (h : Up s L) {k : ByteArray} (hk : nameOk k = true) (hg : alGet k L ≠ none) : dropF s k = ({ s with steps := s.steps + 1, areas := alDel k s.areas }, 0) ∧ Up (dropF s k).1 (L.filter fun y => decide (y.1 ≠ k)) := by
  have e : dropF s k = ({ s with steps := s.steps + 1, areas := alDel k s.areas }, 0) := by
    unfold dropF
    rw [bars_up h.down hk (fun _ => by rw [h.get]; exact hg), if_neg (by simp), h.step, if_neg (by simp)]
  refine ⟨e, ?_⟩
  rw [e]
  exact ⟨by rw [← withoutL_filter]; exact h.sim.del k, h.down, h.fuse⟩
/-- One area takes another content. -/
def upd (k : ByteArray) (a : AreaP) (L : Img) : Img := L.map fun y => if y.1 = k then (k, a) else y
theorem filter_ne {L : Img} {k : ByteArray} (h : k ∉ L.map (·.1)) : L.filter (fun y => decide (y.1 ≠ k)) = L := by
  refine List.filter_eq_self.2 fun y hy => ?_
  simp only [decide_eq_true_eq]
  intro e
  exact h (List.mem_map.2 ⟨y, hy, e⟩)
theorem upd_none {L : Img} {k : ByteArray} (h : k ∉ L.map (·.1)) (a : AreaP) : upd k a L = L := by
  unfold upd
  refine (List.map_congr_left (g := id) fun y hy => ?_).trans (List.map_id _)
  rw [if_neg (fun e => h (List.mem_map.2 ⟨y, hy, e⟩))]
  rfl
theorem ins_there : ∀ {L : Img}, Srt L → ∀ {k : ByteArray} (a : AreaP), k ∈ L.map (·.1) → ins (k, a) L = upd k a L
  | [], _, k, a, h => by simp at h
  | x :: r, hs, k, a, h => by
    have hs2 := List.pairwise_cons.1 hs
    have hnd := List.nodup_cons.1 (show (x.1 :: r.map (·.1)).Nodup from hs.nodup)
    unfold ins upd
    rw [List.map_cons]
    rcases List.mem_cons.1 h with e | e
    · have hx : ¬ toL x.1 < toL (k, a).1 := by rw [e]; exact List.lt_irrefl _
      rw [if_neg hx, if_pos e.symm, List.filter_cons_of_neg (by simp [e])]
      rw [show (k, a).1 = x.1 from e, filter_ne hnd.1]
      have h2 := upd_none (L := r) (k := k) (by rw [e]; exact hnd.1) a
      unfold upd at h2
      rw [h2]
    · obtain ⟨y, hy, hyk⟩ := List.mem_map.1 e
      have hx : toL x.1 < toL (k, a).1 := by
        have := hs2.1 y hy
        rw [hyk] at this
        exact this
      have hne : ¬ x.1 = k := fun e2 => hnd.1 (by rw [e2]; exact e)
      rw [if_pos hx, if_neg hne, ins_there hs2.2 a e]
      rfl
theorem mem_keys {L : Img} {k : ByteArray} (h : alGet k L ≠ none) : k ∈ L.map (·.1) := by
  by_cases hk : k ∈ L.map (·.1)
  · exact hk
  · exact absurd ((alGet_none k L).2 hk) h
theorem Up.put {s : DS} {L : Img} (h : Up s L) (n : Int) (k : ByteArray) (a : AreaP) : Up (putF { s with steps := n } k a) (ins (k, a) L) :=
  ⟨by rw [← withL_ins]; exact h.sim.put k a, h.down, h.fuse⟩
theorem Up.cut {s : DS} {L : Img} (h : Up s L) {k : ByteArray} {a : AreaP} (hk : nameOk k = true) (hg : alGet k L = some a) {n : Nat} (hn : n ≤ a.data.length) : cutF s k (n : Int) = (putF { s with steps := s.steps + 1 } k (cutA a n), 0) ∧ Up (cutF s k (n : Int)).1 (upd k (cutA a n) L) := by
  have h0 : Proofs.YtgbgbokcohfnpaaGreat.get0 k s.areas = a := by unfold Proofs.YtgbgbokcohfnpaaGreat.get0; rw [h.get, hg]; rfl
  have e : cutF s k (n : Int) = (putF { s with steps := s.steps + 1 } k (cutA a n), 0) := by
    unfold cutF
    rw [bars_up h.down hk (fun _ => by rw [h.get, hg]; simp), if_neg (by simp), h0, if_neg (by omega), h.step, if_neg (by simp)]
  refine ⟨e, ?_⟩
  rw [e, ← ins_there h.sim.srt _ (mem_keys (by rw [hg]; simp))]
  exact h.put _ k _
theorem Up.sync {s : DS} {L : Img} (h : Up s L) {k : ByteArray} {a : AreaP} (hk : nameOk k = true) (hg : alGet k L = some a) : (s.room < sumL L - a.safe + a.data.length ∧ syncF s k = (s, 42)) ∨ (¬ s.room < sumL L - a.safe + a.data.length ∧ syncF s k = (putF { s with steps := s.steps + 1 } k (full a.data), 0) ∧ Up (syncF s k).1 (upd k (full a.data) L)) := by
  have h0 : Proofs.YtgbgbokcohfnpaaGreat.get0 k s.areas = a := by unfold Proofs.YtgbgbokcohfnpaaGreat.get0; rw [h.get, hg]; rfl
  have e : syncF s k = if s.room < sumL L - a.safe + a.data.length then (s, 42) else (putF { s with steps := s.steps + 1 } k (full a.data), 0) := by
    unfold syncF
    rw [bars_up h.down hk (fun _ => by rw [h.get, hg]; simp), if_neg (by simp), h0, h.step, ← h.sim.sum]
    split
    · rfl
    · rw [if_neg (by simp)]
      rfl
  by_cases hr : s.room < sumL L - a.safe + a.data.length
  · rw [if_pos hr] at e
    exact Or.inl ⟨hr, e⟩
  · rw [if_neg hr] at e
    refine Or.inr ⟨hr, e, ?_⟩
    rw [e, ← ins_there h.sim.srt _ (mem_keys (by rw [hg]; simp))]
    exact h.put _ k _
theorem Up.append {s : DS} {L : Img} (h : Up s L) {k : ByteArray} {d : List UInt8} (hk : nameOk k = true) (hg : alGet k L ≠ none ∨ L.length < 64) (hd : (Proofs.YtgbgbokcohfnpaaGreat.get0 k L).data.length + d.length ≤ 4194304) : appendF s k d = ({ putF s k ⟨(Proofs.YtgbgbokcohfnpaaGreat.get0 k L).data ++ d, (Proofs.YtgbgbokcohfnpaaGreat.get0 k L).safe⟩ with steps := s.steps + 1 }, 0) ∧ Up (appendF s k d).1 (ins (k, ⟨(Proofs.YtgbgbokcohfnpaaGreat.get0 k L).data ++ d, (Proofs.YtgbgbokcohfnpaaGreat.get0 k L).safe⟩) L) := by
  have e : appendF s k d = ({ putF s k ⟨(Proofs.YtgbgbokcohfnpaaGreat.get0 k L).data ++ d, (Proofs.YtgbgbokcohfnpaaGreat.get0 k L).safe⟩ with steps := s.steps + 1 }, 0) := by
    unfold appendF
    rw [bars_up h.down hk (fun e => by simp at e), if_neg (by simp), if_neg, h.get0, if_neg (by omega), h.step]
    · have hu : Up (putF s k ⟨(Proofs.YtgbgbokcohfnpaaGreat.get0 k L).data ++ d, (Proofs.YtgbgbokcohfnpaaGreat.get0 k L).safe⟩) (ins (k, ⟨(Proofs.YtgbgbokcohfnpaaGreat.get0 k L).data ++ d, (Proofs.YtgbgbokcohfnpaaGreat.get0 k L).safe⟩) L) := h.put s.steps k _
      rw [hu.step]
      rfl
    · rw [h.get, ← h.sim.len]
      intro c
      rcases hg with hg | hg
      · exact hg c.1
      · omega
  refine ⟨e, ?_⟩
  rw [e]
  exact ⟨(h.put (s.steps + 1) k _).sim, h.down, h.fuse⟩

end Go.Proofs.YtgbgbokcohfnpaaGreat

/-
  wal: OPENED TWICE, in plain Lean.
-/
namespace Go.Proofs.YtgbgbokcohfnpaaGreat
open Go.RowKit

abbrev Dat := List (ByteArray × List UInt8)
def strayB (f : FoundS) (k : ByteArray) (b : List UInt8) : Prop := f.whole = false ∨ (headOf (splitL b) (numberN k)).2 = false ∨ (0 < f.pieces.length ∧ (headOf (splitL b) (numberN k)).1 ≠ f.next)
instance (f : FoundS) (k : ByteArray) (b : List UInt8) : Decidable (strayB f k b) := by unfold strayB; infer_instance
def tookF (f : FoundS) (k : ByteArray) (b : List UInt8) : FoundS := ⟨f.pieces ++ [(numberN k, (headOf (splitL b) (numberN k)).1)], f.recs ++ numbered (headOf (splitL b) (numberN k)).1 (splitL b).tail, (headOf (splitL b) (numberN k)).1 + (splitL b).tail.length,
    (frames (splitL b)).length, decide ((frames (splitL b)).length = b.length), f.rest⟩
theorem scan1_eq (f : FoundS) (k : ByteArray) (b : List UInt8) : scan1 f k b = if numberN k = 0 then f else if strayB f k b then { f with whole := false, rest := f.rest ++ [numberN k] } else tookF f k b := rfl
def foldS (L : Dat) (f : FoundS) : FoundS := L.foldl (fun f x => scan1 f x.1 x.2) f
theorem foldS_append (a b : Dat) (f : FoundS) : foldS (a ++ b) f = foldS b (foldS a f) := List.foldl_append
/-- Strays lie in rest, in the order in which they came. -/
def strays : FoundS → Dat → List ByteArray
  | _, [] => []
  | f, x :: r => if numberN x.1 = 0 then strays f r else if strayB f x.1 x.2 then x.1 :: strays (scan1 f x.1 x.2) r else strays (scan1 f x.1 x.2) r
end Go.Proofs.YtgbgbokcohfnpaaGreat

/-
  wal: OPENED TWICE, the plain law.
-/
namespace Go.Proofs.YtgbgbokcohfnpaaGreat
open Go.RowKit

theorem alGet_upd {k : ByteArray} {a b : AreaP} : ∀ {L : Img}, alGet k L = some b → alGet k (upd k a L) = some a
  | [], h => by cases h
  | x :: r, h => by
    unfold upd
    rw [List.map_cons]
    by_cases e : x.1 = k
    · rw [if_pos e, alGet_cons, if_pos rfl]
    · rw [if_neg e, alGet_cons, if_neg (fun c => e c.symm)]
      rw [alGet_cons, if_neg (fun c => e c.symm)] at h
      exact alGet_upd h
theorem upd_same {k : ByteArray} {a : AreaP} : ∀ {L : Img}, (L.map (·.1)).Nodup → alGet k L = some a → upd k a L = L
  | [], _, _ => rfl
  | x :: r, hn, h => by
    have hnd := List.nodup_cons.1 (show (x.1 :: r.map (·.1)).Nodup from hn)
    unfold upd
    rw [List.map_cons]
    rw [alGet_cons] at h
    by_cases e : k = x.1
    · rw [if_pos e] at h
      rw [if_pos e.symm]
      injection h with h
      have h2 := upd_none (L := r) (k := k) (by rw [e]; exact hnd.1) a
      unfold upd at h2
      rw [h2, ← h, e]
    · rw [if_neg e] at h
      rw [if_neg (fun c => e c.symm)]
      have h2 := upd_same hnd.2 h
      unfold upd at h2
      rw [h2]
/-- A disk on which nothing is amiss, opened. -/
theorem reopen {s : DS} {L : Img} (h : Up s L) (hok : DOk s) (n : Int) {f : FoundS} (hf : scanL (datL L) = f) (hr : f.rest = []) (hp : f.pieces ≠ []) {b : List UInt8} (hg : alGet (walName (lastP (foundL f n)).1) L = some (full b)) (hgd : f.good = b.length) (hs : sumL L ≤ s.room) : ∃ s', openF s n = (s', some (foundL f n, f.recs), 0) ∧ Up s' L ∧ s'.room = s.room := by
  have hk := nameOk_wal (lastP (foundL f n)).1
  generalize hkk : walName (lastP (foundL f n)).1 = k at *
  have hcut : cutA (full b) (f.good : Int) = full b := by
    unfold cutA full
    rw [hgd]
    simp
  obtain ⟨e1, u1⟩ := h.cut hk hg (n := f.good) (by rw [hgd]; exact Nat.le_refl _)
  rw [hcut, upd_same h.sim.srt.nodup hg] at u1
  have hr1 : (cutF s k (f.good : Int)).1.room = s.room := by rw [e1]; rfl
  rcases u1.sync hk hg with ⟨c, -⟩ | ⟨-, e2, u2⟩
  · rw [hr1] at c
    unfold full at c
    simp only [] at c
    omega
  rw [upd_same h.sim.srt.nodup (show alGet k L = some (full (full b).data) from hg)] at u2
  refine ⟨(syncF (cutF s k (f.good : Int)).1 k).1, ?_, u2, ?_⟩
  · unfold openF
    rw [if_neg (by rw [h.down]; simp), h.scan hok, hf, hr]
    unfold openDrop
    rw [List.reverse_nil, dropAll_nil, if_neg (by simp), if_neg hp, hkk]
    unfold openCut
    rw [show (cutF s k (f.good : Int)).2 = 0 by rw [e1], if_neg (by simp)]
    unfold openSync
    rw [show (syncF (cutF s k (f.good : Int)).1 k).2 = 0 by rw [e2], if_neg (by simp)]
  · rw [e2, ← hr1]
    rfl

theorem scanL_fold (L : Dat) : scanL L = foldS L found0 := rfl
end Go.Proofs.YtgbgbokcohfnpaaGreat

/-
  wal: OPENED TWICE where no piece is.
-/
namespace Go.Proofs.YtgbgbokcohfnpaaGreat
open Go.RowKit

theorem header_small (a b : Nat) : (numL a ++ numL b).length ≤ 8192 := by
  have h2 := sizeN_le a
  have h3 := sizeN_le b
  rw [List.length_append, length_numL, length_numL]
  omega
theorem openF_steps {s : DS} (hok : DOk s) (hsm : SmallD s) (n : Int) : (openF s n).1.steps ≤ s.steps + 70 := by
  have hb := (scanF_bd hok hsm.read).rest
  unfold openF
  split
  · show s.steps ≤ _; omega
  · have h1 := dropAll_steps (scanF s).rest.reverse s
    rw [List.length_reverse] at h1
    generalize dropAll (scanF s).rest.reverse s = t at *
    unfold openDrop
    split
    · show t.1.steps ≤ _; omega
    · split
      · have h2 := beginF_steps t.1 (freshL n) 1 1
        unfold openNew
        split
        · show (beginF t.1 (freshL n) 1 1).1.steps ≤ _; omega
        · show (beginF t.1 (freshL n) 1 1).1.steps ≤ _; omega
      · have h2 := cutF_steps t.1 (walName (lastP (foundL (scanF s) n)).1) ((scanF s).good : Int)
        unfold openCut
        split
        · show (cutF t.1 (walName (lastP (foundL (scanF s) n)).1) ((scanF s).good : Int)).1.steps ≤ _; omega
        · have h3 := syncF_steps (cutF t.1 (walName (lastP (foundL (scanF s) n)).1) ((scanF s).good : Int)).1 (walName (lastP (foundL (scanF s) n)).1)
          unfold openSync
          split
          · show (syncF (cutF t.1 (walName (lastP (foundL (scanF s) n)).1) ((scanF s).good : Int)).1 (walName (lastP (foundL (scanF s) n)).1)).1.steps ≤ _; omega
          · show (syncF (cutF t.1 (walName (lastP (foundL (scanF s) n)).1) ((scanF s).good : Int)).1 (walName (lastP (foundL (scanF s) n)).1)).1.steps ≤ _; omega
end Go.Proofs.YtgbgbokcohfnpaaGreat
