/-
  Do, RefPlain, ApartLaw, ReadAs in one text.
-/
import Derived.Test.YtigdhdclfdojgaaGreatDiskWhole
import Derived.Test.YtigdhdclfdojgaaGreatRead8
import Derived.Deep.MidRow
import Derived.Test.YtigdhdclfdojgaaGreatRefDo
/-
  THE WALK of the disk laws' do: one call on the program's disk.
-/
namespace Go.Proofs.YtigdhdclfdojgaaGreat
open Go.RowKit

def doF (s : DS) (o : OpD) : DS × List UInt8 × Nat :=
  if o.k = 0 then ((appendF s o.name o.b).1, [], (appendF s o.name o.b).2)
  else if o.k = 1 then ((syncF s o.name).1, [], (syncF s o.name).2)
  else if o.k = 2 then ((cutF s o.name o.n).1, [], (cutF s o.name o.n).2)
  else if o.k = 3 then ((moveF s o.name o.dest).1, [], (moveF s o.name o.dest).2)
  else if o.k = 4 then ((dropF s o.name).1, [], (dropF s o.name).2)
  else if o.k = 5 then (s, (readF s o.name).1, (readF s o.name).2)
  else if o.k = 6 then (fuseF s o.n, [], 0)
  else if o.k = 7 then (crashF s o.keep, [], 0)
  else (s, [], 0)

theorem Dk.free {col : Nat → Nat} {i p : Nat} {s : DS} {w w' : World} {F : Nat → Prop} (h : Dk col i w p s) (k : Kp F w w') (hF : ∀ j, F j → col j = 0) : Dk col i w' p s := by
  obtain ⟨⟨r, hr⟩, hi⟩ := h
  exact ⟨⟨r, hr.beside (S := fun c => c = 0) (k.mono (fun j _ c => hF j c)) (fun c a b => by unfold S3 at a; omega)⟩, hi⟩
theorem Ext.flip {B : Nat} {S : Nat → Prop} {col col' : Nat → Nat} {w w' w2 : World} {F : Nat → Prop} (h : Ext B S col w col' w') (k : Kp F w' w2) (hF : ∀ j, F j → w.heap.size ≤ j) : Ext B S col w col' w2 :=
  ⟨h.cols.keep k.size, h.old, h.fresh, h.kp.fin k (fun j c => Or.inr (hF j c))⟩

/-- What do answers. -/
structure DoTo (B : Nat) (col : Nat → Nat) (i p : Nat) (w : World) (R : DS × List UInt8 × Nat) (e : Ending) (w' : World) : Prop where
  ex : ∃ xo xc col', e = .returned (.tuple #[.slice xo R.2.1.length xc, .int .i64 (R.2.2 : Int)]) ∧ Ext B (S3 i) col w col' w' ∧ Dk col' i w' p R.1 ∧ Own (fun j => w.heap.size ≤ j ∧ col' j = 0) w' 5 1 xo R.2.1.length xc (bv R.2.1)
/-- A slice of bytes is being changed. -/
structure FlipR (F : Nat → Prop) (w0 : World) (ao : Option Addr) (n cap : Nat) (jv : Value) (w : World) : Prop where
  ex : ∃ (j : Nat) (l : List UInt8), jv = .int .i64 (j : Int) ∧ j ≤ n ∧ Own F w 5 1 ao n cap (bv l) ∧ Kp F w0 w
theorem info_intD : (Tryz.prog.info? 3).map (fun i => (i.zero, i.size, i.bytes)) = some (some (.int .i64 0), 1, 8) := by kernel_rfl
theorem ints_one (l : List Int) : ∀ u ∈ l.map (Value.int .i64), u.oneCell' = true := by intro u hu; obtain ⟨x, -, rfl⟩ := List.mem_map.1 hu; rfl
theorem Own.is {F : Nat → Prop} {w : World} {e : Nat} {ao : Option Addr} {n cap : Nat} {l : List Int} (h : Own F w e 1 ao n cap (l.map (Value.int .i64))) : IS w ao n cap l :=
  ⟨by have := h.1; simpa using this, h.2.1, h.2.2.1, h.row⟩

attribute [local irreducible] appendF syncF cutF moveF dropF readF fuseF crashF

end Go.Proofs.YtigdhdclfdojgaaGreat

/-
  THE DOCUMENT'S DISK AND THE PROGRAM'S, in plain Lean: each call answers alike.
-/
namespace Go.Proofs.YtigdhdclfdojgaaGreat
open Go.RowKit Go.Sort

theorem lt_tri {a b : ByteArray} (h : ¬ toL a < toL b) (hn : b ≠ a) : toL b < toL a := by
  have h1 : toL b ≤ toL a := List.not_lt.1 h
  rcases List.le_iff_lt_or_eq.1 h1 with h2 | h2
  · exact h2
  · exact absurd (by rw [← ofL_toL b, h2, ofL_toL]) hn
theorem less_toL (a b : ByteArray) : Op.bytesLess a.toList b.toList = decide (toL a < toL b) := by
  rw [bytesLess_eq, ByteArray.toList_eq, ByteArray.toList_eq]
  rfl
def Srt (L : Img) : Prop := L.Pairwise fun x y => toL x.1 < toL y.1
theorem Srt.nodup {L : Img} (h : Srt L) : (L.map (·.1)).Nodup := by
  refine List.pairwise_map.2 (h.imp fun {x y} hxy e => ?_)
  rw [e] at hxy
  exact List.lt_irrefl _ hxy

/-! ### With -/

def ins (a : ByteArray × AreaP) : Img → Img
  | [] => [a]
  | x :: r => if toL x.1 < toL a.1 then x :: ins a r else a :: (x :: r).filter (fun y => decide (y.1 ≠ a.1))
theorem withS_true (a : ByteArray × AreaP) : ∀ (L M : Img), L.foldl (withStep a) (M, true) = (M ++ L.filter (fun y => decide (y.1 ≠ a.1)), true)
  | [], M => by simp
  | x :: r, M => by
    rw [List.foldl_cons]
    have hs : withStep a (M, true) x = if x.1 = a.1 then (M, true) else (M ++ [x], true) := by
      unfold withStep
      simp
    rw [hs]
    by_cases h : x.1 = a.1
    · rw [if_pos h, withS_true a r M, List.filter_cons_of_neg (by simpa using h)]
    · rw [if_neg h, withS_true a r (M ++ [x]), List.filter_cons_of_pos (by simpa using h)]
      simp
theorem withS_ins (a : ByteArray × AreaP) : ∀ (L M : Img), (if (L.foldl (withStep a) (M, false)).2 = true then (L.foldl (withStep a) (M, false)).1 else (L.foldl (withStep a) (M, false)).1 ++ [a]) = M ++ ins a L
  | [], M => by simp [ins]
  | x :: r, M => by
    rw [List.foldl_cons]
    have hs : withStep a (M, false) x = if toL x.1 < toL a.1 then (M ++ [x], false) else if x.1 = a.1 then (M ++ [a], true) else (M ++ [a] ++ [x], true) := by
      unfold withStep
      simp only [less_toL]
      by_cases h : toL x.1 < toL a.1
      · have hne : ¬ x.1 = a.1 := fun e => by rw [e] at h; exact List.lt_irrefl _ h
        simp [h, hne]
      · simp [h]
    rw [hs]
    unfold ins
    by_cases h : toL x.1 < toL a.1
    · simp only [if_pos h]
      rw [withS_ins a r (M ++ [x])]
      simp
    · simp only [if_neg h]
      by_cases he : x.1 = a.1
      · simp only [if_pos he]
        rw [withS_true, List.filter_cons_of_neg (by simpa using he)]
        simp
      · simp only [if_neg he]
        rw [withS_true, List.filter_cons_of_pos (by simpa using he)]
        simp
theorem withL_ins (L : Img) (a : ByteArray × AreaP) : withL L a = ins a L := by
  have h := withS_ins a L []
  rw [List.nil_append] at h
  exact h
theorem get_filter (k k' : ByteArray) (h : k ≠ k') : ∀ (L : Img), alGet k (L.filter (fun y => decide (y.1 ≠ k'))) = alGet k L
  | [] => rfl
  | x :: r => by
    by_cases he : x.1 = k'
    · rw [List.filter_cons_of_neg (by simpa using he), get_filter k k' h r, alGet_cons, if_neg (fun e => h (by rw [e, he]))]
    · rw [List.filter_cons_of_pos (by simpa using he), alGet_cons, alGet_cons, get_filter k k' h r]
theorem get_ins (a : ByteArray × AreaP) (k : ByteArray) : ∀ (L : Img), alGet k (ins a L) = if k = a.1 then some a.2 else alGet k L
  | [] => by simp [ins, alGet_cons]
  | x :: r => by
    unfold ins
    by_cases h : toL x.1 < toL a.1
    · rw [if_pos h, alGet_cons, alGet_cons, get_ins a k r]
      by_cases h1 : k = x.1
      · have : k ≠ a.1 := fun e => by rw [← h1, e] at h; exact List.lt_irrefl _ h
        rw [if_pos h1, if_pos h1, if_neg this]
      · rw [if_neg h1, if_neg h1]
    · rw [if_neg h, alGet_cons]
      by_cases h1 : k = a.1
      · rw [if_pos h1, if_pos h1]
      · rw [if_neg h1, if_neg h1, get_filter k a.1 h1]
theorem mem_ins {a y : ByteArray × AreaP} : ∀ {L : Img}, y ∈ ins a L → y = a ∨ y ∈ L
  | [], h => by simpa [ins] using h
  | x :: r, h => by
    unfold ins at h
    split at h
    · rcases List.mem_cons.1 h with h | h
      · exact Or.inr (by rw [h]; simp)
      · rcases mem_ins h with h | h
        · exact Or.inl h
        · exact Or.inr (List.mem_cons_of_mem _ h)
    · rcases List.mem_cons.1 h with h | h
      · exact Or.inl h
      · exact Or.inr (List.mem_filter.1 h).1
theorem srt_ins (a : ByteArray × AreaP) : ∀ {L : Img}, Srt L → Srt (ins a L)
  | [], _ => by simp [ins, Srt]
  | x :: r, hs => by
    have hs2 := List.pairwise_cons.1 hs
    unfold ins
    by_cases h : toL x.1 < toL a.1
    · rw [if_pos h]
      refine List.pairwise_cons.2 ⟨fun y hy => ?_, srt_ins a hs2.2⟩
      rcases mem_ins hy with rfl | hy
      · exact h
      · exact hs2.1 y hy
    · rw [if_neg h]
      refine List.pairwise_cons.2 ⟨fun y hy => ?_, hs.filter _⟩
      have hy2 := List.mem_filter.1 hy
      have hne : y.1 ≠ a.1 := by simpa using hy2.2
      rcases List.mem_cons.1 hy2.1 with rfl | hr
      · exact lt_tri h (fun e => hne e.symm)
      · have h1 := hs2.1 y hr
        by_cases he : a.1 = x.1
        · rw [he]; exact h1
        · exact List.lt_trans (lt_tri h he) h1
theorem without_filter (k : ByteArray) : ∀ (L M : Img), L.foldl (withoutStep k) M = M ++ L.filter (fun y => decide (y.1 ≠ k))
  | [], M => by simp
  | x :: r, M => by
    rw [List.foldl_cons]
    unfold withoutStep
    by_cases h : x.1 = k
    · rw [if_pos h]
      have := without_filter k r M
      unfold withoutStep at this
      rw [this, List.filter_cons_of_neg (by simpa using h)]
    · rw [if_neg h]
      have := without_filter k r (M ++ [x])
      unfold withoutStep at this
      rw [this, List.filter_cons_of_pos (by simpa using h)]
      simp
theorem withoutL_filter (L : Img) (k : ByteArray) : withoutL L k = L.filter (fun y => decide (y.1 ≠ k)) := by
  have h := without_filter k L []
  rw [List.nil_append] at h
  exact h
theorem get_without (L : Img) (k k' : ByteArray) : alGet k (withoutL L k') = if k = k' then none else alGet k L := by
  rw [withoutL_filter]
  by_cases h : k = k'
  · rw [if_pos h, alGet_none]
    intro hm
    obtain ⟨x, hx, e⟩ := List.mem_map.1 hm
    have := (List.mem_filter.1 hx).2
    rw [e, h] at this
    simp at this
  · rw [if_neg h, get_filter k k' h]
theorem srt_without {L : Img} (h : Srt L) (k : ByteArray) : Srt (withoutL L k) := by
  rw [withoutL_filter]
  exact h.filter _

/-! ### One beside the other -/

/-- The document's areas and the program's. -/
structure SimA (L : Img) (A : Areas) : Prop where
  srt : Srt L
  nodup : (A.map (·.1)).Nodup
  get : ∀ k, alGet k L = alGet k A
theorem SimA.perm {L : Img} {A : Areas} (h : SimA L A) : L.Perm A := by
  have n1 : L.Nodup := (List.pairwise_map.1 h.srt.nodup).imp (fun {x y} hab e => hab (by rw [e]))
  have n2 : A.Nodup := (List.pairwise_map.1 h.nodup).imp (fun {x y} hab e => hab (by rw [e]))
  refine (List.perm_ext_iff_of_nodup n1 n2).2 fun x => ⟨fun hx => ?_, fun hx => ?_⟩
  · exact alGet_mem ((h.get x.1).symm.trans (alGet_of_mem h.srt.nodup hx))
  · exact alGet_mem ((h.get x.1).trans (alGet_of_mem h.nodup hx))
theorem SimA.len {L : Img} {A : Areas} (h : SimA L A) : L.length = A.length := h.perm.length_eq
theorem sumL_perm {L A : Img} (h : L.Perm A) : sumL L = sumF A := by
  induction h with
  | nil => rfl
  | cons x _ ih => simp only [sumL, sumF, ih]
  | swap x y l =>
    have e : ∀ l : Img, sumL l = sumF l := fun l => by
      induction l with
      | nil => rfl
      | cons x r ih => simp only [sumL, sumF, ih]
    simp only [sumL, sumF, e]
    omega
  | trans h1 h2 ih1 ih2 =>
    have e : ∀ l : Img, sumL l = sumF l := fun l => by
      induction l with
      | nil => rfl
      | cons x r ih => simp only [sumL, sumF, ih]
    rw [ih1, ← e, ih2]
theorem SimA.sum {L : Img} {A : Areas} (h : SimA L A) : sumL L = sumF A := sumL_perm h.perm
theorem SimA.get0 {L : Img} {A : Areas} (h : SimA L A) (k : ByteArray) : get0 k L = get0 k A := by
  unfold Go.Proofs.YtigdhdclfdojgaaGreat.get0
  rw [h.get]
theorem SimA.put {L : Img} {A : Areas} (h : SimA L A) (k : ByteArray) (a : AreaP) : SimA (withL L (k, a)) (alPut k a A) :=
  ⟨by rw [withL_ins]; exact srt_ins _ h.srt, alPut_keys k a A h.nodup, fun k' => by rw [withL_ins, get_ins, alGet_put, h.get]⟩
theorem SimA.del {L : Img} {A : Areas} (h : SimA L A) (k : ByteArray) : SimA (withoutL L k) (alDel k A) :=
  ⟨srt_without h.srt k, alDel_keys k A h.nodup, fun k' => by rw [get_without, alGet_del k k' A h.nodup, h.get]⟩
theorem SimA.nil : SimA [] [] := ⟨List.Pairwise.nil, List.nodup_nil, fun _ => rfl⟩
theorem SimA.names {L : Img} {A : Areas} (h : SimA L A) : sortN (A.map (·.1)) = L.map (·.1) := by
  rw [← sortN_perm (h.perm.map (·.1))]
  unfold sortN
  rw [List.mergeSort_of_pairwise, List.map_map]
  · have : (ofL ∘ toL) = id := funext ofL_toL
    rw [this, List.map_id]
  · rw [List.map_map]
    refine List.pairwise_map.2 (List.Pairwise.imp (fun {x y} hxy => ?_) h.srt)
    exact decide_eq_true (List.le_of_lt hxy)
theorem SimA.image {L : Img} {A : Areas} (h : SimA L A) : ((sortN (A.map (·.1))).map fun k => (k, Go.Proofs.YtigdhdclfdojgaaGreat.get0 k A)) = L := by
  rw [h.names, List.map_map]
  refine (List.map_congr_left (g := id) fun x hx => ?_).trans (List.map_id _)
  show (x.1, Go.Proofs.YtigdhdclfdojgaaGreat.get0 x.1 A) = x
  unfold Go.Proofs.YtigdhdclfdojgaaGreat.get0
  rw [← h.get, alGet_of_mem h.srt.nodup hx]
  rfl

structure Sim (m : RD) (s : DS) : Prop where
  a : SimA m.L s.areas
  room : m.room = s.room
  steps : m.steps = s.steps
  fuse : m.fuse = s.fuse
  down : m.down = s.down
theorem Sim.rok {m : RD} {s : DS} (h : Sim m s) (hd : DOk s) : ROk m := by
  refine ⟨by rw [h.room]; exact hd.room, by rw [h.a.len]; exact hd.len, fun x hx => hd.each x (h.a.perm.subset hx), by rw [h.steps]; exact hd.steps, by rw [h.fuse]; exact hd.fuse⟩

/-! ### crash -/

theorem get_set : ∀ (L : Img) (i : Nat) (h : i < L.length) (v : AreaP), (L.map (·.1)).Nodup → ∀ k, alGet k (L.set i (L[i].1, v)) = if k = L[i].1 then some v else alGet k L
  | x :: r, 0, _, v, _, k => by
    simp only [List.set_cons_zero, List.getElem_cons_zero]
    rw [alGet_cons, alGet_cons]
    by_cases h : k = x.1
    · simp [h]
    · simp [h]
  | x :: r, i + 1, h, v, hn, k => by
    have hn2 := List.nodup_cons.1 (show (x.1 :: r.map (·.1)).Nodup from hn)
    have hi : i < r.length := by simpa using h
    simp only [List.set_cons_succ, List.getElem_cons_succ]
    rw [alGet_cons, alGet_cons, get_set r i hi v hn2.2 k]
    by_cases h1 : k = x.1
    · have : k ≠ r[i].1 := fun e => hn2.1 (by rw [← h1, e]; exact List.mem_map.2 ⟨_, List.getElem_mem hi, rfl⟩)
      rw [if_pos h1, if_pos h1, if_neg this]
    · rw [if_neg h1, if_neg h1]
  | [], _, h, _, _, _ => by simp at h
theorem set_fst (L : Img) (i : Nat) (h : i < L.length) (v : AreaP) : (L.set i (L[i].1, v)).map (·.1) = L.map (·.1) := by
  rw [List.map_set]
  have : L[i].1 = (L.map (·.1))[i]'(by simpa using h) := by simp
  rw [this, List.set_getElem_self]
theorem Srt.of_fst {L M : Img} (h : Srt L) (e : M.map (·.1) = L.map (·.1)) : Srt M := by
  have h1 : (L.map (·.1)).Pairwise fun x y => toL x < toL y := List.pairwise_map.2 h
  rw [← e] at h1
  exact (List.pairwise_map (f := fun x : ByteArray × AreaP => x.1) (R := fun x y => toL x < toL y)).1 h1
theorem sim_crash {m : RD} {s : DS} (h : Sim m s) (hd : DOk s) (keep : List Int) : ∀ j, j ≤ m.L.length → SimA (crUp m.room keep m.L j) (crashUp (namesF s) keep s j).areas ∧ (crUp m.room keep m.L j).map (·.1) = m.L.map (·.1)
  | 0, _ => ⟨h.a, rfl⟩
  | j + 1, hj => by
    obtain ⟨ih1, ih2⟩ := sim_crash h hd keep j (by omega)
    have hlen := crUp_len m.room keep m.L j
    have hjl : j < (crUp m.room keep m.L j).length := by omega
    have hns : namesF s = m.L.map (·.1) := h.a.names
    have hnj : (namesF s)[j]?.getD ByteArray.empty = (crUp m.room keep m.L j)[j].1 := by
      rw [hns, ← ih2, List.getElem?_map, List.getElem?_eq_getElem hjl]
      rfl
    have hroom := (crashUp_room (namesF s) keep s j).1
    have hg : Go.Proofs.YtigdhdclfdojgaaGreat.get0 (crUp m.room keep m.L j)[j].1 (crashUp (namesF s) keep s j).areas = (crUp m.room keep m.L j)[j].2 := by
      unfold Go.Proofs.YtigdhdclfdojgaaGreat.get0
      rw [← ih1.get, alGet_of_mem (k := (crUp m.room keep m.L j)[j].1) (v := (crUp m.room keep m.L j)[j].2) ih1.srt.nodup (List.getElem_mem hjl)]
      rfl
    have hsum := ih1.sum
    rw [crUp_succ m.room keep m.L j hjl]
    show SimA _ (crash1 (crashUp (namesF s) keep s j) ((namesF s)[j]?.getD ByteArray.empty) keep[j]?).areas ∧ _
    rw [hnj]
    unfold crash1
    rw [hg]
    have hc : crashA (crashUp (namesF s) keep s j) (crUp m.room keep m.L j)[j].2 keep[j]? = keepA (sumL (crUp m.room keep m.L j)) m.room (crUp m.room keep m.L j)[j].2 keep[j]? := by
      unfold crashA keepA
      rw [hsum, hroom, ← h.room]
    rw [hc]
    refine ⟨⟨?_, ?_, fun k => ?_⟩, ?_⟩
    · exact ih1.srt.of_fst (set_fst _ j hjl _)
    · exact alPut_keys _ _ _ ih1.nodup
    · show alGet k ((crUp m.room keep m.L j).set j ((crUp m.room keep m.L j)[j].1, _)) = alGet k (alPut _ _ _)
      rw [get_set _ j hjl _ ih1.srt.nodup k, alGet_put, ih1.get]
    · exact (set_fst _ j hjl _).trans ih2
theorem sim_crashF {m : RD} {s : DS} (h : Sim m s) (hd : DOk s) (keep : List Int) : Sim (crashR m keep) (crashF s keep) := by
  have h1 := (sim_crash h hd keep m.L.length (Nat.le_refl _)).1
  have hns : (namesF s).length = m.L.length := by
    have : namesF s = m.L.map (·.1) := h.a.names
    rw [this, List.length_map]
  have hr := crashUp_room (namesF s) keep s m.L.length
  unfold crashF
  rw [hns]
  exact ⟨h1, h.room.trans hr.1.symm, h.steps.trans hr.2.symm, rfl, rfl⟩

/-! ### each call -/

def whyS (s : DS) (o : OpD) : Nat :=
  if s.down = true then 2
  else if nameOk o.name = false then 40
  else if 0 < o.k ∧ alGet o.name s.areas = none then 41
  else if o.k = 0 then (if alGet o.name s.areas = none ∧ 64 ≤ s.areas.length then 43 else if 4194304 < ((get0 o.name s.areas).data.length : Int) + o.b.length then 12 else 0)
  else if o.k = 1 then (if s.room < sumF s.areas - (get0 o.name s.areas).safe + (get0 o.name s.areas).data.length then 42 else 0)
  else if o.k = 2 then (if o.n < 0 ∨ ((get0 o.name s.areas).data.length : Int) < o.n then 1 else 0)
  else if o.k = 3 then (if nameOk o.dest = false then 40 else 0)
  else 0
theorem why_sim {m : RD} {s : DS} (h : Sim m s) (o : OpD) : whyR m o = whyS s o := by
  unfold whyR whyS
  rw [h.down, h.a.get, h.a.get0, h.a.sum, h.a.len, h.room]
theorem append_why (s : DS) (o : OpD) (hk : o.k = 0) : appendF s o.name o.b = if whyS s o ≠ 0 then (s, whyS s o) else ((stepF (putF s o.name ⟨(get0 o.name s.areas).data ++ o.b, (get0 o.name s.areas).safe⟩)).1, doneN (stepF s).2) := by
  have e : (4194304 - ((get0 o.name s.areas).data.length : Int) < o.b.length) ↔ (4194304 < ((get0 o.name s.areas).data.length : Int) + o.b.length) := by omega
  unfold appendF whyS barsF
  rw [hk]
  by_cases h1 : s.down = true
  · simp [h1]
  · by_cases h2 : nameOk o.name = false
    · simp [h1, h2]
    · by_cases h3 : alGet o.name s.areas = none ∧ 64 ≤ s.areas.length
      · simp [h1, h2, h3]
      · by_cases h4 : 4194304 < ((get0 o.name s.areas).data.length : Int) + o.b.length
        · simp only [if_neg h1, if_neg h2, if_neg h3, if_pos h4, if_pos (e.2 h4)]
          simp
        · simp only [if_neg h1, if_neg h2, if_neg h3, if_neg h4, if_neg (fun c => h4 (e.1 c))]
          simp
theorem bars_why (s : DS) (o : OpD) (_hk : 0 < o.k) (E : Nat) (hE : whyS s o = if s.down = true then 2 else if nameOk o.name = false then 40 else if alGet o.name s.areas = none then 41 else E) :
    whyS s o = if barsF s o.name true ≠ 0 then barsF s o.name true else E := by
  rw [hE]
  unfold barsF
  by_cases h1 : s.down = true
  · simp [h1]
  · by_cases h2 : nameOk o.name = false
    · simp [h1, h2]
    · by_cases h3 : alGet o.name s.areas = none
      · simp [h1, h2, h3]
      · simp [h1, h2, h3]
theorem sync_why (s : DS) (o : OpD) (hk : o.k = 1) : syncF s o.name = if whyS s o ≠ 0 then (s, whyS s o) else if (stepF s).2 = false then ((stepF s).1, 2) else (putF (stepF s).1 o.name ⟨(get0 o.name s.areas).data, (get0 o.name s.areas).data.length⟩, 0) := by
  have h := bars_why s o (by omega) (if s.room < sumF s.areas - (get0 o.name s.areas).safe + (get0 o.name s.areas).data.length then 42 else 0) (by unfold whyS; rw [hk]; simp)
  rw [h]
  unfold syncF
  by_cases hb : barsF s o.name true ≠ 0
  · simp only [if_pos hb]
  · simp only [if_neg hb]
    by_cases h4 : s.room < sumF s.areas - (get0 o.name s.areas).safe + (get0 o.name s.areas).data.length
    · simp [h4]
    · simp [h4]
theorem cut_why (s : DS) (o : OpD) (hk : o.k = 2) : cutF s o.name o.n = if whyS s o ≠ 0 then (s, whyS s o) else if (stepF s).2 = false then ((stepF s).1, 2) else (putF (stepF s).1 o.name (cutA (get0 o.name s.areas) o.n), 0) := by
  have h := bars_why s o (by omega) (if o.n < 0 ∨ ((get0 o.name s.areas).data.length : Int) < o.n then 1 else 0) (by unfold whyS; rw [hk]; simp)
  rw [h]
  unfold cutF
  by_cases hb : barsF s o.name true ≠ 0
  · simp only [if_pos hb]
  · simp only [if_neg hb]
    by_cases h4 : o.n < 0 ∨ ((get0 o.name s.areas).data.length : Int) < o.n
    · simp [h4]
    · simp [h4]
theorem move_why (s : DS) (o : OpD) (hk : o.k = 3) : moveF s o.name o.dest = if whyS s o ≠ 0 then (s, whyS s o) else if (stepF s).2 = false then ((stepF s).1, 2) else ({ (stepF s).1 with areas := alPut o.dest (get0 o.name s.areas) (alDel o.name s.areas) }, 0) := by
  have h := bars_why s o (by omega) (if nameOk o.dest = false then 40 else 0) (by unfold whyS; rw [hk]; simp)
  rw [h]
  unfold moveF
  by_cases hb : barsF s o.name true ≠ 0
  · simp only [if_pos hb]
  · simp only [if_neg hb]
    by_cases h4 : nameOk o.dest = false
    · simp [h4]
    · simp [h4]
theorem drop_why (s : DS) (o : OpD) (hk : o.k = 4) : dropF s o.name = if whyS s o ≠ 0 then (s, whyS s o) else if (stepF s).2 = false then ((stepF s).1, 2) else ({ (stepF s).1 with areas := alDel o.name s.areas }, 0) := by
  have h := bars_why s o (by omega) 0 (by unfold whyS; rw [hk]; simp)
  rw [h]
  unfold dropF
  by_cases hb : barsF s o.name true ≠ 0
  · simp only [if_pos hb]
  · simp only [if_neg hb]
    simp
theorem read_why (s : DS) (o : OpD) (hk : o.k = 5) : readF s o.name = if whyS s o ≠ 0 then ([], whyS s o) else ((get0 o.name s.areas).data, 0) := by
  have h := bars_why s o (by omega) 0 (by unfold whyS; rw [hk]; simp)
  rw [h]
  unfold readF
  by_cases hb : barsF s o.name true ≠ 0
  · simp only [if_pos hb]
  · simp only [if_neg hb]
    simp
theorem sim_do {m : RD} {s : DS} (h : Sim m s) (hd : DOk s) (o : OpD) : Sim (doR m o).1 (doF s o).1 ∧ (doR m o).2 = (doF s o).2 := by
  have hw := why_sim h o
  by_cases k6 : o.k = 6
  · unfold doR doF
    simp only [k6, if_true, Int.reduceEq, if_false]
    exact ⟨⟨h.a, h.room, h.steps, rfl, h.down⟩, trivial⟩
  by_cases k7 : o.k = 7
  · unfold doR doF
    simp only [k7, if_true, Int.reduceEq, if_false]
    exact ⟨sim_crashF h hd o.keep, trivial⟩
  by_cases k8 : o.k < 0 ∨ 7 < o.k
  · unfold doR doF
    rw [if_neg k6, if_neg k7, if_pos k8, if_neg (by omega), if_neg (by omega), if_neg (by omega), if_neg (by omega), if_neg (by omega), if_neg (by omega), if_neg k6, if_neg k7]
    exact ⟨h, rfl⟩
  have hstep : ∀ L', SimA L' s.areas → s.fuse = 1 → Sim ⟨L', m.room, m.steps, 0, true⟩ (stepF s).1 ∧ (stepF s).2 = false := fun L' hL hf => by
    unfold stepF
    rw [if_pos hf]
    exact ⟨⟨hL, h.room, h.steps, rfl, rfl⟩, rfl⟩
  have hstep2 : ∀ s' L', s'.areas = s'.areas ∧ SimA L' s'.areas ∧ s'.room = s.room ∧ s'.steps = s.steps ∧ s'.fuse = s.fuse ∧ s'.down = s.down → s.fuse ≠ 1 → Sim ⟨L', m.room, m.steps + 1, max 0 (m.fuse - 1), m.down⟩ (stepF s').1 := fun s' L' hh hf => by
    obtain ⟨-, h1, h2, h3, h4, h5⟩ := hh
    unfold stepF
    rw [if_neg (by rw [h4]; exact hf)]
    exact ⟨h1, h.room.trans h2.symm, by show m.steps + 1 = s'.steps + 1; rw [h.steps, h3], by show max 0 (m.fuse - 1) = max 0 (s'.fuse - 1); rw [h.fuse, h4], h.down.trans h5.symm⟩
  have hno : s.fuse ≠ 1 → (stepF s).2 = true := fun hf => by unfold stepF; rw [if_neg hf]
  by_cases hz : whyS s o ≠ 0
  · have h1 : doR m o = (m, [], whyS s o) := by
      unfold doR
      rw [if_neg k6, if_neg k7, if_neg k8, hw, if_pos hz]
    rw [h1]
    unfold doF
    rcases (show o.k = 0 ∨ o.k = 1 ∨ o.k = 2 ∨ o.k = 3 ∨ o.k = 4 ∨ o.k = 5 by omega) with k | k | k | k | k | k
    · rw [if_pos k, append_why s o k, if_pos hz]; exact ⟨h, rfl⟩
    · rw [if_neg (by omega), if_pos k, sync_why s o k, if_pos hz]; exact ⟨h, rfl⟩
    · rw [if_neg (by omega), if_neg (by omega), if_pos k, cut_why s o k, if_pos hz]; exact ⟨h, rfl⟩
    · rw [if_neg (by omega), if_neg (by omega), if_neg (by omega), if_pos k, move_why s o k, if_pos hz]; exact ⟨h, rfl⟩
    · rw [if_neg (by omega), if_neg (by omega), if_neg (by omega), if_neg (by omega), if_pos k, drop_why s o k, if_pos hz]; exact ⟨h, rfl⟩
    · rw [if_neg (by omega), if_neg (by omega), if_neg (by omega), if_neg (by omega), if_neg (by omega), if_pos k, read_why s o k, if_pos hz]; exact ⟨h, rfl⟩
  · by_cases k5 : o.k = 5
    · have h1 : doR m o = (m, (get0 o.name m.L).data, 0) := by
        unfold doR
        rw [if_neg k6, if_neg k7, if_neg k8, hw, if_neg hz, if_pos k5]
      rw [h1]
      unfold doF
      rw [if_neg (by omega), if_neg (by omega), if_neg (by omega), if_neg (by omega), if_neg (by omega), if_pos k5, read_why s o k5, if_neg hz, h.a.get0]
      exact ⟨h, rfl⟩
    · by_cases hf : s.fuse = 1
      · have h1 : doR m o = ({ m with L := (if o.k = 0 then changeL m.L o else m.L), fuse := 0, down := true }, [], 2) := by
          unfold doR
          rw [if_neg k6, if_neg k7, if_neg k8, hw, if_neg hz, if_neg k5, h.fuse, if_pos hf]
        rw [h1]
        unfold doF
        have hs2 := (hstep m.L h.a hf).2
        rcases (show o.k = 0 ∨ o.k = 1 ∨ o.k = 2 ∨ o.k = 3 ∨ o.k = 4 by omega) with k | k | k | k | k
        · rw [if_pos k, append_why s o k, if_neg hz]
          simp only [if_pos k, hs2]
          refine ⟨?_, rfl⟩
          unfold stepF putF
          rw [if_pos hf]
          unfold changeL
          rw [if_pos k, h.a.get0]
          exact ⟨h.a.put _ _, h.room, h.steps, rfl, rfl⟩
        · rw [show (if o.k = 0 then changeL m.L o else m.L) = m.L from if_neg (by omega), if_neg (by omega), if_pos k, sync_why s o k, if_neg hz, if_pos hs2]
          exact ⟨(hstep m.L h.a hf).1, rfl⟩
        · rw [show (if o.k = 0 then changeL m.L o else m.L) = m.L from if_neg (by omega), if_neg (by omega), if_neg (by omega), if_pos k, cut_why s o k, if_neg hz, if_pos hs2]
          exact ⟨(hstep m.L h.a hf).1, rfl⟩
        · rw [show (if o.k = 0 then changeL m.L o else m.L) = m.L from if_neg (by omega), if_neg (by omega), if_neg (by omega), if_neg (by omega), if_pos k, move_why s o k, if_neg hz, if_pos hs2]
          exact ⟨(hstep m.L h.a hf).1, rfl⟩
        · rw [show (if o.k = 0 then changeL m.L o else m.L) = m.L from if_neg (by omega), if_neg (by omega), if_neg (by omega), if_neg (by omega), if_neg (by omega), if_pos k, drop_why s o k, if_neg hz, if_pos hs2]
          exact ⟨(hstep m.L h.a hf).1, rfl⟩
      · have h1 : doR m o = ({ m with L := changeL m.L o, steps := m.steps + 1, fuse := max 0 (m.fuse - 1) }, [], 0) := by
          unfold doR
          rw [if_neg k6, if_neg k7, if_neg k8, hw, if_neg hz, if_neg k5, h.fuse, if_neg hf]
        rw [h1]
        unfold doF
        have hs2 := hno hf
        have hs3 : ¬ (stepF s).2 = false := by rw [hs2]; simp
        have hst : (stepF s).1 = { s with fuse := max 0 (s.fuse - 1), steps := s.steps + 1 } := by unfold stepF; rw [if_neg hf]
        have hfin : ∀ L' A', SimA L' A' → Sim ⟨L', m.room, m.steps + 1, max 0 (m.fuse - 1), m.down⟩ { (stepF s).1 with areas := A' } := fun L' A' hL => by
          rw [hst]
          exact ⟨hL, h.room, by show m.steps + 1 = s.steps + 1; rw [h.steps], by show max 0 (m.fuse - 1) = max 0 (s.fuse - 1); rw [h.fuse], h.down⟩
        have hsa : (stepF s).1.areas = s.areas := by rw [hst]
        rcases (show o.k = 0 ∨ o.k = 1 ∨ o.k = 2 ∨ o.k = 3 ∨ o.k = 4 by omega) with k | k | k | k | k
        · rw [if_pos k, append_why s o k, if_neg hz, hs2]
          refine ⟨?_, rfl⟩
          simp only []
          unfold changeL
          rw [if_pos k, h.a.get0]
          exact hstep2 _ _ ⟨rfl, h.a.put _ _, rfl, rfl, rfl, rfl⟩ hf
        · rw [if_neg (by omega), if_pos k, sync_why s o k, if_neg hz, if_neg hs3]
          refine ⟨?_, rfl⟩
          simp only []
          unfold changeL putF
          rw [if_neg (by omega), if_pos k, h.a.get0, hsa]
          exact hfin _ _ (h.a.put _ _)
        · rw [if_neg (by omega), if_neg (by omega), if_pos k, cut_why s o k, if_neg hz, if_neg hs3]
          refine ⟨?_, rfl⟩
          simp only []
          unfold changeL putF
          rw [if_neg (by omega), if_neg (by omega), if_pos k, h.a.get0, hsa]
          exact hfin _ _ (h.a.put _ _)
        · rw [if_neg (by omega), if_neg (by omega), if_neg (by omega), if_pos k, move_why s o k, if_neg hz, if_neg hs3]
          refine ⟨?_, rfl⟩
          simp only []
          unfold changeL
          rw [if_neg (by omega), if_neg (by omega), if_neg (by omega), if_pos k, h.a.get0]
          exact hfin _ _ ((h.a.del _).put _ _)
        · rw [if_neg (by omega), if_neg (by omega), if_neg (by omega), if_neg (by omega), if_pos k, drop_why s o k, if_neg hz, if_neg hs3]
          refine ⟨?_, rfl⟩
          simp only []
          unfold changeL
          rw [if_neg (by omega), if_neg (by omega), if_neg (by omega), if_neg (by omega)]
          exact hfin _ _ (h.a.del _)

/-! ### Mount -/

theorem mountRE_sim {L : Img} {s : DS} (h : SimA L s.areas) (x : ByteArray × AreaP) : mountRE L x = mountE s x := by
  unfold mountRE mountE
  rw [h.get]
theorem mountL_room : ∀ (As : Img) (s : DS), (mountL As s).1.room = s.room ∧ (mountL As s).1.steps = s.steps ∧ (mountL As s).1.fuse = s.fuse ∧ (mountL As s).1.down = s.down
  | [], s => ⟨rfl, rfl, rfl, rfl⟩
  | x :: r, s => by
    unfold mountL
    split
    · exact ⟨rfl, rfl, rfl, rfl⟩
    · exact mountL_room r (putF s x.1 x.2)
theorem mountL_sim : ∀ (As L : Img) (s : DS), SimA L s.areas → SimA (mountRL As L).1 (mountL As s).1.areas ∧ (mountRL As L).2 = (mountL As s).2
  | [], L, s, h => ⟨h, rfl⟩
  | x :: r, L, s, h => by
    unfold mountRL mountL
    rw [mountRE_sim h]
    split
    · exact ⟨h, rfl⟩
    · exact mountL_sim r _ _ (h.put x.1 x.2)
theorem mount_sim (room : Int) (As : Img) : (mountR room As).2 = (mountF room As).2 ∧ Sim (mountR room As).1 (mountF room As).1 := by
  have h0 : SimA ([] : Img) (newF room).areas := SimA.nil
  obtain ⟨h1, h2⟩ := mountL_sim As [] (newF room) h0
  obtain ⟨r1, r2, r3, r4⟩ := mountL_room As (newF room)
  have hS : Sim { newR room with L := (mountRL As []).1 } (mountL As (newF room)).1 := ⟨h1, r1.symm, r2.symm, r3.symm, r4.symm⟩
  unfold mountR mountF
  by_cases c1 : 64 < As.length
  · rw [if_pos c1, if_pos c1]
    exact ⟨rfl, ⟨SimA.nil, rfl, rfl, rfl, rfl⟩⟩
  · rw [if_neg c1, if_neg c1, h2]
    by_cases c2 : (mountL As (newF room)).2 ≠ 0
    · rw [if_pos c2, if_pos c2]
      exact ⟨rfl, hS⟩
    · rw [if_neg c2, if_neg c2, h1.sum, r1]
      have e : (newR room).room = (newF room).room := rfl
      rw [e]
      by_cases c3 : (newF room).room < sumF (mountL As (newF room)).1.areas
      · rw [if_pos c3, if_pos c3]
        exact ⟨rfl, hS⟩
      · rw [if_neg c3, if_neg c3]
        have c4 : (mountL As (newF room)).2 = 0 := Classical.byContradiction c2
        exact ⟨c4.symm, hS⟩

end Go.Proofs.YtigdhdclfdojgaaGreat

/-
  DiskApart: what is done to one area changes no other one.
-/
namespace Go.Proofs.YtigdhdclfdojgaaGreat
open Go.RowKit

/-! ### The plain law -/

def nO : ByteArray := { data := #[111, 119, 110] }
theorem nO_ok : nameOk nO = true := by decide +kernel
def cutS (a : AreaP) : AreaP := ⟨a.data.take a.safe.toNat, a.safe⟩
theorem crash1_none (t : DS) (n : ByteArray) : crash1 t n none = putF t n (cutS (get0 n t.areas)) := by
  have h : crashA t (get0 n t.areas) none = (get0 n t.areas).safe := by unfold crashA keepN; simp only []; omega
  unfold crash1 cutS
  rw [h]
theorem crashUp_get (s : DS) (ns : List ByteArray) (hnd : ns.Nodup) (hk : ∀ k ∈ ns, k ∈ s.areas.map (·.1)) : ∀ j, j ≤ ns.length → ∀ k, (k ∈ ns.take j → alGet k (crashUp ns [] s j).areas = (alGet k s.areas).map cutS) ∧ (k ∉ ns.take j → alGet k (crashUp ns [] s j).areas = alGet k s.areas)
  | 0, _, k => ⟨fun c => by simp at c, fun _ => rfl⟩
  | j + 1, hj, k => by
    have hj' : j < ns.length := by omega
    have ih := crashUp_get s ns hnd hk j (by omega)
    have hn : ns[j] ∉ ns.take j := fun c => by
      have h1 : ns = ns.take j ++ ns[j] :: ns.drop (j + 1) := by rw [← List.drop_eq_getElem_cons hj', List.take_append_drop]
      have h2 := hnd
      rw [h1, List.nodup_append] at h2
      exact h2.2.2 _ c _ (List.mem_cons_self ..) rfl
    have e1 : crashUp ns [] s (j + 1) = putF (crashUp ns [] s j) ns[j] (cutS (get0 ns[j] (crashUp ns [] s j).areas)) := by
      show crash1 _ (ns[j]?.getD ByteArray.empty) ([] : List Int)[j]? = _
      rw [List.getElem?_eq_getElem hj', List.getElem?_nil]
      exact crash1_none _ _
    rw [e1, List.take_succ_eq_append_getElem hj']
    show (_ → alGet k (alPut ns[j] _ (crashUp ns [] s j).areas) = _) ∧ (_ → alGet k (alPut ns[j] _ (crashUp ns [] s j).areas) = _)
    rw [alGet_put]
    have hg : alGet ns[j] (crashUp ns [] s j).areas = alGet ns[j] s.areas := (ih _).2 hn
    by_cases c : k = ns[j]
    · rw [if_pos c]
      refine ⟨fun _ => ?_, fun d => absurd (by rw [c]; exact List.mem_append.2 (Or.inr (List.mem_singleton.2 rfl))) d⟩
      unfold get0
      rw [hg, c]
      cases ha : alGet ns[j] s.areas with
      | none => exact absurd ha (get_ne (hk _ (List.getElem_mem hj')))
      | some a => rfl
    · rw [if_neg c]
      exact ⟨fun d => (ih k).1 ((List.mem_append.1 d).elim id (fun e => absurd (List.mem_singleton.1 e) c)), fun d => (ih k).2 (fun e => d (List.mem_append.2 (Or.inl e)))⟩
theorem names_nodup {s : DS} (h : DOk s) : (namesF s).Nodup := (sortN_of _).nodup_iff.2 h.keys
theorem crashF_get {s : DS} (h : DOk s) (k : ByteArray) : alGet k (crashF s []).areas = (alGet k s.areas).map cutS := by
  have h1 := crashUp_get s (namesF s) (names_nodup h) namesF_mem (namesF s).length (Nat.le_refl _) k
  show alGet k (crashUp (namesF s) [] s (namesF s).length).areas = _
  rw [List.take_length] at h1
  by_cases c : k ∈ namesF s
  · exact h1.1 c
  · rw [h1.2 c]
    have : alGet k s.areas = none := (alGet_none k s.areas).2 (fun d => c ((sortN_of _).mem_iff.2 d))
    rw [this]; rfl
theorem crash_read {s : DS} (h : DOk s) {a : List UInt8} (ha : alGet nO s.areas = some ⟨a, a.length⟩) : readF (crashF s []) nO = (a, 0) := by
  have hg := crashF_get h nO
  rw [ha] at hg
  have hd : (crashF s []).down = false := rfl
  unfold readF barsF get0
  rw [hd, nO_ok, hg]
  simp [cutS]
theorem crash_image {s : DS} (h : DOk s) : ∀ x ∈ imageF (crashF s []), x.2.safe = x.2.data.length := by
  intro x hx
  unfold imageF at hx
  obtain ⟨k, hk, rfl⟩ := List.mem_map.1 hx
  have hm := namesF_mem k hk
  have hne := get_ne hm
  have hg := crashF_get h k
  show (get0 k _).safe = ((get0 k _).data.length : Int)
  unfold get0
  cases ha : alGet k s.areas with
  | none => rw [ha] at hg; exact absurd hg hne
  | some a0 =>
    rw [ha] at hg
    rw [hg]
    have := h.each _ (alGet_mem ha)
    show a0.safe = ((a0.data.take a0.safe.toNat).length : Int)
    simp only [] at this
    rw [List.length_take]
    omega
theorem stepF_le (s : DS) : (stepF s).1.steps ≤ s.steps + 1 := by unfold stepF; split <;> simp <;> omega
theorem crashF_steps (s : DS) (keep : List Int) : (crashF s keep).steps = s.steps := (crashUp_room _ keep s _).2
theorem doF_steps (s : DS) (o : OpD) : (doF s o).1.steps ≤ s.steps + 1 := by
  have h1 := stepF_le s
  have h2 : ∀ k a, (stepF (putF s k a)).1.steps ≤ s.steps + 1 := fun k a => stepF_le (putF s k a)
  unfold doF
  repeat' split
  · unfold appendF; repeat' split
    all_goals first | exact h2 _ _ | (simp only []; omega)
  · unfold syncF; repeat' split
    all_goals first | exact h1 | (simp only []; omega)
  · unfold cutF; repeat' split
    all_goals first | exact h1 | (simp only []; omega)
  · unfold moveF; repeat' split
    all_goals first | exact h1 | (simp only []; omega)
  · unfold dropF; repeat' split
    all_goals first | exact h1 | (simp only []; omega)
  · simp only []; omega
  · unfold fuseF; simp only []; omega
  · rw [crashF_steps]; omega
  · simp only []; omega
theorem doF_apart {s : DS} (h : DOk s) {o : OpD} {A : AreaP} (hA : alGet nO s.areas = some A) (hn : o.name ≠ nO) (ht : o.dest ≠ nO) (h7 : o.k ≠ 7) : alGet nO (doF s o).1.areas = some A := by
  have hp : ∀ a, alGet nO (alPut o.name a s.areas) = some A := fun a => by rw [alGet_put, if_neg (fun c => hn c.symm)]; exact hA
  have hd : alGet nO (alDel o.name s.areas) = some A := by rw [alGet_del _ _ _ h.keys, if_neg (fun c => hn c.symm)]; exact hA
  have hs : alGet nO (stepF s).1.areas = some A := by rw [stepF_areas]; exact hA
  unfold doF
  repeat' split
  · unfold appendF; repeat' split
    all_goals first | exact hA | (rw [stepF_put]; show alGet nO (alPut _ _ (stepF s).1.areas) = _; rw [stepF_areas]; exact hp _)
  · unfold syncF; repeat' split
    all_goals first | exact hA | exact hs | (show alGet nO (alPut _ _ (stepF s).1.areas) = _; rw [stepF_areas]; exact hp _)
  · unfold cutF; repeat' split
    all_goals first | exact hA | exact hs | (show alGet nO (alPut _ _ (stepF s).1.areas) = _; rw [stepF_areas]; exact hp _)
  · unfold moveF; repeat' split
    all_goals first | exact hA | exact hs | (show alGet nO (alPut _ _ (alDel _ s.areas)) = _; rw [alGet_put, if_neg (fun c => ht c.symm)]; exact hd)
  · unfold dropF; repeat' split
    all_goals first | exact hA | exact hs | exact hd
  · exact hA
  · exact hA
  · exact hA

theorem apart_start (a : List UInt8) (ha : a.length ≤ 65536) :
    (appendF (newF 4194304) nO a).2 = 0 ∧ (appendF (newF 4194304) nO a).1.steps ≤ 1 ∧ (syncF (appendF (newF 4194304) nO a).1 nO).2 = 0 ∧ alGet nO (syncF (appendF (newF 4194304) nO a).1 nO).1.areas = some ⟨a, a.length⟩ ∧ (syncF (appendF (newF 4194304) nO a).1 nO).1.steps ≤ 2 := by
  have e1 : appendF (newF 4194304) nO a = ({ areas := [(nO, ⟨a, 0⟩)], room := 4194304, steps := 1, fuse := 0, down := false }, 0) := by
    have hb : barsF (newF 4194304) nO false = 0 := by decide +kernel
    unfold appendF
    rw [if_neg (by rw [hb]; simp), if_neg (by rintro ⟨-, c⟩; simp [newF] at c)]
    have hg : get0 nO (newF 4194304).areas = ⟨[], 0⟩ := rfl
    rw [hg, if_neg (by simp; omega)]
    have hst : (stepF (newF 4194304)).2 = true := by decide +kernel
    rw [hst]
    refine Prod.ext ?_ rfl
    unfold stepF putF newF
    simp [alPut]
    decide
  have e2 : syncF ({ areas := [(nO, ⟨a, 0⟩)], room := 4194304, steps := 1, fuse := 0, down := false } : DS) nO = ({ areas := [(nO, ⟨a, a.length⟩)], room := 4194304, steps := 2, fuse := 0, down := false }, 0) := by
    have hg : get0 nO [(nO, (⟨a, 0⟩ : AreaP))] = ⟨a, 0⟩ := by unfold get0; rw [alGet_cons, if_pos rfl]; rfl
    have hb : barsF ({ areas := [(nO, ⟨a, 0⟩)], room := 4194304, steps := 1, fuse := 0, down := false } : DS) nO true = 0 := by
      unfold barsF
      rw [nO_ok, alGet_cons, if_pos rfl]
      simp
    unfold syncF
    rw [if_neg (by rw [hb]; simp)]
    simp only [hg]
    rw [if_neg (by simp [sumF]; omega), if_neg (by simp [stepF])]
    refine Prod.ext ?_ rfl
    simp [stepF, putF, alPut]
    decide
  have e3 : syncF (appendF (newF 4194304) nO a).1 nO = ({ areas := [(nO, ⟨a, a.length⟩)], room := 4194304, steps := 2, fuse := 0, down := false }, 0) := by rw [e1]; exact e2
  rw [e3, e1]
  exact ⟨rfl, by simp, rfl, by rw [alGet_cons, if_pos rfl], by simp⟩

/-! ### The walk -/

theorem OpOk.mono {o : OpD} {M N : Nat} (h : OpOk o M) (hm : M ≤ N) : OpOk o N := ⟨h.k, h.name, h.dest, h.n, by have := h.b; omega, by have := h.keep; omega⟩
/-- Between two steps. -/
structure ApR (W : World) (p n : Nat) (a : List UInt8) (v : Value) (wr : World) : Prop where
  ex : ∃ (i : Nat) (col : Nat → Nat) (s : DS), v = .int .i64 (i : Int) ∧ i ≤ n ∧ i ≤ 60 ∧ Ext W.heap.size (fun c => c ≠ 0) (fun _ => 0) W col wr ∧ Dk col 0 wr p s ∧ alGet nO s.areas = some ⟨a, a.length⟩ ∧ s.steps ≤ i + 2

attribute [local irreducible] appendF syncF newF crashF readF imageF doF

end Go.Proofs.YtigdhdclfdojgaaGreat

/-
  HOW A LIST OF AREAS READS, with its bulk.
-/
namespace Go.Proofs.YtigdhdclfdojgaaGreat
open Go.ChangeShapes Go.WideShapes Go.ChangeAt Go.RowKit Go.Deep

theorem trod_struct3 {H : Type} {enc : TypeId × Value → H} {P : Program} {w : World} {base : Nat} {spare : Nat → Bool} {held : Bool} {t : TypeId} {f0 f1 f2 : Field} {fuel : Nat} {cs : List Value} {x : DataW H × List MemPlace} (ht : P.underlying t = some (.struct #[f0, f1, f2])) (h : DataW.trod enc P w base spare held fuel t cs = some x) :
    ∃ y0 y1 y2 n, x = (.agg [y0.1, y1.1, y2.1], y0.2 ++ (y1.2 ++ y2.2)) ∧ cs.length = P.cellsOf t ∧ DataW.trod enc P w base spare held n f0.type ((cs.drop f0.offset).take (P.cellsOf f0.type)) = some y0 ∧
      DataW.trod enc P w base spare held n f1.type ((cs.drop f1.offset).take (P.cellsOf f1.type)) = some y1 ∧ DataW.trod enc P w base spare held n f2.type ((cs.drop f2.offset).take (P.cellsOf f2.type)) = some y2 := by
  obtain ⟨xs, n, _, rfl, hl, hlen, hf⟩ := DataW.trod_struct ht h
  match xs, hlen with
  | [y0, y1, y2], _ => exact ⟨y0, y1, y2, n, by simp, hl, by simpa using hf 0 f0 rfl, by simpa using hf 1 f1 rfl, by simpa using hf 2 f2 rfl⟩
theorem cells_area : Tryz.prog.cellsOf 67 = 3 := by kernel_rfl

set_option maxHeartbeats 1000000 in
set_option maxRecDepth 100000 in
theorem read_as {H : Type} {enc : TypeId × Value → H} {W : World} {held : Bool} {fuel : Nat} {v : Value} {x : DataW H × List MemPlace}
    (h : DataW.trod enc Tryz.prog W 0 (fun _ => true) held fuel 22 [v] = some x) :
    ∃ ao n cap L, v = .slice ao n cap ∧ AS W ao n cap L ∧ n + 1 ≤ Rows.uptoBulk x.1 ∧ ∀ y ∈ L, y.1.size ≤ maxLen ∧ y.2.data.length + 1 ≤ Rows.uptoBulk x.1 := by
  rcases open_slice Tryz.underlying22 h with ⟨hcs, rfl⟩ | ⟨a, len, cap, m, n, D, Pl, hcs, _, hl, hm, hmm, rfl, hx⟩
  · simp at hcs
    subst hcs
    exact ⟨none, 0, 0, [], rfl, ⟨rfl, Nat.le_refl _, by simp [maxLen], fun i h => by simp at h⟩, by simp [Rows.uptoBulk], fun y hy => by simp at hy⟩
  · simp at hcs
    subst hcs
    simp only [if_true] at hmm
    rw [hmm] at hx
    clear hmm
    have each : ∀ i, i < len → ∃ y : ByteArray × AreaP, (y.1.size ≤ maxLen ∧ y.2.data.length + 1 ≤ Rows.uptoBulk (D i)) ∧ W.cell? ((a.add (i * 3)).add 0) = some (.string y.1) ∧ W.cell? ((a.add (i * 3)).add 2) = some (.int .i64 y.2.safe) ∧
        (∃ bo bm bc, W.cell? ((a.add (i * 3)).add 1) = some (.slice bo bm bc) ∧ BS W bo bm bc y.2.data) := by
      intro i hi
      obtain ⟨cs, hc, ht⟩ := hx i (by omega)
      rw [cells_area] at hc
      obtain ⟨-, hcl, hcg⟩ := World.cells?_some hc
      obtain ⟨y0, y1, y2, n', hD, -, hy0, hy1, hy2⟩ := trod_struct3 Tryz.underlying67 ht
      have hD1 : D i = .agg [y0.1, y1.1, y2.1] := congrArg Prod.fst hD
      match cs, hcl with
      | [u0, u1, u2], _ =>
        rw [cells_strg] at hy0
        rw [cells_bytes] at hy1
        rw [cells_int] at hy2
        obtain ⟨s0, e0, -, w0⟩ := DataW.trod_string Tryz.underlying9 hy0
        obtain ⟨k2, e2, -, w2⟩ := DataW.trod_int Tryz.underlying3 hy2
        simp at e0 e2
        subst e0 e2
        have hy1' : DataW.trod enc Tryz.prog W 0 (fun _ => true) held n' 42 [u1] = some y1 := by simpa using hy1
        obtain ⟨bo, bm, bc, l, rfl, hb, hd⟩ := read_bytes hy1'
        have hbb : l.length + 1 ≤ Rows.uptoBulk y1.1 := by
          have h1 := hb.len
          have h2 := hb.le
          rcases hd with ⟨hd, h0⟩ | ⟨elems, sp, hd, hs⟩
          · have := one_le y1.1; omega
          · rw [hd]; have := slice_le elems sp; omega
        refine ⟨(s0, ⟨l, k2⟩), ⟨w0, ?_⟩, hcg 0 (by omega), hcg 2 (by omega), ⟨bo, bm, bc, hcg 1 (by omega), hb⟩⟩
        show l.length + 1 ≤ _
        rw [hD1]
        simp only [Rows.uptoBulk, Rows.uptoBulkAll]
        omega
    obtain ⟨f, hf⟩ : ∃ f : Nat → ByteArray × AreaP, ∀ i, i < len → ((f i).1.size ≤ maxLen ∧ (f i).2.data.length + 1 ≤ Rows.uptoBulk (D i)) ∧ W.cell? ((a.add (i * 3)).add 0) = some (.string (f i).1) ∧ W.cell? ((a.add (i * 3)).add 2) = some (.int .i64 (f i).2.safe) ∧
        (∃ bo bm bc, W.cell? ((a.add (i * 3)).add 1) = some (.slice bo bm bc) ∧ BS W bo bm bc (f i).2.data) :=
      ⟨fun i => if hi : i < len then Classical.choose (each i hi) else (ByteArray.empty, ⟨[], 0⟩), fun i hi => by simp only [dif_pos hi]; exact Classical.choose_spec (each i hi)⟩
    refine ⟨some a, len, cap, (List.range len).map f, rfl, ⟨by simp, hl, hm, fun i hi => ?_⟩, ?_, fun y hy => ?_⟩
    · have hi' : i < len := by simpa using hi
      obtain ⟨f1, f2, f3, ⟨bo, bm, bc, f6, f7⟩⟩ := hf i hi'
      have hsp := (hf 0 (by omega)).2.1
      rw [Nat.zero_mul, add_zero, add_zero] at hsp
      have hsp := cell_spot hsp
      obtain ⟨b, off, sp⟩ := a
      simp at hsp
      subst hsp
      simp only [List.getElem_map, List.getElem_range]
      rw [Addr.add_lit, Addr.add_lit] at f2 f3 f6
      exact ⟨b, off, bo, bm, bc, rfl, World.block_lt_of_cell? W _ f2, f2, f6, f3, f7⟩
    · simp only [Rows.uptoBulk]
      have := length_le ((List.range len).map D)
      rw [List.length_map, List.length_range] at this
      omega
    · obtain ⟨i, hi, rfl⟩ := List.mem_map.1 hy
      have hi' : i < len := by simpa using hi
      obtain ⟨f1, -⟩ := hf i hi'
      have hbu : Rows.uptoBulk (D i) ≤ Rows.uptoBulkAll ((List.range len).map D) := bulk_mem (List.mem_map_of_mem (f := D) (List.mem_range.2 hi'))
      refine ⟨f1.1, ?_⟩
      have := f1.2
      simp only [Rows.uptoBulk]
      omega

set_option maxRecDepth 100000 in
theorem arg_as {H : Type} {enc : TypeId × Value → H} {W : World} {base : Nat} {v : Value} {d : DataW H} {p : List MemPlace}
    (h : DataW.Trod enc Tryz.prog W 0 (fun _ => true) true 22 v d p) (hv : Value.okWide Tryz.prog W .any base 22 v) :
    ∃ ao n cap L, v = .slice ao n cap ∧ AS W ao n cap L ∧ n + 1 ≤ Rows.uptoBulk d ∧ ∀ y ∈ L, y.1.size ≤ maxLen ∧ y.2.data.length + 1 ≤ Rows.uptoBulk d := by
  obtain ⟨a0, len, cap, rfl⟩ := okWide_slice Tryz.underlying22 hv
  obtain ⟨fuel, hf⟩ := h
  exact read_as (x := (d, p)) hf

end Go.Proofs.YtigdhdclfdojgaaGreat

