/-
  The texts RefDiskC in one: what the claim reaches of them.
-/
import Derived.Test.YtgbgbokcohfnpaaGreatP03
import Derived.Test.YtgbgbokcohfnpaaGreatP02
import Derived.Deep.MidRow
import Derived.Test.YtgbgbokcohfnpaaGreatP04
/-
  Do, RefPlain, ApartLaw, ReadAs in one text.
-/
/-
  THE WALK of the disk laws' do: one call on the program's disk.
-/
namespace Go.Proofs.YtgbgbokcohfnpaaGreat
open Go.RowKit

def doF (s : DS) (o : OpD) : DS × List UInt8 × Nat :=
  if o.k = 0 then ((appendF s o.name o.b).1, [], (appendF s o.name o.b).2)
  else if o.k = 1 then ((syncF s o.name).1, [], (syncF s o.name).2)
  else if o.k = 2 then ((cutF s o.name o.n).1, [], (cutF s o.name o.n).2)
  else if o.k = 3 then ((moveF s o.name o.dest).1, [], (moveF s o.name o.dest).2)
  else if o.k = 4 then ((dropF s o.name).1, [], (dropF s o.name).2)
  else if o.k = 5 then (s, (readF s o.name).1, (readF s o.name).2)
  else if o.k = 6 then (fuseF s o.n, [], 0)
  else if o.k = 7 then (crashF s o.keep, [], 0)
  else (s, [], 0)

theorem Dk.free {col : Nat → Nat} {i p : Nat} {s : DS} {w w' : World} {F : Nat → Prop} (h : Dk col i w p s) (k : Kp F w w') (hF : ∀ j, F j → col j = 0) : Dk col i w' p s := by
  obtain ⟨⟨r, hr⟩, hi⟩ := h
  exact ⟨⟨r, hr.beside (S := fun c => c = 0) (k.mono (fun j _ c => hF j c)) (fun c a b => by unfold S3 at a; omega)⟩, hi⟩
theorem info_intD : (Tryz.prog.info? 3).map (fun i => (i.zero, i.size, i.bytes)) = some (some (.int .i64 0), 1, 8) := by kernel_rfl
theorem Own.is {F : Nat → Prop} {w : World} {e : Nat} {ao : Option Addr} {n cap : Nat} {l : List Int} (h : Own F w e 1 ao n cap (l.map (Value.int .i64))) : IS w ao n cap l :=
  ⟨by have := h.1; simpa using this, h.2.1, h.2.2.1, h.row⟩

attribute [local irreducible] appendF syncF cutF moveF dropF readF fuseF crashF
end Go.Proofs.YtgbgbokcohfnpaaGreat

/-
  THE DOCUMENT'S DISK AND THE PROGRAM'S, in plain Lean: each call answers alike.
-/
namespace Go.Proofs.YtgbgbokcohfnpaaGreat
open Go.RowKit Go.Sort

theorem lt_tri {a b : ByteArray} (h : ¬ toL a < toL b) (hn : b ≠ a) : toL b < toL a := by
  have h1 : toL b ≤ toL a := List.not_lt.1 h
  rcases List.le_iff_lt_or_eq.1 h1 with h2 | h2
  · exact h2
  · exact absurd (by rw [← ofL_toL b, h2, ofL_toL]) hn
theorem less_toL (a b : ByteArray) : Op.bytesLess a.toList b.toList = decide (toL a < toL b) := by
  rw [bytesLess_eq, ByteArray.toList_eq, ByteArray.toList_eq]
  rfl
def Srt (L : Img) : Prop := L.Pairwise fun x y => toL x.1 < toL y.1
theorem Srt.nodup {L : Img} (h : Srt L) : (L.map (·.1)).Nodup := by
  refine List.pairwise_map.2 (h.imp fun {x y} hxy e => ?_)
  rw [e] at hxy
  exact List.lt_irrefl _ hxy

/-! ### With -/

def ins (a : ByteArray × AreaP) : Img → Img
  | [] => [a]
  | x :: r => if toL x.1 < toL a.1 then x :: ins a r else a :: (x :: r).filter (fun y => decide (y.1 ≠ a.1))
theorem withS_true (a : ByteArray × AreaP) : ∀ (L M : Img), L.foldl (withStep a) (M, true) = (M ++ L.filter (fun y => decide (y.1 ≠ a.1)), true)
  | [], M => by simp
  | x :: r, M => by
    rw [List.foldl_cons]
    have hs : withStep a (M, true) x = if x.1 = a.1 then (M, true) else (M ++ [x], true) := by
      unfold withStep
      simp
    rw [hs]
    by_cases h : x.1 = a.1
    · rw [if_pos h, withS_true a r M, List.filter_cons_of_neg (by simpa using h)]
    · rw [if_neg h, withS_true a r (M ++ [x]), List.filter_cons_of_pos (by simpa using h)]
      simp
theorem withS_ins (a : ByteArray × AreaP) : ∀ (L M : Img), (if (L.foldl (withStep a) (M, false)).2 = true then (L.foldl (withStep a) (M, false)).1 else (L.foldl (withStep a) (M, false)).1 ++ [a]) = M ++ ins a L
  | [], M => by simp [ins]
  | x :: r, M => by
    rw [List.foldl_cons]
    have hs : withStep a (M, false) x = if toL x.1 < toL a.1 then (M ++ [x], false) else if x.1 = a.1 then (M ++ [a], true) else (M ++ [a] ++ [x], true) := by
      unfold withStep
      simp only [less_toL]
      by_cases h : toL x.1 < toL a.1
      · have hne : ¬ x.1 = a.1 := fun e => by rw [e] at h; exact List.lt_irrefl _ h
        simp [h, hne]
      · simp [h]
    rw [hs]
    unfold ins
    by_cases h : toL x.1 < toL a.1
    · simp only [if_pos h]
      rw [withS_ins a r (M ++ [x])]
      simp
    · simp only [if_neg h]
      by_cases he : x.1 = a.1
      · simp only [if_pos he]
        rw [withS_true, List.filter_cons_of_neg (by simpa using he)]
        simp
      · simp only [if_neg he]
        rw [withS_true, List.filter_cons_of_pos (by simpa using he)]
        simp
theorem withL_ins (L : Img) (a : ByteArray × AreaP) : withL L a = ins a L := by
  have h := withS_ins a L []
  rw [List.nil_append] at h
  exact h
theorem get_filter (k k' : ByteArray) (h : k ≠ k') : ∀ (L : Img), alGet k (L.filter (fun y => decide (y.1 ≠ k'))) = alGet k L
  | [] => rfl
  | x :: r => by
    by_cases he : x.1 = k'
    · rw [List.filter_cons_of_neg (by simpa using he), get_filter k k' h r, alGet_cons, if_neg (fun e => h (by rw [e, he]))]
    · rw [List.filter_cons_of_pos (by simpa using he), alGet_cons, alGet_cons, get_filter k k' h r]
theorem get_ins (a : ByteArray × AreaP) (k : ByteArray) : ∀ (L : Img), alGet k (ins a L) = if k = a.1 then some a.2 else alGet k L
  | [] => by simp [ins, alGet_cons]
  | x :: r => by
    unfold ins
    by_cases h : toL x.1 < toL a.1
    · rw [if_pos h, alGet_cons, alGet_cons, get_ins a k r]
      by_cases h1 : k = x.1
      · have : k ≠ a.1 := fun e => by rw [← h1, e] at h; exact List.lt_irrefl _ h
        rw [if_pos h1, if_pos h1, if_neg this]
      · rw [if_neg h1, if_neg h1]
    · rw [if_neg h, alGet_cons]
      by_cases h1 : k = a.1
      · rw [if_pos h1, if_pos h1]
      · rw [if_neg h1, if_neg h1, get_filter k a.1 h1]
theorem mem_ins {a y : ByteArray × AreaP} : ∀ {L : Img}, y ∈ ins a L → y = a ∨ y ∈ L
  | [], h => by simpa [ins] using h
  | x :: r, h => by
    unfold ins at h
    split at h
    · rcases List.mem_cons.1 h with h | h
      · exact Or.inr (by rw [h]; simp)
      · rcases mem_ins h with h | h
        · exact Or.inl h
        · exact Or.inr (List.mem_cons_of_mem _ h)
    · rcases List.mem_cons.1 h with h | h
      · exact Or.inl h
      · exact Or.inr (List.mem_filter.1 h).1
theorem srt_ins (a : ByteArray × AreaP) : ∀ {L : Img}, Srt L → Srt (ins a L)
  | [], _ => by simp [ins, Srt]
  | x :: r, hs => by
    have hs2 := List.pairwise_cons.1 hs
    unfold ins
    by_cases h : toL x.1 < toL a.1
    · rw [if_pos h]
      refine List.pairwise_cons.2 ⟨fun y hy => ?_, srt_ins a hs2.2⟩
      rcases mem_ins hy with rfl | hy
      · exact h
      · exact hs2.1 y hy
    · rw [if_neg h]
      refine List.pairwise_cons.2 ⟨fun y hy => ?_, hs.filter _⟩
      have hy2 := List.mem_filter.1 hy
      have hne : y.1 ≠ a.1 := by simpa using hy2.2
      rcases List.mem_cons.1 hy2.1 with rfl | hr
      · exact lt_tri h (fun e => hne e.symm)
      · have h1 := hs2.1 y hr
        by_cases he : a.1 = x.1
        · rw [he]; exact h1
        · exact List.lt_trans (lt_tri h he) h1
theorem without_filter (k : ByteArray) : ∀ (L M : Img), L.foldl (withoutStep k) M = M ++ L.filter (fun y => decide (y.1 ≠ k))
  | [], M => by simp
  | x :: r, M => by
    rw [List.foldl_cons]
    unfold withoutStep
    by_cases h : x.1 = k
    · rw [if_pos h]
      have := without_filter k r M
      unfold withoutStep at this
      rw [this, List.filter_cons_of_neg (by simpa using h)]
    · rw [if_neg h]
      have := without_filter k r (M ++ [x])
      unfold withoutStep at this
      rw [this, List.filter_cons_of_pos (by simpa using h)]
      simp
theorem withoutL_filter (L : Img) (k : ByteArray) : withoutL L k = L.filter (fun y => decide (y.1 ≠ k)) := by
  have h := without_filter k L []
  rw [List.nil_append] at h
  exact h
theorem get_without (L : Img) (k k' : ByteArray) : alGet k (withoutL L k') = if k = k' then none else alGet k L := by
  rw [withoutL_filter]
  by_cases h : k = k'
  · rw [if_pos h, alGet_none]
    intro hm
    obtain ⟨x, hx, e⟩ := List.mem_map.1 hm
    have := (List.mem_filter.1 hx).2
    rw [e, h] at this
    simp at this
  · rw [if_neg h, get_filter k k' h]
theorem srt_without {L : Img} (h : Srt L) (k : ByteArray) : Srt (withoutL L k) := by
  rw [withoutL_filter]
  exact h.filter _

/-! ### One beside the other -/

/-- The document's areas and the program's. -/
structure SimA (L : Img) (A : Areas) : Prop where
  srt : Srt L
  nodup : (A.map (·.1)).Nodup
  get : ∀ k, alGet k L = alGet k A
theorem SimA.perm {L : Img} {A : Areas} (h : SimA L A) : L.Perm A := by
  have n1 : L.Nodup := (List.pairwise_map.1 h.srt.nodup).imp (fun {x y} hab e => hab (by rw [e]))
  have n2 : A.Nodup := (List.pairwise_map.1 h.nodup).imp (fun {x y} hab e => hab (by rw [e]))
  refine (List.perm_ext_iff_of_nodup n1 n2).2 fun x => ⟨fun hx => ?_, fun hx => ?_⟩
  · exact alGet_mem ((h.get x.1).symm.trans (alGet_of_mem h.srt.nodup hx))
  · exact alGet_mem ((h.get x.1).trans (alGet_of_mem h.nodup hx))
theorem SimA.len {L : Img} {A : Areas} (h : SimA L A) : L.length = A.length := h.perm.length_eq
theorem sumL_perm {L A : Img} (h : L.Perm A) : sumL L = sumF A := by
  induction h with
  | nil => rfl
  | cons x _ ih => simp only [sumL, sumF, ih]
  | swap x y l =>
    have e : ∀ l : Img, sumL l = sumF l := fun l => by
      induction l with
      | nil => rfl
      | cons x r ih => simp only [sumL, sumF, ih]
    simp only [sumL, sumF, e]
    omega
  | trans h1 h2 ih1 ih2 =>
    have e : ∀ l : Img, sumL l = sumF l := fun l => by
      induction l with
      | nil => rfl
      | cons x r ih => simp only [sumL, sumF, ih]
    rw [ih1, ← e, ih2]
theorem SimA.sum {L : Img} {A : Areas} (h : SimA L A) : sumL L = sumF A := sumL_perm h.perm
theorem SimA.get0 {L : Img} {A : Areas} (h : SimA L A) (k : ByteArray) : get0 k L = get0 k A := by
  unfold Go.Proofs.YtgbgbokcohfnpaaGreat.get0
  rw [h.get]
theorem SimA.put {L : Img} {A : Areas} (h : SimA L A) (k : ByteArray) (a : AreaP) : SimA (withL L (k, a)) (alPut k a A) :=
  ⟨by rw [withL_ins]; exact srt_ins _ h.srt, alPut_keys k a A h.nodup, fun k' => by rw [withL_ins, get_ins, alGet_put, h.get]⟩
theorem SimA.del {L : Img} {A : Areas} (h : SimA L A) (k : ByteArray) : SimA (withoutL L k) (alDel k A) :=
  ⟨srt_without h.srt k, alDel_keys k A h.nodup, fun k' => by rw [get_without, alGet_del k k' A h.nodup, h.get]⟩
theorem SimA.nil : SimA [] [] := ⟨List.Pairwise.nil, List.nodup_nil, fun _ => rfl⟩
theorem SimA.names {L : Img} {A : Areas} (h : SimA L A) : sortN (A.map (·.1)) = L.map (·.1) := by
  rw [← sortN_perm (h.perm.map (·.1))]
  unfold sortN
  rw [List.mergeSort_of_pairwise, List.map_map]
  · have : (ofL ∘ toL) = id := funext ofL_toL
    rw [this, List.map_id]
  · rw [List.map_map]
    refine List.pairwise_map.2 (List.Pairwise.imp (fun {x y} hxy => ?_) h.srt)
    exact decide_eq_true (List.le_of_lt hxy)
theorem SimA.image {L : Img} {A : Areas} (h : SimA L A) : ((sortN (A.map (·.1))).map fun k => (k, Go.Proofs.YtgbgbokcohfnpaaGreat.get0 k A)) = L := by
  rw [h.names, List.map_map]
  refine (List.map_congr_left (g := id) fun x hx => ?_).trans (List.map_id _)
  show (x.1, Go.Proofs.YtgbgbokcohfnpaaGreat.get0 x.1 A) = x
  unfold Go.Proofs.YtgbgbokcohfnpaaGreat.get0
  rw [← h.get, alGet_of_mem h.srt.nodup hx]
  rfl

structure Sim (m : RD) (s : DS) : Prop where
  a : SimA m.L s.areas
  room : m.room = s.room
  steps : m.steps = s.steps
  fuse : m.fuse = s.fuse
  down : m.down = s.down
theorem Sim.rok {m : RD} {s : DS} (h : Sim m s) (hd : DOk s) : ROk m := by
  refine ⟨by rw [h.room]; exact hd.room, by rw [h.a.len]; exact hd.len, fun x hx => hd.each x (h.a.perm.subset hx), by rw [h.steps]; exact hd.steps, by rw [h.fuse]; exact hd.fuse⟩

/-! ### crash -/

theorem get_set : ∀ (L : Img) (i : Nat) (h : i < L.length) (v : AreaP), (L.map (·.1)).Nodup → ∀ k, alGet k (L.set i (L[i].1, v)) = if k = L[i].1 then some v else alGet k L
  | x :: r, 0, _, v, _, k => by
    simp only [List.set_cons_zero, List.getElem_cons_zero]
    rw [alGet_cons, alGet_cons]
    by_cases h : k = x.1
    · simp [h]
    · simp [h]
  | x :: r, i + 1, h, v, hn, k => by
    have hn2 := List.nodup_cons.1 (show (x.1 :: r.map (·.1)).Nodup from hn)
    have hi : i < r.length := by simpa using h
    simp only [List.set_cons_succ, List.getElem_cons_succ]
    rw [alGet_cons, alGet_cons, get_set r i hi v hn2.2 k]
    by_cases h1 : k = x.1
    · have : k ≠ r[i].1 := fun e => hn2.1 (by rw [← h1, e]; exact List.mem_map.2 ⟨_, List.getElem_mem hi, rfl⟩)
      rw [if_pos h1, if_pos h1, if_neg this]
    · rw [if_neg h1, if_neg h1]
  | [], _, h, _, _, _ => by simp at h
theorem set_fst (L : Img) (i : Nat) (h : i < L.length) (v : AreaP) : (L.set i (L[i].1, v)).map (·.1) = L.map (·.1) := by
  rw [List.map_set]
  have : L[i].1 = (L.map (·.1))[i]'(by simpa using h) := by simp
  rw [this, List.set_getElem_self]
theorem Srt.of_fst {L M : Img} (h : Srt L) (e : M.map (·.1) = L.map (·.1)) : Srt M := by
  have h1 : (L.map (·.1)).Pairwise fun x y => toL x < toL y := List.pairwise_map.2 h
  rw [← e] at h1
  exact (List.pairwise_map (f := fun x : ByteArray × AreaP => x.1) (R := fun x y => toL x < toL y)).1 h1
theorem sim_crash {m : RD} {s : DS} (h : Sim m s) (hd : DOk s) (keep : List Int) : ∀ j, j ≤ m.L.length → SimA (crUp m.room keep m.L j) (crashUp (namesF s) keep s j).areas ∧ (crUp m.room keep m.L j).map (·.1) = m.L.map (·.1)
  | 0, _ => ⟨h.a, rfl⟩
  | j + 1, hj => by
    obtain ⟨ih1, ih2⟩ := sim_crash h hd keep j (by omega)
    have hlen := crUp_len m.room keep m.L j
    have hjl : j < (crUp m.room keep m.L j).length := by omega
    have hns : namesF s = m.L.map (·.1) := h.a.names
    have hnj : (namesF s)[j]?.getD ByteArray.empty = (crUp m.room keep m.L j)[j].1 := by
      rw [hns, ← ih2, List.getElem?_map, List.getElem?_eq_getElem hjl]
      rfl
    have hroom := (crashUp_room (namesF s) keep s j).1
    have hg : Go.Proofs.YtgbgbokcohfnpaaGreat.get0 (crUp m.room keep m.L j)[j].1 (crashUp (namesF s) keep s j).areas = (crUp m.room keep m.L j)[j].2 := by
      unfold Go.Proofs.YtgbgbokcohfnpaaGreat.get0
      rw [← ih1.get, alGet_of_mem (k := (crUp m.room keep m.L j)[j].1) (v := (crUp m.room keep m.L j)[j].2) ih1.srt.nodup (List.getElem_mem hjl)]
      rfl
    have hsum := ih1.sum
    rw [crUp_succ m.room keep m.L j hjl]
    show SimA _ (crash1 (crashUp (namesF s) keep s j) ((namesF s)[j]?.getD ByteArray.empty) keep[j]?).areas ∧ _
    rw [hnj]
    unfold crash1
    rw [hg]
    have hc : crashA (crashUp (namesF s) keep s j) (crUp m.room keep m.L j)[j].2 keep[j]? = keepA (sumL (crUp m.room keep m.L j)) m.room (crUp m.room keep m.L j)[j].2 keep[j]? := by
      unfold crashA keepA
      rw [hsum, hroom, ← h.room]
    rw [hc]
    refine ⟨⟨?_, ?_, fun k => ?_⟩, ?_⟩
    · exact ih1.srt.of_fst (set_fst _ j hjl _)
    · exact alPut_keys _ _ _ ih1.nodup
    · show alGet k ((crUp m.room keep m.L j).set j ((crUp m.room keep m.L j)[j].1, _)) = alGet k (alPut _ _ _)
      rw [get_set _ j hjl _ ih1.srt.nodup k, alGet_put, ih1.get]
    · exact (set_fst _ j hjl _).trans ih2
theorem sim_crashF {m : RD} {s : DS} (h : Sim m s) (hd : DOk s) (keep : List Int) : Sim (crashR m keep) (crashF s keep) := by
  have h1 := (sim_crash h hd keep m.L.length (Nat.le_refl _)).1
  have hns : (namesF s).length = m.L.length := by
    have : namesF s = m.L.map (·.1) := h.a.names
    rw [this, List.length_map]
  have hr := crashUp_room (namesF s) keep s m.L.length
  unfold crashF
  rw [hns]
  exact ⟨h1, h.room.trans hr.1.symm, h.steps.trans hr.2.symm, rfl, rfl⟩

/-! ### each call -/

def whyS (s : DS) (o : OpD) : Nat :=
  if s.down = true then 2
  else if nameOk o.name = false then 40
  else if 0 < o.k ∧ alGet o.name s.areas = none then 41
  else if o.k = 0 then (if alGet o.name s.areas = none ∧ 64 ≤ s.areas.length then 43 else if 4194304 < ((get0 o.name s.areas).data.length : Int) + o.b.length then 12 else 0)
  else if o.k = 1 then (if s.room < sumF s.areas - (get0 o.name s.areas).safe + (get0 o.name s.areas).data.length then 42 else 0)
  else if o.k = 2 then (if o.n < 0 ∨ ((get0 o.name s.areas).data.length : Int) < o.n then 1 else 0)
  else if o.k = 3 then (if nameOk o.dest = false then 40 else 0)
  else 0
theorem why_sim {m : RD} {s : DS} (h : Sim m s) (o : OpD) : whyR m o = whyS s o := by
  unfold whyR whyS
  rw [h.down, h.a.get, h.a.get0, h.a.sum, h.a.len, h.room]
theorem append_why (s : DS) (o : OpD) (hk : o.k = 0) : appendF s o.name o.b = if whyS s o ≠ 0 then (s, whyS s o) else ((stepF (putF s o.name ⟨(get0 o.name s.areas).data ++ o.b, (get0 o.name s.areas).safe⟩)).1, doneN (stepF s).2) := by
  have e : (4194304 - ((get0 o.name s.areas).data.length : Int) < o.b.length) ↔ (4194304 < ((get0 o.name s.areas).data.length : Int) + o.b.length) := by omega
  unfold appendF whyS barsF
  rw [hk]
  by_cases h1 : s.down = true
  · simp [h1]
  · by_cases h2 : nameOk o.name = false
    · simp [h1, h2]
    · by_cases h3 : alGet o.name s.areas = none ∧ 64 ≤ s.areas.length
      · simp [h1, h2, h3]
      · by_cases h4 : 4194304 < ((get0 o.name s.areas).data.length : Int) + o.b.length
        · simp only [if_neg h1, if_neg h2, if_neg h3, if_pos h4, if_pos (e.2 h4)]
          simp
        · simp only [if_neg h1, if_neg h2, if_neg h3, if_neg h4, if_neg (fun c => h4 (e.1 c))]
          simp
theorem bars_why (s : DS) (o : OpD) (_hk : 0 < o.k) (E : Nat) (hE : whyS s o = if s.down = true then 2 else if nameOk o.name = false then 40 else if alGet o.name s.areas = none then 41 else E) :
    whyS s o = if barsF s o.name true ≠ 0 then barsF s o.name true else E := by
  rw [hE]
  unfold barsF
  by_cases h1 : s.down = true
  · simp [h1]
  · by_cases h2 : nameOk o.name = false
    · simp [h1, h2]
    · by_cases h3 : alGet o.name s.areas = none
      · simp [h1, h2, h3]
      · simp [h1, h2, h3]
theorem sync_why (s : DS) (o : OpD) (hk : o.k = 1) : syncF s o.name = if whyS s o ≠ 0 then (s, whyS s o) else if (stepF s).2 = false then ((stepF s).1, 2) else (putF (stepF s).1 o.name ⟨(get0 o.name s.areas).data, (get0 o.name s.areas).data.length⟩, 0) := by
  have h := bars_why s o (by omega) (if s.room < sumF s.areas - (get0 o.name s.areas).safe + (get0 o.name s.areas).data.length then 42 else 0) (by unfold whyS; rw [hk]; simp)
  rw [h]
  unfold syncF
  by_cases hb : barsF s o.name true ≠ 0
  · simp only [if_pos hb]
  · simp only [if_neg hb]
    by_cases h4 : s.room < sumF s.areas - (get0 o.name s.areas).safe + (get0 o.name s.areas).data.length
    · simp [h4]
    · simp [h4]
theorem cut_why (s : DS) (o : OpD) (hk : o.k = 2) : cutF s o.name o.n = if whyS s o ≠ 0 then (s, whyS s o) else if (stepF s).2 = false then ((stepF s).1, 2) else (putF (stepF s).1 o.name (cutA (get0 o.name s.areas) o.n), 0) := by
  have h := bars_why s o (by omega) (if o.n < 0 ∨ ((get0 o.name s.areas).data.length : Int) < o.n then 1 else 0) (by unfold whyS; rw [hk]; simp)
  rw [h]
  unfold cutF
  by_cases hb : barsF s o.name true ≠ 0
  · simp only [if_pos hb]
  · simp only [if_neg hb]
    by_cases h4 : o.n < 0 ∨ ((get0 o.name s.areas).data.length : Int) < o.n
    · simp [h4]
    · simp [h4]
theorem move_why (s : DS) (o : OpD) (hk : o.k = 3) : moveF s o.name o.dest = if whyS s o ≠ 0 then (s, whyS s o) else if (stepF s).2 = false then ((stepF s).1, 2) else ({ (stepF s).1 with areas := alPut o.dest (get0 o.name s.areas) (alDel o.name s.areas) }, 0) := by
  have h := bars_why s o (by omega) (if nameOk o.dest = false then 40 else 0) (by unfold whyS; rw [hk]; simp)
  rw [h]
  unfold moveF
  by_cases hb : barsF s o.name true ≠ 0
  · simp only [if_pos hb]
  · simp only [if_neg hb]
    by_cases h4 : nameOk o.dest = false
    · simp [h4]
    · simp [h4]
theorem drop_why (s : DS) (o : OpD) (hk : o.k = 4) : dropF s o.name = if whyS s o ≠ 0 then (s, whyS s o) else if (stepF s).2 = false then ((stepF s).1, 2) else ({ (stepF s).1 with areas := alDel o.name s.areas }, 0) := by
  have h := bars_why s o (by omega) 0 (by unfold whyS; rw [hk]; simp)
  rw [h]
  unfold dropF
  by_cases hb : barsF s o.name true ≠ 0
  · simp only [if_pos hb]
  · simp only [if_neg hb]
    simp
theorem read_why (s : DS) (o : OpD) (hk : o.k = 5) : readF s o.name = if whyS s o ≠ 0 then ([], whyS s o) else ((get0 o.name s.areas).data, 0) := by
  have h := bars_why s o (by omega) 0 (by unfold whyS; rw [hk]; simp)
  rw [h]
  unfold readF
  by_cases hb : barsF s o.name true ≠ 0
  · simp only [if_pos hb]
  · simp only [if_neg hb]
    simp
theorem sim_do {m : RD} {s : DS} (h : Sim m s) (hd : DOk s) (o : OpD) : Sim (doR m o).1 (doF s o).1 ∧ (doR m o).2 = (doF s o).2 := by
  have hw := why_sim h o
  by_cases k6 : o.k = 6
  · unfold doR doF
    simp only [k6, if_true, Int.reduceEq, if_false]
    exact ⟨⟨h.a, h.room, h.steps, rfl, h.down⟩, trivial⟩
  by_cases k7 : o.k = 7
  · unfold doR doF
    simp only [k7, if_true, Int.reduceEq, if_false]
    exact ⟨sim_crashF h hd o.keep, trivial⟩
  by_cases k8 : o.k < 0 ∨ 7 < o.k
  · unfold doR doF
    rw [if_neg k6, if_neg k7, if_pos k8, if_neg (by omega), if_neg (by omega), if_neg (by omega), if_neg (by omega), if_neg (by omega), if_neg (by omega), if_neg k6, if_neg k7]
    exact ⟨h, rfl⟩
  have hstep : ∀ L', SimA L' s.areas → s.fuse = 1 → Sim ⟨L', m.room, m.steps, 0, true⟩ (stepF s).1 ∧ (stepF s).2 = false := fun L' hL hf => by
    unfold stepF
    rw [if_pos hf]
    exact ⟨⟨hL, h.room, h.steps, rfl, rfl⟩, rfl⟩
  have hstep2 : ∀ s' L', s'.areas = s'.areas ∧ SimA L' s'.areas ∧ s'.room = s.room ∧ s'.steps = s.steps ∧ s'.fuse = s.fuse ∧ s'.down = s.down → s.fuse ≠ 1 → Sim ⟨L', m.room, m.steps + 1, max 0 (m.fuse - 1), m.down⟩ (stepF s').1 := fun s' L' hh hf => by
    obtain ⟨-, h1, h2, h3, h4, h5⟩ := hh
    unfold stepF
    rw [if_neg (by rw [h4]; exact hf)]
    exact ⟨h1, h.room.trans h2.symm, by show m.steps + 1 = s'.steps + 1; rw [h.steps, h3], by show max 0 (m.fuse - 1) = max 0 (s'.fuse - 1); rw [h.fuse, h4], h.down.trans h5.symm⟩
  have hno : s.fuse ≠ 1 → (stepF s).2 = true := fun hf => by unfold stepF; rw [if_neg hf]
  by_cases hz : whyS s o ≠ 0
  · have h1 : doR m o = (m, [], whyS s o) := by
      unfold doR
      rw [if_neg k6, if_neg k7, if_neg k8, hw, if_pos hz]
    rw [h1]
    unfold doF
    rcases (show o.k = 0 ∨ o.k = 1 ∨ o.k = 2 ∨ o.k = 3 ∨ o.k = 4 ∨ o.k = 5 by omega) with k | k | k | k | k | k
    · rw [if_pos k, append_why s o k, if_pos hz]; exact ⟨h, rfl⟩
    · rw [if_neg (by omega), if_pos k, sync_why s o k, if_pos hz]; exact ⟨h, rfl⟩
    · rw [if_neg (by omega), if_neg (by omega), if_pos k, cut_why s o k, if_pos hz]; exact ⟨h, rfl⟩
    · rw [if_neg (by omega), if_neg (by omega), if_neg (by omega), if_pos k, move_why s o k, if_pos hz]; exact ⟨h, rfl⟩
    · rw [if_neg (by omega), if_neg (by omega), if_neg (by omega), if_neg (by omega), if_pos k, drop_why s o k, if_pos hz]; exact ⟨h, rfl⟩
    · rw [if_neg (by omega), if_neg (by omega), if_neg (by omega), if_neg (by omega), if_neg (by omega), if_pos k, read_why s o k, if_pos hz]; exact ⟨h, rfl⟩
  · by_cases k5 : o.k = 5
    · have h1 : doR m o = (m, (get0 o.name m.L).data, 0) := by
        unfold doR
        rw [if_neg k6, if_neg k7, if_neg k8, hw, if_neg hz, if_pos k5]
      rw [h1]
      unfold doF
      rw [if_neg (by omega), if_neg (by omega), if_neg (by omega), if_neg (by omega), if_neg (by omega), if_pos k5, read_why s o k5, if_neg hz, h.a.get0]
      exact ⟨h, rfl⟩
    · by_cases hf : s.fuse = 1
      · have h1 : doR m o = ({ m with L := (if o.k = 0 then changeL m.L o else m.L), fuse := 0, down := true }, [], 2) := by
          unfold doR
          rw [if_neg k6, if_neg k7, if_neg k8, hw, if_neg hz, if_neg k5, h.fuse, if_pos hf]
        rw [h1]
        unfold doF
        have hs2 := (hstep m.L h.a hf).2
        rcases (show o.k = 0 ∨ o.k = 1 ∨ o.k = 2 ∨ o.k = 3 ∨ o.k = 4 by omega) with k | k | k | k | k
        · rw [if_pos k, append_why s o k, if_neg hz]
          simp only [if_pos k, hs2]
          refine ⟨?_, rfl⟩
          unfold stepF putF
          rw [if_pos hf]
          unfold changeL
          rw [if_pos k, h.a.get0]
          exact ⟨h.a.put _ _, h.room, h.steps, rfl, rfl⟩
        · rw [show (if o.k = 0 then changeL m.L o else m.L) = m.L from if_neg (by omega), if_neg (by omega), if_pos k, sync_why s o k, if_neg hz, if_pos hs2]
          exact ⟨(hstep m.L h.a hf).1, rfl⟩
        · rw [show (if o.k = 0 then changeL m.L o else m.L) = m.L from if_neg (by omega), if_neg (by omega), if_neg (by omega), if_pos k, cut_why s o k, if_neg hz, if_pos hs2]
          exact ⟨(hstep m.L h.a hf).1, rfl⟩
        · rw [show (if o.k = 0 then changeL m.L o else m.L) = m.L from if_neg (by omega), if_neg (by omega), if_neg (by omega), if_neg (by omega), if_pos k, move_why s o k, if_neg hz, if_pos hs2]
          exact ⟨(hstep m.L h.a hf).1, rfl⟩
        · rw [show (if o.k = 0 then changeL m.L o else m.L) = m.L from if_neg (by omega), if_neg (by omega), if_neg (by omega), if_neg (by omega), if_neg (by omega), if_pos k, drop_why s o k, if_neg hz, if_pos hs2]
          exact ⟨(hstep m.L h.a hf).1, rfl⟩
      · have h1 : doR m o = ({ m with L := changeL m.L o, steps := m.steps + 1, fuse := max 0 (m.fuse - 1) }, [], 0) := by
          unfold doR
          rw [if_neg k6, if_neg k7, if_neg k8, hw, if_neg hz, if_neg k5, h.fuse, if_neg hf]
        rw [h1]
        unfold doF
        have hs2 := hno hf
        have hs3 : ¬ (stepF s).2 = false := by rw [hs2]; simp
        have hst : (stepF s).1 = { s with fuse := max 0 (s.fuse - 1), steps := s.steps + 1 } := by unfold stepF; rw [if_neg hf]
        have hfin : ∀ L' A', SimA L' A' → Sim ⟨L', m.room, m.steps + 1, max 0 (m.fuse - 1), m.down⟩ { (stepF s).1 with areas := A' } := fun L' A' hL => by
          rw [hst]
          exact ⟨hL, h.room, by show m.steps + 1 = s.steps + 1; rw [h.steps], by show max 0 (m.fuse - 1) = max 0 (s.fuse - 1); rw [h.fuse], h.down⟩
        have hsa : (stepF s).1.areas = s.areas := by rw [hst]
        rcases (show o.k = 0 ∨ o.k = 1 ∨ o.k = 2 ∨ o.k = 3 ∨ o.k = 4 by omega) with k | k | k | k | k
        · rw [if_pos k, append_why s o k, if_neg hz, hs2]
          refine ⟨?_, rfl⟩
          simp only []
          unfold changeL
          rw [if_pos k, h.a.get0]
          exact hstep2 _ _ ⟨rfl, h.a.put _ _, rfl, rfl, rfl, rfl⟩ hf
        · rw [if_neg (by omega), if_pos k, sync_why s o k, if_neg hz, if_neg hs3]
          refine ⟨?_, rfl⟩
          simp only []
          unfold changeL putF
          rw [if_neg (by omega), if_pos k, h.a.get0, hsa]
          exact hfin _ _ (h.a.put _ _)
        · rw [if_neg (by omega), if_neg (by omega), if_pos k, cut_why s o k, if_neg hz, if_neg hs3]
          refine ⟨?_, rfl⟩
          simp only []
          unfold changeL putF
          rw [if_neg (by omega), if_neg (by omega), if_pos k, h.a.get0, hsa]
          exact hfin _ _ (h.a.put _ _)
        · rw [if_neg (by omega), if_neg (by omega), if_neg (by omega), if_pos k, move_why s o k, if_neg hz, if_neg hs3]
          refine ⟨?_, rfl⟩
          simp only []
          unfold changeL
          rw [if_neg (by omega), if_neg (by omega), if_neg (by omega), if_pos k, h.a.get0]
          exact hfin _ _ ((h.a.del _).put _ _)
        · rw [if_neg (by omega), if_neg (by omega), if_neg (by omega), if_neg (by omega), if_pos k, drop_why s o k, if_neg hz, if_neg hs3]
          refine ⟨?_, rfl⟩
          simp only []
          unfold changeL
          rw [if_neg (by omega), if_neg (by omega), if_neg (by omega), if_neg (by omega)]
          exact hfin _ _ (h.a.del _)

/-! ### Mount -/

end Go.Proofs.YtgbgbokcohfnpaaGreat

/-
  DiskApart: what is done to one area changes no other one.
-/
namespace Go.Proofs.YtgbgbokcohfnpaaGreat
open Go.RowKit

/-! ### The plain law -/

def cutS (a : AreaP) : AreaP := ⟨a.data.take a.safe.toNat, a.safe⟩
theorem crash1_none (t : DS) (n : ByteArray) : crash1 t n none = putF t n (cutS (get0 n t.areas)) := by
  have h : crashA t (get0 n t.areas) none = (get0 n t.areas).safe := by unfold crashA keepN; simp only []; omega
  unfold crash1 cutS
  rw [h]
theorem crashUp_get (s : DS) (ns : List ByteArray) (hnd : ns.Nodup) (hk : ∀ k ∈ ns, k ∈ s.areas.map (·.1)) : ∀ j, j ≤ ns.length → ∀ k, (k ∈ ns.take j → alGet k (crashUp ns [] s j).areas = (alGet k s.areas).map cutS) ∧ (k ∉ ns.take j → alGet k (crashUp ns [] s j).areas = alGet k s.areas)
  | 0, _, k => ⟨fun c => by simp at c, fun _ => rfl⟩
  | j + 1, hj, k => by
    have hj' : j < ns.length := by omega
    have ih := crashUp_get s ns hnd hk j (by omega)
    have hn : ns[j] ∉ ns.take j := fun c => by
      have h1 : ns = ns.take j ++ ns[j] :: ns.drop (j + 1) := by rw [← List.drop_eq_getElem_cons hj', List.take_append_drop]
      have h2 := hnd
      rw [h1, List.nodup_append] at h2
      exact h2.2.2 _ c _ (List.mem_cons_self ..) rfl
    have e1 : crashUp ns [] s (j + 1) = putF (crashUp ns [] s j) ns[j] (cutS (get0 ns[j] (crashUp ns [] s j).areas)) := by
      show crash1 _ (ns[j]?.getD ByteArray.empty) ([] : List Int)[j]? = _
      rw [List.getElem?_eq_getElem hj', List.getElem?_nil]
      exact crash1_none _ _
    rw [e1, List.take_succ_eq_append_getElem hj']
    show (_ → alGet k (alPut ns[j] _ (crashUp ns [] s j).areas) = _) ∧ (_ → alGet k (alPut ns[j] _ (crashUp ns [] s j).areas) = _)
    rw [alGet_put]
    have hg : alGet ns[j] (crashUp ns [] s j).areas = alGet ns[j] s.areas := (ih _).2 hn
    by_cases c : k = ns[j]
    · rw [if_pos c]
      refine ⟨fun _ => ?_, fun d => absurd (by rw [c]; exact List.mem_append.2 (Or.inr (List.mem_singleton.2 rfl))) d⟩
      unfold get0
      rw [hg, c]
      cases ha : alGet ns[j] s.areas with
      | none => exact absurd ha (get_ne (hk _ (List.getElem_mem hj')))
      | some a => rfl
    · rw [if_neg c]
      exact ⟨fun d => (ih k).1 ((List.mem_append.1 d).elim id (fun e => absurd (List.mem_singleton.1 e) c)), fun d => (ih k).2 (fun e => d (List.mem_append.2 (Or.inl e)))⟩
theorem names_nodup {s : DS} (h : DOk s) : (namesF s).Nodup := (sortN_of _).nodup_iff.2 h.keys
theorem crashF_get {s : DS} (h : DOk s) (k : ByteArray) : alGet k (crashF s []).areas = (alGet k s.areas).map cutS := by
  have h1 := crashUp_get s (namesF s) (names_nodup h) namesF_mem (namesF s).length (Nat.le_refl _) k
  show alGet k (crashUp (namesF s) [] s (namesF s).length).areas = _
  rw [List.take_length] at h1
  by_cases c : k ∈ namesF s
  · exact h1.1 c
  · rw [h1.2 c]
    have : alGet k s.areas = none := (alGet_none k s.areas).2 (fun d => c ((sortN_of _).mem_iff.2 d))
    rw [this]; rfl
/-! ### The walk -/

theorem OpOk.mono {o : OpD} {M N : Nat} (h : OpOk o M) (hm : M ≤ N) : OpOk o N := ⟨h.k, h.name, h.dest, h.n, by have := h.b; omega, by have := h.keep; omega⟩
attribute [local irreducible] appendF syncF newF crashF readF imageF doF
end Go.Proofs.YtgbgbokcohfnpaaGreat

/-
  HOW A LIST OF AREAS READS, with its bulk.
-/
namespace Go.Proofs.YtgbgbokcohfnpaaGreat
open Go.ChangeShapes Go.WideShapes Go.ChangeAt Go.RowKit Go.Deep

end Go.Proofs.YtgbgbokcohfnpaaGreat
