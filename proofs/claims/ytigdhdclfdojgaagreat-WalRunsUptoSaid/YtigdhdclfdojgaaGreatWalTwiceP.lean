/-
  wal: OPENED TWICE, in plain Lean.
-/
import Derived.Test.YtigdhdclfdojgaaGreatWalUp
namespace Go.Proofs.YtigdhdclfdojgaaGreat
open Go.RowKit

abbrev Dat := List (ByteArray × List UInt8)
def strayB (f : FoundS) (k : ByteArray) (b : List UInt8) : Prop := f.whole = false ∨ (headOf (splitL b) (numberN k)).2 = false ∨ (0 < f.pieces.length ∧ (headOf (splitL b) (numberN k)).1 ≠ f.next)
instance (f : FoundS) (k : ByteArray) (b : List UInt8) : Decidable (strayB f k b) := by unfold strayB; infer_instance
def tookF (f : FoundS) (k : ByteArray) (b : List UInt8) : FoundS := ⟨f.pieces ++ [(numberN k, (headOf (splitL b) (numberN k)).1)], f.recs ++ numbered (headOf (splitL b) (numberN k)).1 (splitL b).tail, (headOf (splitL b) (numberN k)).1 + (splitL b).tail.length,
    (frames (splitL b)).length, decide ((frames (splitL b)).length = b.length), f.rest⟩
theorem scan1_eq (f : FoundS) (k : ByteArray) (b : List UInt8) : scan1 f k b = if numberN k = 0 then f else if strayB f k b then { f with whole := false, rest := f.rest ++ [numberN k] } else tookF f k b := rfl
def foldS (L : Dat) (f : FoundS) : FoundS := L.foldl (fun f x => scan1 f x.1 x.2) f
theorem foldS_nil (f : FoundS) : foldS [] f = f := rfl
theorem foldS_cons (x : ByteArray × List UInt8) (r : Dat) (f : FoundS) : foldS (x :: r) f = foldS r (scan1 f x.1 x.2) := rfl
theorem foldS_append (a b : Dat) (f : FoundS) : foldS (a ++ b) f = foldS b (foldS a f) := List.foldl_append
def calm (f : FoundS) : FoundS := { f with rest := [], whole := true }
/-- What Open leaves of the areas. -/
def tidyL : FoundS → Dat → Dat
  | _, [] => []
  | f, x :: r => if numberN x.1 = 0 then x :: tidyL f r else if strayB f x.1 x.2 then tidyL (scan1 f x.1 x.2) r else (x.1, frames (splitL x.2)) :: tidyL (scan1 f x.1 x.2) r
theorem splitL_tidy (b : List UInt8) : splitL (frames (splitL b)) = splitL b := by
  have h := splitL_frames (splitL b) [] (split_each b)
  rw [List.append_nil, splitL_nil, List.append_nil] at h
  exact h
theorem tidy_scan : ∀ (L : Dat) (f : FoundS), foldS (tidyL f L) (calm f) = calm (foldS L f)
  | [], f => rfl
  | x :: r, f => by
    unfold tidyL
    rw [foldS_cons]
    by_cases h0 : numberN x.1 = 0
    · rw [if_pos h0, foldS_cons, scan1_eq (calm f), if_pos h0, scan1_eq f, if_pos h0]
      exact tidy_scan r f
    rw [if_neg h0]
    by_cases hs : strayB f x.1 x.2
    · rw [if_pos hs]
      have ih := tidy_scan r (scan1 f x.1 x.2)
      rw [scan1_eq f, if_neg h0, if_pos hs] at ih ⊢
      exact ih
    · rw [if_neg hs, foldS_cons]
      have ih := tidy_scan r (scan1 f x.1 x.2)
      rw [scan1_eq f, if_neg h0, if_neg hs] at ih ⊢
      rw [← ih]
      congr 1
      have hs2 : ¬ strayB (calm f) x.1 (frames (splitL x.2)) := by
        unfold strayB at hs ⊢
        rw [splitL_tidy]
        intro c
        apply hs
        rcases c with c | c | c
        · cases c
        · exact Or.inr (Or.inl c)
        · exact Or.inr (Or.inr c)
      rw [scan1_eq, if_neg h0, if_neg hs2]
      unfold tookF
      rw [splitL_tidy]
      simp [calm]
/-- Once something was amiss, no piece is taken any more. -/
theorem foldS_amiss : ∀ (L : Dat) (f : FoundS), f.whole = false → (foldS L f).pieces = f.pieces ∧ (foldS L f).good = f.good
  | [], _, _ => ⟨rfl, rfl⟩
  | x :: r, f, h => by
    rw [foldS_cons]
    have hs : strayB f x.1 x.2 := Or.inl h
    by_cases h0 : numberN x.1 = 0
    · rw [scan1_eq, if_pos h0]
      exact foldS_amiss r f h
    · rw [scan1_eq, if_neg h0, if_pos hs]
      exact foldS_amiss r _ rfl
theorem tidy_amiss : ∀ (L : Dat) (f : FoundS), f.whole = false → tidyL f L = L.filter (fun x => decide (numberN x.1 = 0))
  | [], _, _ => rfl
  | x :: r, f, h => by
    have hs : strayB f x.1 x.2 := Or.inl h
    unfold tidyL
    by_cases h0 : numberN x.1 = 0
    · rw [if_pos h0, List.filter_cons_of_pos (by simp [h0]), tidy_amiss r f h]
    · rw [if_neg h0, if_pos hs, List.filter_cons_of_neg (by simp [h0]), scan1_eq, if_neg h0, if_pos hs]
      exact tidy_amiss r _ rfl
/-- Strays lie in rest, in the order in which they came. -/
def strays : FoundS → Dat → List ByteArray
  | _, [] => []
  | f, x :: r => if numberN x.1 = 0 then strays f r else if strayB f x.1 x.2 then x.1 :: strays (scan1 f x.1 x.2) r else strays (scan1 f x.1 x.2) r
theorem strays_cons (f : FoundS) (x : ByteArray × List UInt8) (r : Dat) : strays f (x :: r) = if numberN x.1 = 0 then strays f r else if strayB f x.1 x.2 then x.1 :: strays (scan1 f x.1 x.2) r else strays (scan1 f x.1 x.2) r := rfl
theorem strays_rest : ∀ (L : Dat) (f : FoundS), (foldS L f).rest = f.rest ++ (strays f L).map numberN
  | [], f => by rw [foldS_nil]; simp [strays]
  | x :: r, f => by
    rw [foldS_cons]
    unfold strays
    by_cases h0 : numberN x.1 = 0
    · rw [if_pos h0, scan1_eq, if_pos h0]
      exact strays_rest r f
    rw [if_neg h0]
    by_cases hs : strayB f x.1 x.2
    · rw [if_pos hs, strays_rest r]
      rw [scan1_eq, if_neg h0, if_pos hs]
      simp
    · rw [if_neg hs, strays_rest r]
      rw [scan1_eq, if_neg h0, if_neg hs]
      rfl
theorem strays_sub : ∀ (L : Dat) (f : FoundS), ∀ k ∈ strays f L, k ∈ L.map (·.1) ∧ numberN k ≠ 0
  | [], _, k, h => by cases h
  | x :: r, f, k, h => by
    unfold strays at h
    by_cases h0 : numberN x.1 = 0
    · rw [if_pos h0] at h
      have := strays_sub r f k h
      exact ⟨List.mem_cons_of_mem _ this.1, this.2⟩
    rw [if_neg h0] at h
    by_cases hs : strayB f x.1 x.2
    · rw [if_pos hs] at h
      rcases List.mem_cons.1 h with e | e
      · rw [e]; exact ⟨List.mem_cons_self .., h0⟩
      · have := strays_sub r _ k e
        exact ⟨List.mem_cons_of_mem _ this.1, this.2⟩
    · rw [if_neg hs] at h
      have := strays_sub r _ k h
      exact ⟨List.mem_cons_of_mem _ this.1, this.2⟩
theorem foldS_ext : ∀ (L : Dat) (f : FoundS), ∃ t, (foldS L f).pieces = f.pieces ++ t ∧ (t = [] → (foldS L f).good = f.good) ∧ ∀ p ∈ t, walName p.1 ∈ L.map (·.1)
  | [], f => ⟨[], by rw [foldS_nil, List.append_nil], fun _ => rfl, fun p h => by cases h⟩
  | x :: r, f => by
    rw [foldS_cons]
    obtain ⟨t, h1, h2, h3⟩ := foldS_ext r (scan1 f x.1 x.2)
    by_cases h0 : numberN x.1 = 0
    · rw [scan1_eq, if_pos h0] at h1 h2 ⊢
      exact ⟨t, h1, h2, fun p hp => List.mem_cons_of_mem _ (h3 p hp)⟩
    by_cases hs : strayB f x.1 x.2
    · rw [scan1_eq, if_neg h0, if_pos hs] at h1 h2 ⊢
      exact ⟨t, h1, h2, fun p hp => List.mem_cons_of_mem _ (h3 p hp)⟩
    · rw [scan1_eq, if_neg h0, if_neg hs] at h1 h2 ⊢
      refine ⟨(numberN x.1, (headOf (splitL x.2) (numberN x.1)).1) :: t, by rw [h1]; unfold tookF; simp, (fun e => nomatch e), fun p hp => ?_⟩
      rcases List.mem_cons.1 hp with e | e
      · rw [e]
        show walName (numberN x.1) ∈ _
        rw [number_back h0]
        exact List.mem_cons_self ..
      · exact List.mem_cons_of_mem _ (h3 p e)
def keepF (f : FoundS) (L : Dat) : Dat := L.filter fun (x : ByteArray × List UInt8) => decide (∀ k ∈ strays f L, x.1 ≠ k)
theorem keep_cons (f : FoundS) (x : ByteArray × List UInt8) (r : Dat) (hn : ((x :: r).map (·.1)).Nodup) : keepF f (x :: r) = if numberN x.1 = 0 then x :: keepF f r else if strayB f x.1 x.2 then keepF (scan1 f x.1 x.2) r else x :: keepF (scan1 f x.1 x.2) r := by
  have hnd := List.nodup_cons.1 (show (x.1 :: r.map (·.1)).Nodup from hn)
  unfold keepF
  rw [strays_cons]
  by_cases h0 : numberN x.1 = 0
  · rw [if_pos h0, if_pos h0]
    exact List.filter_cons_of_pos (by simp only [decide_eq_true_eq]; exact fun k hk e => (strays_sub r f k hk).2 (by rw [← e]; exact h0))
  rw [if_neg h0, if_neg h0]
  by_cases hs : strayB f x.1 x.2
  · rw [if_pos hs, if_pos hs, List.filter_cons_of_neg (by simp)]
    refine List.filter_congr fun y hy => ?_
    have hne : ¬ y.1 = x.1 := fun e => hnd.1 (List.mem_map.2 ⟨y, hy, e⟩)
    simp [hne]
  · rw [if_neg hs, if_neg hs]
    exact List.filter_cons_of_pos (by simp only [decide_eq_true_eq]; exact fun k hk e => hnd.1 (by rw [e]; exact (strays_sub r _ k hk).1))
theorem keep_none : ∀ (L : Dat) (f : FoundS), (L.map (·.1)).Nodup → (foldS L f).pieces.length = f.pieces.length → keepF f L = tidyL f L
  | [], _, _, _ => rfl
  | x :: r, f, hn, hg => by
    have hnd := List.nodup_cons.1 (show (x.1 :: r.map (·.1)).Nodup from hn)
    rw [keep_cons f x r hn]
    unfold tidyL
    rw [foldS_cons] at hg
    by_cases h0 : numberN x.1 = 0
    · rw [if_pos h0, if_pos h0]
      rw [scan1_eq, if_pos h0] at hg
      rw [keep_none r f hnd.2 hg]
    rw [if_neg h0, if_neg h0]
    by_cases hs : strayB f x.1 x.2
    · rw [if_pos hs, if_pos hs]
      refine keep_none r _ hnd.2 ?_
      rw [hg, scan1_eq, if_neg h0, if_pos hs]
    · exfalso
      obtain ⟨t, h1, -, -⟩ := foldS_ext r (scan1 f x.1 x.2)
      rw [h1, scan1_eq, if_neg h0, if_neg hs] at hg
      unfold tookF at hg
      simp at hg
theorem take_tidy (b : List UInt8) : b.take (frames (splitL b)).length = frames (splitL b) := by
  obtain ⟨r, h1, -, -⟩ := split_pre b.length b (Nat.le_refl _)
  generalize frames (splitL b) = F at *
  rw [h1]
  exact List.take_left' rfl
def cutD (k : ByteArray) (n : Nat) (L : Dat) : Dat := L.map fun (x : ByteArray × List UInt8) => if x.1 = k then (k, x.2.take n) else x
theorem cutD_none {k : ByteArray} {n : Nat} {L : Dat} (h : k ∉ L.map (·.1)) : cutD k n L = L := by
  unfold cutD
  refine (List.map_congr_left (g := id) fun y hy => ?_).trans (List.map_id _)
  rw [if_neg (fun e => h (List.mem_map.2 ⟨y, hy, e⟩))]
  rfl
/-- The areas but for the strays, the last piece cut: what is tidy. -/
theorem keep_cut : ∀ (L : Dat) (f : FoundS), (L.map (·.1)).Nodup → (foldS L f).pieces.length ≠ f.pieces.length → cutD (walName ((foldS L f).pieces.getLastD (0, 0)).1) (foldS L f).good (keepF f L) = tidyL f L
  | [], _, _, h => absurd rfl h
  | x :: r, f, hn, hg => by
    have hnd := List.nodup_cons.1 (show (x.1 :: r.map (·.1)).Nodup from hn)
    rw [keep_cons f x r hn]
    unfold tidyL
    rw [foldS_cons] at hg ⊢
    by_cases h0 : numberN x.1 = 0
    · rw [if_pos h0, if_pos h0]
      rw [scan1_eq, if_pos h0] at hg ⊢
      rw [← keep_cut r f hnd.2 hg]
      unfold cutD
      rw [List.map_cons, if_neg]
      obtain ⟨t, h1, -, h3⟩ := foldS_ext r f
      intro e
      have ht : t ≠ [] := fun e => hg (by rw [h1, e, List.append_nil])
      have hm : (foldS r f).pieces.getLastD (0, 0) ∈ t := by
        rw [h1, List.getLastD_eq_getLast?, List.getLast?_append, List.getLast?_eq_some_getLast ht, Option.some_or]
        exact List.getLast_mem ht
      exact hnd.1 (by rw [e]; exact h3 _ hm)
    rw [if_neg h0, if_neg h0]
    by_cases hs : strayB f x.1 x.2
    · rw [if_pos hs, if_pos hs]
      refine keep_cut r _ hnd.2 ?_
      rw [scan1_eq, if_neg h0, if_pos hs] at hg ⊢
      exact hg
    rw [if_neg hs, if_neg hs]
    obtain ⟨t, h1, h2, h3⟩ := foldS_ext r (scan1 f x.1 x.2)
    have hsc : scan1 f x.1 x.2 = tookF f x.1 x.2 := by rw [scan1_eq, if_neg h0, if_neg hs]
    by_cases ht : t = []
    · have hp : (foldS r (scan1 f x.1 x.2)).pieces = (scan1 f x.1 x.2).pieces := by rw [h1, ht, List.append_nil]
      have hgd := h2 ht
      rw [← keep_none r _ hnd.2 (by rw [hp]), hp, hgd]
      have hl : walName ((scan1 f x.1 x.2).pieces.getLastD (0, 0)).1 = x.1 := by
        rw [hsc]
        unfold tookF
        simp only [List.getLastD_concat]
        exact number_back h0
      rw [hl]
      unfold cutD
      rw [List.map_cons, if_pos rfl]
      have hk : x.1 ∉ (keepF (scan1 f x.1 x.2) r).map (·.1) := fun c => hnd.1 (by
        obtain ⟨y, hy, e⟩ := List.mem_map.1 c
        exact List.mem_map.2 ⟨y, (List.mem_filter.1 hy).1, e⟩)
      have hc := cutD_none (n := (scan1 f x.1 x.2).good) hk
      unfold cutD at hc
      rw [hc, hsc]
      unfold tookF
      simp only [take_tidy]
    · have hne : (foldS r (scan1 f x.1 x.2)).pieces.length ≠ (scan1 f x.1 x.2).pieces.length := by
        rw [h1, List.length_append]
        have := List.length_pos_iff.2 ht
        omega
      have hw : (scan1 f x.1 x.2).whole = true := by
        cases hb : (scan1 f x.1 x.2).whole with
        | true => rfl
        | false => exact absurd (by rw [(foldS_amiss r _ hb).1]) hne
      have hm : (foldS r (scan1 f x.1 x.2)).pieces.getLastD (0, 0) ∈ t := by
        rw [h1, List.getLastD_eq_getLast?, List.getLast?_append, List.getLast?_eq_some_getLast ht, Option.some_or]
        exact List.getLast_mem ht
      rw [← keep_cut r _ hnd.2 hne]
      unfold cutD
      rw [List.map_cons, if_neg (fun e => hnd.1 (by rw [e]; exact h3 _ hm))]
      congr 1
      rw [hsc] at hw
      unfold tookF at hw
      simp only [decide_eq_true_eq] at hw
      have h5 := take_tidy x.2
      rw [hw, List.take_length] at h5
      rw [← h5]

end Go.Proofs.YtigdhdclfdojgaaGreat
