/-
  wal: OPENED TWICE, the plain law.
-/
import Derived.Test.YtigdhdclfdojgaaGreatWalTwiceP
namespace Go.Proofs.YtigdhdclfdojgaaGreat
open Go.RowKit

theorem strays_subl : ∀ (L : Dat) (f : FoundS), (strays f L).Sublist (L.map (·.1))
  | [], _ => List.Sublist.refl _
  | x :: r, f => by
    rw [strays_cons]
    split
    · exact (strays_subl r f).cons _
    · split
      · exact (strays_subl r _).cons_cons _
      · exact (strays_subl r _).cons _
theorem up_dropAll : ∀ (ns : List Nat) (s : DS) (L : Img), Up s L → (ns.map walName).Nodup → (∀ n ∈ ns, walName n ∈ L.map (·.1)) → ∃ s', dropAll ns s = (s', 0) ∧ s'.room = s.room ∧ Up s' (L.filter fun y => decide (∀ k ∈ ns.map walName, y.1 ≠ k))
  | [], s, L, h, _, _ => ⟨s, rfl, rfl, by
    have e : (L.filter fun y => decide (∀ k ∈ ([] : List Nat).map walName, y.1 ≠ k)) = L := List.filter_eq_self.2 (fun y _ => by simp)
    rw [e]
    exact h⟩
  | n :: r, s, L, h, hn, hm => by
    have hnd := List.nodup_cons.1 (show (walName n :: r.map walName).Nodup from hn)
    have hg : alGet (walName n) L ≠ none := fun e => (alGet_none _ _).1 e (hm n (List.mem_cons_self ..))
    obtain ⟨e1, u1⟩ := h.drop (nameOk_wal n) hg
    obtain ⟨s', e2, e3, u2⟩ := up_dropAll r _ _ u1 hnd.2 (fun m hmr => by
      obtain ⟨y, hy, e⟩ := List.mem_map.1 (hm m (List.mem_cons_of_mem _ hmr))
      refine List.mem_map.2 ⟨y, List.mem_filter.2 ⟨hy, decide_eq_true fun c => ?_⟩, e⟩
      exact hnd.1 (by rw [← c, e]; exact List.mem_map.2 ⟨m, hmr, rfl⟩))
    refine ⟨s', ?_, ?_, ?_⟩
    · rw [dropAll_cons, e1, if_neg (by simp)]
      rw [e1] at e2
      exact e2
    · rw [e3, e1]
    · rw [List.filter_filter] at u2
      have e : (L.filter fun y => decide (∀ k ∈ (n :: r).map walName, y.1 ≠ k)) = L.filter fun y => decide (∀ k ∈ r.map walName, y.1 ≠ k) && decide (y.1 ≠ walName n) := by
        refine List.filter_congr fun y _ => ?_
        simp only [List.map_cons, List.forall_mem_cons]
        rw [← Bool.decide_and]
        exact decide_eq_decide.2 ⟨fun c => ⟨c.2, c.1⟩, fun c => ⟨c.2, c.1⟩⟩
      rw [e]
      exact u2
theorem alGet_upd {k : ByteArray} {a b : AreaP} : ∀ {L : Img}, alGet k L = some b → alGet k (upd k a L) = some a
  | [], h => by cases h
  | x :: r, h => by
    unfold upd
    rw [List.map_cons]
    by_cases e : x.1 = k
    · rw [if_pos e, alGet_cons, if_pos rfl]
    · rw [if_neg e, alGet_cons, if_neg (fun c => e c.symm)]
      rw [alGet_cons, if_neg (fun c => e c.symm)] at h
      exact alGet_upd h
theorem upd_same {k : ByteArray} {a : AreaP} : ∀ {L : Img}, (L.map (·.1)).Nodup → alGet k L = some a → upd k a L = L
  | [], _, _ => rfl
  | x :: r, hn, h => by
    have hnd := List.nodup_cons.1 (show (x.1 :: r.map (·.1)).Nodup from hn)
    unfold upd
    rw [List.map_cons]
    rw [alGet_cons] at h
    by_cases e : k = x.1
    · rw [if_pos e] at h
      rw [if_pos e.symm]
      injection h with h
      have h2 := upd_none (L := r) (k := k) (by rw [e]; exact hnd.1) a
      unfold upd at h2
      rw [h2, ← h, e]
    · rw [if_neg e] at h
      rw [if_neg (fun c => e c.symm)]
      have h2 := upd_same hnd.2 h
      unfold upd at h2
      rw [h2]
theorem upd_upd (k : ByteArray) (a b : AreaP) (L : Img) : upd k b (upd k a L) = upd k b L := by
  unfold upd
  rw [List.map_map]
  refine List.map_congr_left fun y _ => ?_
  show (if (if y.1 = k then (k, a) else y).1 = k then _ else _) = _
  by_cases e : y.1 = k
  · rw [if_pos e, if_pos e, if_pos rfl]
  · rw [if_neg e, if_neg e]
theorem datL_upd (k : ByteArray) (a : AreaP) (n : Nat) : ∀ (L : Img), (∀ b, alGet k L = some b → a.data = b.data.take n) → (L.map (·.1)).Nodup → datL (upd k a L) = cutD k n (datL L)
  | [], _, _ => rfl
  | x :: r, h, hn => by
    have hnd := List.nodup_cons.1 (show (x.1 :: r.map (·.1)).Nodup from hn)
    unfold datL upd cutD
    simp only [List.map_cons]
    by_cases e : x.1 = k
    · rw [if_pos e, if_pos e]
      have h1 := h x.2 (by rw [alGet_cons, if_pos e.symm])
      have h2 := upd_none (L := r) (k := k) (by rw [← e]; exact hnd.1) a
      have h3 := cutD_none (k := k) (n := n) (L := datL r) (by rw [← e]; unfold datL; rw [List.map_map]; exact hnd.1)
      unfold upd at h2
      unfold cutD datL at h3
      rw [h2, h3, h1]
    · rw [if_neg e, if_neg e]
      have h2 := datL_upd k a n r (fun b hb => h b (by rw [alGet_cons, if_neg (fun c => e c.symm)]; exact hb)) hnd.2
      unfold datL upd cutD at h2
      rw [h2]
/-- A disk on which nothing is amiss, opened. -/
theorem reopen {s : DS} {L : Img} (h : Up s L) (hok : DOk s) (n : Int) {f : FoundS} (hf : scanL (datL L) = f) (hr : f.rest = []) (hp : f.pieces ≠ []) {b : List UInt8} (hg : alGet (walName (lastP (foundL f n)).1) L = some (full b)) (hgd : f.good = b.length) (hs : sumL L ≤ s.room) : ∃ s', openF s n = (s', some (foundL f n, f.recs), 0) ∧ Up s' L ∧ s'.room = s.room := by
  have hk := nameOk_wal (lastP (foundL f n)).1
  generalize hkk : walName (lastP (foundL f n)).1 = k at *
  have hcut : cutA (full b) (f.good : Int) = full b := by
    unfold cutA full
    rw [hgd]
    simp
  obtain ⟨e1, u1⟩ := h.cut hk hg (n := f.good) (by rw [hgd]; exact Nat.le_refl _)
  rw [hcut, upd_same h.sim.srt.nodup hg] at u1
  have hr1 : (cutF s k (f.good : Int)).1.room = s.room := by rw [e1]; rfl
  rcases u1.sync hk hg with ⟨c, -⟩ | ⟨-, e2, u2⟩
  · rw [hr1] at c
    unfold full at c
    simp only [] at c
    omega
  rw [upd_same h.sim.srt.nodup (show alGet k L = some (full (full b).data) from hg)] at u2
  refine ⟨(syncF (cutF s k (f.good : Int)).1 k).1, ?_, u2, ?_⟩
  · unfold openF
    rw [if_neg (by rw [h.down]; simp), h.scan hok, hf, hr]
    unfold openDrop
    rw [List.reverse_nil, dropAll_nil, if_neg (by simp), if_neg hp, hkk]
    unfold openCut
    rw [show (cutF s k (f.good : Int)).2 = 0 by rw [e1], if_neg (by simp)]
    unfold openSync
    rw [show (syncF (cutF s k (f.good : Int)).1 k).2 = 0 by rw [e2], if_neg (by simp)]
  · rw [e2, ← hr1]
    rfl

theorem dropAll_strays {s : DS} {L : Img} (h : Up s L) : ∃ s' L1, dropAll (scanL (datL L)).rest.reverse s = (s', 0) ∧ s'.room = s.room ∧ Up s' L1 ∧ datL L1 = keepF found0 (datL L) := by
  have hnd : ((datL L).map (·.1)).Nodup := by unfold datL; rw [List.map_map]; exact h.sim.srt.nodup
  have hre := strays_rest (datL L) found0
  have hsub := strays_sub (datL L) found0
  have hsn := (strays_subl (datL L) found0).nodup hnd
  have hrest : (scanL (datL L)).rest = (strays found0 (datL L)).map numberN := hre
  have hmap : (scanL (datL L)).rest.reverse.map walName = (strays found0 (datL L)).reverse := by
    rw [hrest, ← List.map_reverse, List.map_map]
    refine (List.map_congr_left (g := id) fun k hk => ?_).trans (List.map_id _)
    exact number_back (hsub k (List.mem_reverse.1 hk)).2
  obtain ⟨s', e1, e2, u⟩ := up_dropAll (scanL (datL L)).rest.reverse s L h (by rw [hmap]; exact (List.reverse_perm _).nodup_iff.2 hsn) (fun n hn => by
    have hm : walName n ∈ (scanL (datL L)).rest.reverse.map walName := List.mem_map.2 ⟨n, hn, rfl⟩
    rw [hmap] at hm
    have := (hsub _ (List.mem_reverse.1 hm)).1
    unfold datL at this
    rw [List.map_map] at this
    exact this)
  refine ⟨s', _, e1, e2, u, ?_⟩
  rw [hmap]
  unfold datL keepF
  rw [List.filter_map]
  congr 1
  refine List.filter_congr fun y _ => ?_
  exact decide_eq_decide.2 ⟨fun c k hk => c k (List.mem_reverse.2 hk), fun c k hk => c k (List.mem_reverse.1 hk)⟩
theorem scanL_fold (L : Dat) : scanL L = foldS L found0 := rfl
theorem tidy_scanL (L : Dat) : scanL (tidyL found0 L) = calm (scanL L) := tidy_scan L found0

/-- Opened where pieces are: opened again, it is the same. -/
theorem twice_some {s : DS} {L : Img} (h : Up s L) (hok : DOk s) (n : Int) (hp : (scanL (datL L)).pieces ≠ []) (h0 : (openF s n).2.2 = 0) (hdo : DOk (openF s n).1) : ∃ L1 s2, (openF s n).2.1 = some (foundL (scanL (datL L)) n, (scanL (datL L)).recs) ∧ Up (openF s n).1 L1 ∧ openF (openF s n).1 n = (s2, some (foundL (scanL (datL L)) n, (scanL (datL L)).recs), 0) ∧ Up s2 L1 := by
  obtain ⟨t, L1, e1, e2, u, hL1⟩ := dropAll_strays h
  have hop : openF s n = openCut (scanL (datL L)) n (walName (lastP (foundL (scanL (datL L)) n)).1) (cutF t (walName (lastP (foundL (scanL (datL L)) n)).1) ((scanL (datL L)).good : Int)) := by
    unfold openF
    rw [if_neg (by rw [h.down]; simp), h.scan hok]
    unfold openDrop
    rw [e1, if_neg (by simp), if_neg hp]
  have hnd : ((datL L).map (·.1)).Nodup := by unfold datL; rw [List.map_map]; exact h.sim.srt.nodup
  have hkc := keep_cut (datL L) found0 hnd (by
    intro e
    apply hp
    have e2 : (foldS (datL L) found0).pieces.length = 0 := e
    exact List.eq_nil_of_length_eq_zero e2)
  have htd := tidy_scanL (datL L)
  rw [← scanL_fold] at hkc
  have hfl : (lastP (foundL (scanL (datL L)) n)).1 = ((scanL (datL L)).pieces.getLastD (0, 0)).1 := rfl
  rw [← hfl] at hkc
  have hfl2 : lastP (foundL (calm (scanL (datL L))) n) = lastP (foundL (scanL (datL L)) n) := rfl
  have hk := nameOk_wal (lastP (foundL (scanL (datL L)) n)).1
  generalize hkk : walName (lastP (foundL (scanL (datL L)) n)).1 = k at *
  generalize hff : scanL (datL L) = f at *
  rw [hop] at h0 hdo ⊢
  unfold openCut at h0 hdo ⊢
  have hg : ∃ a, alGet k L1 = some a := by
    cases hg : alGet k L1 with
    | some a => exact ⟨a, rfl⟩
    | none =>
      have e : (cutF t k (f.good : Int)).2 = 41 := by
        unfold cutF
        rw [bars_none u.down hk (by rw [u.get]; exact hg), if_pos (by simp)]
      rw [e, if_pos (by simp)] at h0
      exact absurd h0 (by simp)
  obtain ⟨a, hg⟩ := hg
  have hle : f.good ≤ a.data.length := by
    by_cases hle : f.good ≤ a.data.length
    · exact hle
    · have e : (cutF t k (f.good : Int)).2 = 1 := by
        unfold cutF
        have hz : get0 k t.areas = a := by unfold get0; rw [u.get, hg]; rfl
        rw [bars_up u.down hk (fun _ => by rw [u.get, hg]; simp), if_neg (by simp), hz, if_pos (by omega)]
      rw [e, if_pos (by simp)] at h0
      exact absurd h0 (by simp)
  obtain ⟨c1, u1⟩ := u.cut hk hg hle
  have hc0 : (cutF t k (f.good : Int)).2 = 0 := by rw [c1]
  rw [hc0, if_neg (by simp)] at h0 hdo ⊢
  have hg1 : alGet k (upd k (cutA a (f.good : Int)) L1) = some (cutA a (f.good : Int)) := alGet_upd hg
  unfold openSync at h0 hdo ⊢
  rcases u1.sync hk hg1 with ⟨-, c2⟩ | ⟨hroom, c2, u2⟩
  · rw [c2, if_pos (by simp)] at h0
    exact absurd h0 (by simp)
  have hc2 : (syncF (cutF t k (f.good : Int)).1 k).2 = 0 := by rw [c2]
  rw [hc2, if_neg (by simp)] at hdo ⊢
  rw [upd_upd] at u2
  have hdat : (cutA a (f.good : Int)).data = a.data.take f.good := by unfold cutA; simp
  have hg2 : alGet k (upd k (full (cutA a (f.good : Int)).data) L1) = some (full (cutA a (f.good : Int)).data) := alGet_upd hg
  have hn1 : (L1.map (·.1)).Nodup := u.sim.srt.nodup
  have hD : datL (upd k (full (cutA a (f.good : Int)).data) L1) = tidyL found0 (datL L) := by
    rw [datL_upd k _ f.good L1 (fun b hb => by
      rw [hg] at hb
      injection hb with hb
      rw [← hb]
      exact hdat) hn1, hL1]
    exact hkc
  have hsum : sumL (upd k (full (cutA a (f.good : Int)).data) L1) ≤ (syncF (cutF t k (f.good : Int)).1 k).1.room := by
    have hs1 := u2.sim.sum
    have hs2 := u1.sim.sum
    have hz : get0 k (cutF t k (f.good : Int)).1.areas = cutA a (f.good : Int) := by unfold get0; rw [u1.get, hg1]; rfl
    rw [hs1, c2]
    show sumF (alPut k (full (cutA a (f.good : Int)).data) (cutF t k (f.good : Int)).1.areas) ≤ (cutF t k (f.good : Int)).1.room
    rw [sumF_put, hz]
    rw [hs2] at hroom
    unfold full
    simp only []
    omega
  obtain ⟨s2, r1, r2, -⟩ := reopen u2 hdo n (hD ▸ htd) rfl (show (calm f).pieces ≠ [] from hp) (b := (cutA a (f.good : Int)).data) (by rw [hfl2, hkk]; exact hg2) (by
    show f.good = _
    rw [hdat, List.length_take]
    omega) hsum
  exact ⟨_, s2, rfl, u2, r1, r2⟩

end Go.Proofs.YtigdhdclfdojgaaGreat
