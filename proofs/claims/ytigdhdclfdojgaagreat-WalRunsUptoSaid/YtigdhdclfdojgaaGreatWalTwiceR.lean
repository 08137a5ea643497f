/-
  wal: OPENED TWICE where no piece is.
-/
import Derived.Test.YtigdhdclfdojgaaGreatWalTwiceQ
namespace Go.Proofs.YtigdhdclfdojgaaGreat
open Go.RowKit

theorem tidy_plain : ∀ (L : Dat) (f : FoundS), (foldS L f).pieces.length = f.pieces.length → ∀ x ∈ tidyL f L, numberN x.1 = 0
  | [], _, _, x, h => by cases h
  | y :: r, f, hg, x, hx => by
    unfold tidyL at hx
    rw [foldS_cons] at hg
    by_cases h0 : numberN y.1 = 0
    · rw [if_pos h0] at hx
      rw [scan1_eq, if_pos h0] at hg
      rcases List.mem_cons.1 hx with e | e
      · rw [e]; exact h0
      · exact tidy_plain r f hg x e
    rw [if_neg h0] at hx
    by_cases hs : strayB f y.1 y.2
    · rw [if_pos hs] at hx
      refine tidy_plain r _ ?_ x hx
      rw [hg, scan1_eq, if_neg h0, if_pos hs]
    · exfalso
      obtain ⟨t, h1, -, -⟩ := foldS_ext r (scan1 f y.1 y.2)
      rw [h1, scan1_eq, if_neg h0, if_neg hs] at hg
      unfold tookF at hg
      simp at hg
theorem foldS_plain : ∀ (L : Dat) (f : FoundS), (∀ x ∈ L, numberN x.1 = 0) → foldS L f = f
  | [], _, _ => rfl
  | x :: r, f, h => by
    rw [foldS_cons, scan1_eq, if_pos (h x (List.mem_cons_self ..))]
    exact foldS_plain r f (fun y hy => h y (List.mem_cons_of_mem _ hy))
theorem foldS_ins (k : ByteArray) (a : AreaP) : ∀ (L : Img) (f : FoundS), (∀ x ∈ datL L, numberN x.1 = 0) → foldS (datL (ins (k, a) L)) f = scan1 f k a.data
  | [], _, _ => rfl
  | x :: r, f, h => by
    unfold ins
    by_cases e : toL x.1 < toL (k, a).1
    · rw [if_pos e]
      show foldS ((x.1, x.2.data) :: datL (ins (k, a) r)) f = _
      rw [foldS_cons, scan1_eq, if_pos (h _ (List.mem_cons_self ..))]
      exact foldS_ins k a r f (fun y hy => h y (List.mem_cons_of_mem _ hy))
    · rw [if_neg e]
      show foldS ((k, a.data) :: datL ((x :: r).filter fun y => decide (y.1 ≠ k))) f = _
      rw [foldS_cons]
      refine foldS_plain _ _ fun y hy => ?_
      unfold datL at hy
      obtain ⟨z, hz, e2⟩ := List.mem_map.1 hy
      have h2 := h (z.1, z.2.data) (List.mem_map.2 ⟨z, (List.mem_filter.1 hz).1, rfl⟩)
      rw [← e2]
      exact h2
def newS : FoundS := ⟨[(1, 1)], [], 1, (headerL 1 1).length, true, []⟩
theorem header_small (a b : Nat) : (numL a ++ numL b).length ≤ 8192 := by
  have h2 := sizeN_le a
  have h3 := sizeN_le b
  rw [List.length_append, length_numL, length_numL]
  omega
theorem split_header (a b : Nat) : splitL (headerL a b) = [numL a ++ numL b] := by
  have h := splitL_frame (numL a ++ numL b) [] (header_small a b)
  rw [List.append_nil, splitL_nil] at h
  exact h
theorem scan1_new : scan1 found0 (walName 1) (headerL 1 1) = newS := by
  have hb := begins_header 1 1 (by omega) (by omega) (by omega)
  have hn := number_of 1 (by omega)
  have hf : (frames (splitL (headerL 1 1))).length = (headerL 1 1).length := by
    rw [split_header, frames_cons, frames_nil, List.append_nil]
    rfl
  have hh : headOf (splitL (headerL 1 1)) 1 = (1, true) := by
    rw [split_header]
    exact hb
  rw [scan1_eq, hn, if_neg (by omega), if_neg]
  · unfold tookF
    rw [hn, hh, hf, split_header]
    simp [newS, found0, numbered]
  · unfold strayB
    rw [hn, hh]
    simp [found0]
theorem foundL_new (n : Int) : foundL newS n = beginOk (freshL n) 1 1 := rfl
theorem twice_none {s : DS} {L : Img} (h : Up s L) (hok : DOk s) (n : Int) (hp : (scanL (datL L)).pieces = []) (h0 : (openF s n).2.2 = 0) (hdo : DOk (openF s n).1) : ∃ L1 s2, (openF s n).2.1 = some (foundL newS n, []) ∧ Up (openF s n).1 L1 ∧ openF (openF s n).1 n = (s2, some (foundL newS n, []), 0) ∧ Up s2 L1 := by
  obtain ⟨t, L1, e1, e2, u, hL1⟩ := dropAll_strays h
  have hop : openF s n = openNew (beginF t (freshL n) 1 1) := by
    unfold openF
    rw [if_neg (by rw [h.down]; simp), h.scan hok]
    unfold openDrop
    rw [e1, if_neg (by simp), if_pos hp]
  have hnd : ((datL L).map (·.1)).Nodup := by unfold datL; rw [List.map_map]; exact h.sim.srt.nodup
  have hlen : (foldS (datL L) found0).pieces.length = found0.pieces.length := by
    show (scanL (datL L)).pieces.length = 0
    rw [hp]
    rfl
  have hpl := tidy_plain (datL L) found0 hlen
  rw [← keep_none _ _ hnd hlen, ← hL1] at hpl
  have hno : alGet (walName 1) L1 = none := by
    refine (alGet_none _ _).2 fun c => ?_
    obtain ⟨y, hy, e⟩ := List.mem_map.1 c
    have h1 := hpl (y.1, y.2.data) (List.mem_map.2 ⟨y, hy, rfl⟩)
    simp only [] at h1
    rw [e, number_of 1 (by omega)] at h1
    omega
  have hz := get0_none hno
  have hhl := headerL_len 1 1
  rw [hop] at h0 hdo ⊢
  have hk := nameOk_wal 1
  have hsc := scan1_new
  have hfn := foundL_new n
  unfold newS at hsc hfn ⊢
  generalize hkk : walName 1 = k at *
  have hb0 : (beginF t (freshL n) 1 1).2.2 = 0 := by
    unfold openNew at h0
    by_cases c : (beginF t (freshL n) 1 1).2.2 = 0
    · exact c
    · rw [if_pos c] at h0
      exact absurd h0 c
  have hopn : openNew (beginF t (freshL n) 1 1) = ((beginF t (freshL n) 1 1).1, some ((beginF t (freshL n) 1 1).2.1, []), 0) := by
    unfold openNew
    rw [if_neg (by rw [hb0]; simp)]
  rw [hopn] at hdo ⊢
  simp only [] at hdo ⊢
  have hap : L1.length < 64 := by
    by_cases c : L1.length < 64
    · exact c
    · exfalso
      have e : (appendF t k (headerL 1 1)).2 = 43 := by
        unfold appendF
        rw [bars_up u.down hk (fun e => by simp at e), if_neg (by simp), if_pos ⟨by rw [u.get]; exact hno, by rw [← u.sim.len]; omega⟩]
      unfold beginF at hb0
      rw [hkk, e, if_pos (by simp)] at hb0
      simp at hb0
  obtain ⟨a1, u1⟩ := u.append hk (Or.inr hap) (d := headerL 1 1) (by rw [hz]; simp only [List.length_nil]; omega)
  rw [hz] at a1 u1
  simp only [List.nil_append] at a1 u1
  have ha0 : (appendF t k (headerL 1 1)).2 = 0 := by rw [a1]
  have hg1 : alGet k (ins (k, ⟨headerL 1 1, 0⟩) L1) = some ⟨headerL 1 1, 0⟩ := by rw [get_ins, if_pos rfl]
  have hbe : beginF t (freshL n) 1 1 = beginB (syncF (appendF t k (headerL 1 1)).1 k) (freshL n) 1 1 := by
    unfold beginF
    rw [hkk, ha0, if_neg (by simp)]
  rw [hbe] at hb0 hdo ⊢
  rcases u1.sync hk hg1 with ⟨-, c2⟩ | ⟨hroom, c2, u2⟩
  · exfalso
    unfold beginB at hb0
    rw [c2, if_pos rfl] at hb0
    split at hb0
    · rename_i c
      exact c hb0
    · simp at hb0
  have hc2 : (syncF (appendF t k (headerL 1 1)).1 k).2 = 0 := by rw [c2]
  have hbb : beginB (syncF (appendF t k (headerL 1 1)).1 k) (freshL n) 1 1 = ((syncF (appendF t k (headerL 1 1)).1 k).1, beginOk (freshL n) 1 1, 0) := by
    unfold beginB
    rw [if_neg (by rw [hc2]; simp), if_neg (by rw [hc2]; simp)]
  rw [hbb] at hdo ⊢
  simp only [] at hdo ⊢
  rw [← hfn]
  have hsum : sumL (upd k (full (headerL 1 1)) (ins (k, ⟨headerL 1 1, 0⟩) L1)) ≤ (syncF (appendF t k (headerL 1 1)).1 k).1.room := by
    have hs1 := u2.sim.sum
    have hs2 := u1.sim.sum
    have hz1 : get0 k (appendF t k (headerL 1 1)).1.areas = ⟨headerL 1 1, 0⟩ := by unfold get0; rw [u1.get, hg1]; rfl
    simp only [] at hs1
    rw [hs1, c2]
    show sumF (alPut k (full (headerL 1 1)) (appendF t k (headerL 1 1)).1.areas) ≤ (appendF t k (headerL 1 1)).1.room
    rw [sumF_put, hz1]
    rw [hs2] at hroom
    unfold full
    simp only [] at hroom ⊢
    omega
  have hD : scanL (datL (upd k (full (headerL 1 1)) (ins (k, ⟨headerL 1 1, 0⟩) L1))) = ⟨[(1, 1)], [], 1, (headerL 1 1).length, true, []⟩ := by
    have hnn : ((ins (k, ⟨headerL 1 1, 0⟩) L1).map (·.1)).Nodup := u1.sim.srt.nodup
    rw [datL_upd k _ (headerL 1 1).length _ (fun b hb => by
      rw [hg1] at hb
      injection hb with hb
      rw [← hb]
      unfold full
      simp only [List.take_length]) hnn]
    have hcd : cutD k (headerL 1 1).length (datL (ins (k, ⟨headerL 1 1, 0⟩) L1)) = datL (ins (k, ⟨headerL 1 1, 0⟩) L1) := by
      have h5 := datL_upd k ⟨headerL 1 1, 0⟩ (headerL 1 1).length (ins (k, ⟨headerL 1 1, 0⟩) L1) (fun b hb => by
        rw [hg1] at hb
        injection hb with hb
        rw [← hb]
        simp only [List.take_length]) hnn
      rw [← h5, upd_same hnn hg1]
    rw [hcd, scanL_fold, foldS_ins _ _ _ _ hpl]
    exact hsc
  have hl : walName (lastP (foundL ⟨[(1, 1)], [], 1, (headerL 1 1).length, true, []⟩ n)).1 = k := hkk
  obtain ⟨s2, r1, r2, -⟩ := reopen u2 hdo n hD rfl (by simp) (b := headerL 1 1) (by rw [hl]; exact alGet_upd hg1) rfl hsum
  exact ⟨_, s2, rfl, u2, r1, r2⟩
theorem scan_recs (M : Nat) : ∀ (L : Dat) (f : FoundS) (j : Nat), f.recs.length ≤ j * M → (∀ x ∈ L, x.2.length ≤ M) → (foldS L f).recs.length ≤ (j + L.length) * M
  | [], _, _, h, _ => h
  | x :: r, f, j, h, hx => by
    rw [foldS_cons]
    have h1 : (scan1 f x.1 x.2).recs.length ≤ (j + 1) * M := by
      have hb := hx x (List.mem_cons_self ..)
      have h2 := split_count x.2
      rw [Nat.add_mul, Nat.one_mul, scan1_eq]
      split
      · omega
      · split
        · simp only []; omega
        · unfold tookF
          simp only [List.length_append, numbered_len, List.length_tail]
          omega
    have h2 := scan_recs M r _ (j + 1) h1 (fun y hy => hx y (List.mem_cons_of_mem _ hy))
    rw [List.length_cons]
    rw [show j + (r.length + 1) = j + 1 + r.length by omega]
    exact h2
/-- Opened twice. -/
theorem open_twice {s : DS} {L : Img} (h : Up s L) (hok : DOk s) (hsm : SmallD s) (n : Int) (h0 : (openF s n).2.2 = 0) (hdo : DOk (openF s n).1) : ∃ l recs L1 s2, (LOk l ∧ recs.length ≤ 268435456) ∧ (openF s n).2.1 = some (l, recs) ∧ Up (openF s n).1 L1 ∧ openF (openF s n).1 n = (s2, some (l, recs), 0) ∧ Up s2 L1 := by
  by_cases hp : (scanL (datL L)).pieces = []
  · obtain ⟨L1, s2, a, b, c, d⟩ := twice_none h hok n hp h0 hdo
    have hh := headerL_len 1 1
    exact ⟨_, _, L1, s2, ⟨foundL_ok ⟨by simp [newS], by simp [newS], by simp [newS], by simp [newS], by simp [newS], by simp [newS], by unfold newS; simp only []; omega⟩ (by simp [newS]) n, by simp⟩, a, b, c, d⟩
  · obtain ⟨L1, s2, a, b, c, d⟩ := twice_some h hok n hp h0 hdo
    have hb := scanF_bd hok hsm.read
    rw [h.scan hok] at hb
    have hr := scan_recs 4194304 (datL L) found0 0 (by simp [found0]) (fun x hx => by
      unfold datL at hx
      obtain ⟨y, hy, rfl⟩ := List.mem_map.1 hx
      exact hsm y (h.sim.perm.subset hy))
    have hl : (datL L).length ≤ 64 := by unfold datL; rw [List.length_map, h.sim.len]; exact hok.len
    rw [← scanL_fold] at hr
    exact ⟨_, _, L1, s2, ⟨foundL_ok hb hp n, by omega⟩, a, b, c, d⟩
theorem openF_steps {s : DS} (hok : DOk s) (hsm : SmallD s) (n : Int) : (openF s n).1.steps ≤ s.steps + 70 := by
  have hb := (scanF_bd hok hsm.read).rest
  unfold openF
  split
  · show s.steps ≤ _; omega
  · have h1 := dropAll_steps (scanF s).rest.reverse s
    rw [List.length_reverse] at h1
    generalize dropAll (scanF s).rest.reverse s = t at *
    unfold openDrop
    split
    · show t.1.steps ≤ _; omega
    · split
      · have h2 := beginF_steps t.1 (freshL n) 1 1
        unfold openNew
        split
        · show (beginF t.1 (freshL n) 1 1).1.steps ≤ _; omega
        · show (beginF t.1 (freshL n) 1 1).1.steps ≤ _; omega
      · have h2 := cutF_steps t.1 (walName (lastP (foundL (scanF s) n)).1) ((scanF s).good : Int)
        unfold openCut
        split
        · show (cutF t.1 (walName (lastP (foundL (scanF s) n)).1) ((scanF s).good : Int)).1.steps ≤ _; omega
        · have h3 := syncF_steps (cutF t.1 (walName (lastP (foundL (scanF s) n)).1) ((scanF s).good : Int)).1 (walName (lastP (foundL (scanF s) n)).1)
          unfold openSync
          split
          · show (syncF (cutF t.1 (walName (lastP (foundL (scanF s) n)).1) ((scanF s).good : Int)).1 (walName (lastP (foundL (scanF s) n)).1)).1.steps ≤ _; omega
          · show (syncF (cutF t.1 (walName (lastP (foundL (scanF s) n)).1) ((scanF s).good : Int)).1 (walName (lastP (foundL (scanF s) n)).1)).1.steps ≤ _; omega
/-- A disk that was mounted. -/
theorem mountL_small : ∀ (As : Img) (s : DS), SmallD s → (∀ x ∈ As, x.2.data.length ≤ 4194304) → SmallD (mountL As s).1
  | [], _, h, _ => h
  | x :: r, s, h, hx => by
    unfold mountL
    split
    · exact h
    · exact mountL_small r _ (h.put _ _ (hx x (List.mem_cons_self ..))) (fun y hy => hx y (List.mem_cons_of_mem _ hy))
theorem mount_up (room : Int) (As : Img) (hx : ∀ x ∈ As, x.2.data.length ≤ 4194304) (h0 : (mountF room As).2 = 0) : (∃ L, Up (mountF room As).1 L) ∧ SmallD (mountF room As).1 := by
  obtain ⟨-, hsim⟩ := mount_sim room As
  have hr := mountL_room As (newF room)
  have hs := mountL_small As (newF room) (SmallD.new room) hx
  have he : (mountF room As).1 = (mountL As (newF room)).1 := by
    unfold mountF at h0 ⊢
    split
    · rename_i c
      rw [if_pos c] at h0
      simp at h0
    · rename_i c
      rw [if_neg c] at h0
      split
      · rfl
      · split
        · rfl
        · rfl
  rw [he] at hsim ⊢
  exact ⟨⟨_, hsim.a, hr.2.2.2, hr.2.2.1⟩, hs⟩

end Go.Proofs.YtigdhdclfdojgaaGreat
