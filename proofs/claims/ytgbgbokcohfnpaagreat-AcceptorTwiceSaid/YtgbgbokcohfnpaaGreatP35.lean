/-
  The texts CrS, StnQ, StnR in one: what the claim reaches of them.
-/
import Derived.Test.YtgbgbokcohfnpaaGreatP34
import Derived.Test.YtgbgbokcohfnpaaGreatP32
/-
  PLAIN: a log behind a loss of power and its opening.
-/
namespace Go.Proofs.YtgbgbokcohfnpaaGreat
open Go.RowKit

/-- All records are safe, the power is on, no fuse burns. -/
structure LgA (lim : Nat) (s : DS) (l : LogP) (F : Nat) (D : List (List UInt8)) : Prop where
  ex : ∃ ps p, LgU lim s l F ps p (pieceD p).length ∧ D = allOf ps ++ p.recs
  fuse : s.fuse = 0
theorem LgA.lgs {lim : Nat} {s : DS} {l : LogP} {F : Nat} {D : List (List UInt8)} (h : LgA lim s l F D) : LgS lim s l F D D.length := by
  obtain ⟨ps, p, h1, h2⟩ := h.ex
  exact ⟨ps, p, _, false, p.recs.length, h1.lgp, h2, Nat.le_refl _, by rw [till_all]; exact Int.le_refl _, by rw [h2, List.length_append]; exact Nat.le_refl _⟩
theorem LgA.down {lim : Nat} {s : DS} {l : LogP} {F : Nat} {D : List (List UInt8)} (h : LgA lim s l F D) : s.down = false := by
  obtain ⟨ps, p, h1, -⟩ := h.ex
  exact h1.im.down
theorem datL_last (ps : List PcS) (k : ByteArray) (a : AreaP) : datL (fullImg ps ++ [(k, a)]) = datOf ps ++ [(k, a.data)] := by
  unfold datL fullImg datOf full
  rw [List.map_append, List.map_map]
  rfl
theorem fullImg_cut (ps : List PcS) (f : ByteArray → Nat) (h : ∀ x ∈ fullImg ps, x.2.safe ≤ (f x.1 : Int) ∧ f x.1 ≤ x.2.data.length) : (fullImg ps).map (fun x => (x.1, cutTo x.2 (f x.1))) = fullImg ps := by
  refine (List.map_congr_left (g := id) fun x hx => ?_).trans (List.map_id _)
  obtain ⟨h1, h2⟩ := h x hx
  obtain ⟨y, -, rfl⟩ := List.mem_map.1 hx
  unfold full at h1 h2
  simp only [] at h1 h2
  have e : f (walName y.num) = (pieceD y).length := by omega
  show (walName y.num, cutTo (full (pieceD y)) (f (walName y.num))) = _
  rw [e]
  unfold cutTo full
  simp only [List.take_length]
  rfl
theorem sum_full_last (ps : List PcS) (k : ByteArray) (a : AreaP) : sumL (fullImg ps ++ [(k, a)]) = sumL (fullImg ps) + a.safe := by
  rw [sumL_append]
  simp [sumL]
theorem crashF_steps9 (s : DS) (keep : List Int) : (crashF s keep).steps = s.steps := (crashUp_room _ keep s _).2
theorem LgS.crash {lim : Nat} {s : DS} {l : LogP} {F : Nat} {D : List (List UInt8)} {k : Nat} (h : LgS lim s l F D k) (keep : List Int) {n : Int} (hn : limF n = lim) (hst : s.steps < 4611686018427370000) :
    ∃ m s' l', k ≤ m ∧ m ≤ D.length ∧ openF (crashF s keep) n = (s', some (l', numbered F (D.take m)), 0) ∧ LgA lim s' l' F (D.take m) ∧ s'.steps ≤ s.steps + 4 ∧ s'.room = s.room := by
  obtain ⟨ps, p, sf, nw, j, hp, hD, hj, hsf, hk⟩ := h.ex
  obtain ⟨f, u, hf, ok, hr, hsum⟩ := hp.im.crash hp.ok hp.fits keep
  have hcs := crashF_steps9 s keep
  have hpk := hp.each p (by simp)
  have hfp : ∀ x ∈ fullImg ps, x.2.safe ≤ (f x.1 : Int) ∧ f x.1 ≤ x.2.data.length := fun x hx => hf x (List.mem_append_left _ (List.mem_append_left _ hx))
  have hlast := hf (lastA p sf) (List.mem_append_left _ (List.mem_append_right _ (List.mem_singleton.2 rfl)))
  have hne := names_lt hp.each hp.lt
  rw [List.map_append, List.map_append, fullImg_cut ps f hfp] at u hsum
  have hl1 : [lastA p sf].map (fun x => (x.1, cutTo x.2 (f x.1))) = [(walName p.num, cutTo ⟨pieceD p, sf⟩ (f (walName p.num)))] := rfl
  rw [hl1] at u hsum
  have hlast1 : sf ≤ (f (walName p.num) : Int) := hlast.1
  have hlast2 : f (walName p.num) ≤ (pieceD p).length := hlast.2
  clear hlast hf hl1
  generalize crashF s keep = t at *
  cases nw with
  | false =>
    rw [show nwImg p false = [] from rfl, List.map_nil, List.append_nil] at u hsum
    generalize f (walName p.num) = n0 at *
    obtain ⟨nx, g, e1, e2⟩ := fold_full ((chain_append ps [p] F).1 hp.chain).1 (fun x hx => hp.each x (List.mem_append_left _ hx))
    have hpf : p.first = endOf F ps := ((chain_append ps [p] F).1 hp.chain).2.1
    obtain ⟨i, i1, i2, i3, i4, i5⟩ := scan_cut hpk hj (n := n0) (by omega) (f := ⟨heads ps, recsOf ps, nx, g, true, []⟩) rfl (by
      rcases e2 with e2 | e2
      · left; rw [e2]; rfl
      · right; rw [hpf]; exact e2)
    have hsc : scanL (datL (fullImg ps ++ [(walName p.num, cutTo ⟨pieceD p, sf⟩ n0)])) = ⟨heads ps ++ [(p.num, p.first)], recsOf ps ++ numbered p.first (p.recs.take i), p.first + i, (pieceD (tillP p i)).length, decide ((pieceD (tillP p i)).length = ((pieceD p).take n0).length), []⟩ := by
      rw [datL_last, scanL_fold, foldS_append, e1]
      exact i5
    have hlp : lastP (foundL ⟨heads ps ++ [(p.num, p.first)], recsOf ps ++ numbered p.first (p.recs.take i), p.first + i, (pieceD (tillP p i)).length, decide ((pieceD (tillP p i)).length = ((pieceD p).take n0).length), []⟩ n) = (p.num, p.first) := by
      unfold lastP foundL
      simp
    have hupd : upd (walName p.num) (full (((pieceD p).take n0).take (pieceD (tillP p i)).length)) (fullImg ps ++ [(walName p.num, cutTo ⟨pieceD p, sf⟩ n0)]) = fullImg ps ++ [lastA (tillP p i) (pieceD (tillP p i)).length] := by
      rw [upd_last hne, i4]
      rfl
    have hlen0 : ((pieceD p).take n0).length ≤ n0 := by rw [List.length_take]; omega
    have hsn : sumL (fullImg ps ++ [lastA (tillP p i) (pieceD (tillP p i)).length]) ≤ s.room := by
      rw [sum_full_last] at hsum
      rw [sum_last]
      have : (cutTo (⟨pieceD p, sf⟩ : AreaP) n0).safe = (n0 : Int) := rfl
      omega
    obtain ⟨s', o1, o2, o3, o4, o5⟩ := open_cut u ok n hsc (by simp) (s1 := t) rfl u ok rfl (by omega) (by rw [hlp]; exact get_last hne) i3 (by show ((pieceD (tillP p i)).length : Int) ≤ (n0 : Int); omega) (by
      rw [hlp]
      show sumL (upd (walName p.num) (full (((pieceD p).take n0).take (pieceD (tillP p i)).length)) _) ≤ _
      rw [hupd, hr]
      exact hsn)
    rw [hlp] at o2
    have o2 : Up s' (fullImg ps ++ [lastA (tillP p i) (pieceD (tillP p i)).length]) := by
      rw [← hupd]; exact o2
    have hil : (p.recs.take i).length = i := by rw [List.length_take]; omega
    have hDm : D.take ((allOf ps).length + i) = allOf ps ++ (tillP p i).recs := by
      rw [hD, List.take_append, List.take_of_length_le (by omega), show (allOf ps).length + i - (allOf ps).length = i by omega]
      rfl
    have hch : Chain F (ps ++ [tillP p i]) := by
      have hc := (chain_append ps [p] F).1 hp.chain
      exact (chain_append ps _ F).2 ⟨hc.1, hc.2.1, trivial⟩
    have hrc : recsOf ps ++ numbered p.first (p.recs.take i) = numbered F (D.take ((allOf ps).length + i)) := by
      rw [hDm, ← allOf_snoc, ← recs_chain _ _ hch]
      simp [recsOf_snoc, tillP]
    refine ⟨(allOf ps).length + i, s', _, by omega, by rw [hD, List.length_append]; omega, by rw [o1]; show (s', some (_, recsOf ps ++ numbered p.first (p.recs.take i)), 0) = _; rw [hrc], ?_, by omega, by omega⟩
    refine ⟨⟨ps, tillP p i, ⟨⟨o2.sim, o2.down⟩, o4, ?_, ?_, hch, hp.lt, hp.inc, ⟨by omega, Int.le_refl _⟩, by rw [o3, hr]; exact hsn, ?_, hp.lim6⟩, hDm⟩, o2.fuse⟩
    · unfold foundL
      rw [hn, heads_snoc]
      show LogP.mk _ _ _ _ _ = LogP.mk _ _ _ _ _
      rw [show (tillP p i).recs.length = i from hil]
      rfl
    · intro x hx
      rcases List.mem_append.1 hx with hx | hx
      · exact hp.each x (List.mem_append_left _ hx)
      · rw [List.mem_singleton.1 hx]
        exact ⟨hpk.num, hpk.first, fun d hd => hpk.recs d (List.mem_of_mem_take hd)⟩
    · have := hp.size
      omega
  | true =>
    obtain ⟨q1, q2, q3⟩ := hp.nwok rfl
    have hn0 : f (walName p.num) = (pieceD p).length := by omega
    rw [hn0] at u hsum
    have hH := headerL_len (p.num + 1) (p.first + p.recs.length)
    have hc0 : cutTo (⟨pieceD p, sf⟩ : AreaP) (pieceD p).length = full (pieceD p) := by
      unfold cutTo full
      simp only [List.take_length]
    rw [hc0, ← show lastA p (pieceD p).length = (walName p.num, full (pieceD p)) from rfl, ← fullImg_snoc] at u hsum
    have hl2 : (nwImg p true).map (fun x => (x.1, cutTo x.2 (f x.1))) = [(walName (p.num + 1), cutTo ⟨headerL (p.num + 1) (p.first + p.recs.length), 0⟩ (f (walName (p.num + 1))))] := rfl
    rw [hl2] at u hsum
    generalize f (walName (p.num + 1)) = n1 at *
    have hne1 : ∀ x ∈ fullImg (ps ++ [p]), x.1 ≠ walName (p.num + 1) := by
      intro x hx e
      obtain ⟨y, hy, rfl⟩ := List.mem_map.1 hx
      have h2 := congrArg numberN e
      simp only [] at h2
      rw [number_of _ (hp.each y hy).num.2, number_of _ q1] at h2
      rcases List.mem_append.1 hy with hy | hy
      · have := hp.lt y hy; omega
      · rw [List.mem_singleton.1 hy] at h2; omega
    have hsc := scan_chain (ps ++ [p]) F found0 rfl (Or.inl rfl) hp.chain hp.each (by simp)
    have hgl : (ps ++ [p]).getLast (by simp) = p := by simp
    rw [hgl] at hsc
    have hen : endOf F (ps ++ [p]) = p.first + p.recs.length := by rw [end_chain, allOf_snoc, chain_last hp.chain, List.length_append]; omega
    rw [hen] at hsc
    have hrs := recs_chain _ _ hp.chain
    have hDa : D = allOf ps ++ p.recs := hD
    have hDt : D.take D.length = D := List.take_length
    have hf1 := hpk.first.1
    rcases scan_new (num := p.num + 1) (first := p.first + p.recs.length) ⟨by omega, q1⟩ ⟨by omega, q2⟩ n1 (f := ⟨heads (ps ++ [p]), recsOf (ps ++ [p]), p.first + p.recs.length, (pieceD p).length, true, []⟩) (by simp [heads]) with ⟨-, -, z1, z2⟩ | z2
    · -- the new piece is there whole
      have hsc2 : scanL (datL (fullImg (ps ++ [p]) ++ [(walName (p.num + 1), cutTo ⟨headerL (p.num + 1) (p.first + p.recs.length), 0⟩ n1)])) = ⟨heads (ps ++ [p]) ++ [(p.num + 1, p.first + p.recs.length)], recsOf (ps ++ [p]), p.first + p.recs.length, (headerL (p.num + 1) (p.first + p.recs.length)).length, true, []⟩ := by
        rw [datL_last, scanL_fold, foldS_append, hsc]
        exact z2
      have hlp : lastP (foundL ⟨heads (ps ++ [p]) ++ [(p.num + 1, p.first + p.recs.length)], recsOf (ps ++ [p]), p.first + p.recs.length, (headerL (p.num + 1) (p.first + p.recs.length)).length, true, []⟩ n) = (p.num + 1, p.first + p.recs.length) := by
        unfold lastP foundL
        simp
      have hn1 : (headerL (p.num + 1) (p.first + p.recs.length)).length ≤ n1 := by
        have := congrArg List.length z1
        rw [List.length_take] at this
        omega
      have hpn := pieceD_next p
      have hupd : upd (walName (p.num + 1)) (full (((headerL (p.num + 1) (p.first + p.recs.length)).take n1).take (headerL (p.num + 1) (p.first + p.recs.length)).length)) (fullImg (ps ++ [p]) ++ [(walName (p.num + 1), cutTo ⟨headerL (p.num + 1) (p.first + p.recs.length), 0⟩ n1)]) = fullImg (ps ++ [p]) ++ [lastA (nextP p) (pieceD (nextP p)).length] := by
        rw [upd_last hne1, z1, List.take_length]
        unfold lastA
        rw [hpn]
        rfl
      have hsn : sumL (fullImg (ps ++ [p]) ++ [lastA (nextP p) (pieceD (nextP p)).length]) ≤ s.room := by
        rw [sum_full_last] at hsum
        rw [sum_last, hpn]
        have : (cutTo (⟨headerL (p.num + 1) (p.first + p.recs.length), 0⟩ : AreaP) n1).safe = (n1 : Int) := rfl
        omega
      obtain ⟨s', o1, o2, o3, o4, o5⟩ := open_cut u ok n hsc2 (by simp) (s1 := t) rfl u ok rfl (by omega) (by rw [hlp]; exact get_last hne1) (by show _ ≤ ((headerL (p.num + 1) (p.first + p.recs.length)).take n1).length; rw [z1]; exact Nat.le_refl _) (by show ((headerL (p.num + 1) (p.first + p.recs.length)).length : Int) ≤ (n1 : Int); omega) (by
        rw [hlp]
        show sumL (upd (walName (p.num + 1)) (full (((headerL (p.num + 1) (p.first + p.recs.length)).take n1).take (headerL (p.num + 1) (p.first + p.recs.length)).length)) _) ≤ _
        rw [hupd, hr]
        exact hsn)
      rw [hlp] at o2
      have o2 : Up s' (fullImg (ps ++ [p]) ++ [lastA (nextP p) (pieceD (nextP p)).length]) := by
        rw [← hupd]; exact o2
      have hnr : (nextP p).recs = [] := rfl
      refine ⟨D.length, s', _, h.le, Nat.le_refl _, by rw [o1, hDt, hDa, ← allOf_snoc, ← hrs], ?_, by omega, by omega⟩
      rw [hDt]
      refine ⟨⟨ps ++ [p], nextP p, ⟨⟨o2.sim, o2.down⟩, o4, ?_, ?_, ?_, ?_, ?_, ⟨by omega, Int.le_refl _⟩, by rw [o3, hr]; exact hsn, by rw [hpn]; omega, hp.lim6⟩, by rw [allOf_snoc, hnr, List.append_nil, hDa]⟩, o2.fuse⟩
      · have eh : heads (ps ++ [p] ++ [nextP p]) = heads (ps ++ [p]) ++ [(p.num + 1, p.first + p.recs.length)] := heads_snoc _ _
        unfold foundL
        rw [hn, eh, hpn, hnr]
        rfl
      · intro x hx
        rcases List.mem_append.1 hx with hx | hx
        · exact hp.each x hx
        · rw [List.mem_singleton.1 hx]
          exact ⟨⟨by show 1 ≤ p.num + 1; omega, q1⟩, ⟨by show 1 ≤ p.first + p.recs.length; omega, q2⟩, fun d hd => by cases hd⟩
      · exact (chain_append (ps ++ [p]) _ F).2 ⟨hp.chain, by rw [hen]; rfl, trivial⟩
      · intro x hx
        rcases List.mem_append.1 hx with hx | hx
        · have := hp.lt x hx; show x.num < p.num + 1; omega
        · rw [List.mem_singleton.1 hx]; show p.num < p.num + 1; omega
      · refine List.pairwise_append.2 ⟨hp.inc, List.pairwise_singleton _ _, fun a ha b hb => ?_⟩
        rw [List.mem_singleton.1 hb]
        exact hp.lt a ha
    · -- a stray: dropped
      have hsc2 : scanL (datL (fullImg (ps ++ [p]) ++ [(walName (p.num + 1), cutTo ⟨headerL (p.num + 1) (p.first + p.recs.length), 0⟩ n1)])) = ⟨heads (ps ++ [p]), recsOf (ps ++ [p]), p.first + p.recs.length, (pieceD p).length, false, [p.num + 1]⟩ := by
        rw [datL_last, scanL_fold, foldS_append, hsc]
        exact z2
      have hlp : lastP (foundL ⟨heads (ps ++ [p]), recsOf (ps ++ [p]), p.first + p.recs.length, (pieceD p).length, false, [p.num + 1]⟩ n) = (p.num, p.first) := by
        unfold lastP foundL heads
        simp
      obtain ⟨d1, d2⟩ := u.drop (nameOk_wal (p.num + 1)) (by rw [get_last hne1]; simp)
      have dok := dropF_ok ok (walName (p.num + 1)) (by omega)
      have hfil : (fullImg (ps ++ [p]) ++ [(walName (p.num + 1), cutTo ⟨headerL (p.num + 1) (p.first + p.recs.length), 0⟩ n1)]).filter (fun y => decide (y.1 ≠ walName (p.num + 1))) = fullImg (ps ++ [p]) := by
        rw [List.filter_append, filter_ne (fun c => by
          obtain ⟨x, hx, e⟩ := List.mem_map.1 c
          exact hne1 x hx e)]
        simp
      rw [hfil, fullImg_snoc] at d2
      have hupd : upd (walName p.num) (full ((pieceD p).take (pieceD p).length)) (fullImg ps ++ [lastA p (pieceD p).length]) = fullImg ps ++ [lastA p (pieceD p).length] := by
        unfold lastA
        rw [upd_last hne, List.take_length]
        rfl
      have hsn : sumL (fullImg ps ++ [lastA p (pieceD p).length]) ≤ s.room := by
        rw [sum_full_last, fullImg_snoc] at hsum
        have : (cutTo (⟨headerL (p.num + 1) (p.first + p.recs.length), 0⟩ : AreaP) n1).safe = (n1 : Int) := rfl
        omega
      have hda : dropAll [p.num + 1].reverse t = ((dropF t (walName (p.num + 1))).1, 0) := by
        show dropAll [p.num + 1] t = _
        unfold dropAll
        rw [show (dropF t (walName (p.num + 1))).2 = 0 by rw [d1], if_neg (by simp)]
        rfl
      have dst := dropF_steps t (walName (p.num + 1))
      have drm : (dropF t (walName (p.num + 1))).1.room = t.room := by rw [d1]
      obtain ⟨s', o1, o2, o3, o4, o5⟩ := open_cut u ok n hsc2 (by simp [heads]) hda d2 dok drm (by omega) (by rw [hlp]; exact get_last hne) (Nat.le_refl _) (Int.le_refl _) (by
        rw [hlp]
        show sumL (upd (walName p.num) (full ((pieceD p).take (pieceD p).length)) _) ≤ _
        rw [hupd, hr]
        exact hsn)
      rw [hlp] at o2
      have o2 : Up s' (fullImg ps ++ [lastA p (pieceD p).length]) := by
        rw [← hupd]; exact o2
      refine ⟨D.length, s', _, h.le, Nat.le_refl _, by rw [o1, hDt, hDa, ← allOf_snoc, ← hrs], ?_, by omega, by omega⟩
      rw [hDt]
      refine ⟨⟨ps, p, ⟨⟨o2.sim, o2.down⟩, o4, ?_, hp.each, hp.chain, hp.lt, hp.inc, ⟨by omega, Int.le_refl _⟩, by rw [o3, hr]; exact hsn, hp.size, hp.lim6⟩, hDa⟩, o2.fuse⟩
      unfold foundL
      rw [hn]
/-- Opened once more: it is the same. -/
theorem LgA.again {lim : Nat} {s : DS} {l : LogP} {F : Nat} {D : List (List UInt8)} (h : LgA lim s l F D) (n : Int) :
    ∃ s' l', openF s n = (s', some (l', numbered F D), 0) ∧ imageF s' = imageF s := by
  obtain ⟨ps, p, u, hD⟩ := h.ex
  have hup : Up s (fullImg ps ++ [lastA p (pieceD p).length]) := ⟨u.im.sim, u.im.down, h.fuse⟩
  obtain ⟨s', e1, e2, e3⟩ := Proofs.YtgbgbokcohfnpaaGreat.again hup u.ok (n := n) u.chain u.each (names_lt u.each u.lt) u.fits
  exact ⟨s', _, by rw [e1, allOf_snoc, ← hD], by rw [e2.image, hup.image]⟩
/-- The fuse is no part of it. -/
theorem LgS.fuse {lim : Nat} {s : DS} {l : LogP} {F : Nat} {D : List (List UInt8)} {k : Nat} (h : LgS lim s l F D k) {n : Int} (hn : n ≤ 9223372036854775807) : LgS lim (fuseF s n) l F D k := by
  obtain ⟨ps, p, sf, nw, j, h1, h2⟩ := h.ex
  have ok : DOk (fuseF s n) := ⟨h1.ok.room, h1.ok.keys, h1.ok.len, h1.ok.each, h1.ok.names, h1.ok.steps, by unfold fuseF; simp only []; omega⟩
  exact ⟨ps, p, sf, nw, j, ⟨⟨h1.im.sim, h1.im.down⟩, ok, h1.log, h1.each, h1.chain, h1.lt, h1.inc, h1.nwok, h1.safe, h1.fits, h1.size, h1.lim6⟩, h2⟩
/-- A log on a new disk. -/
theorem LgA.start (room : Int) (n : Int) : ((openF (newF room) n).2 = (none, 42)) ∨ ∃ s l, openF (newF room) n = (s, some (l, []), 0) ∧ LgA (limF n) s l 1 [] := by
  rcases start_new room n with ⟨h, -, -⟩ | ⟨l, h, h2, h3⟩
  · exact Or.inl h
  · right
    refine ⟨(openF (newF room) n).1, l, by rw [← h], ⟨⟨[], firstPc, ⟨⟨h3.up.sim, h3.up.down⟩, h3.ok, h3.log, h3.each, h3.chain, h3.lt, h3.inc, h3.safe, h3.fits, ?_, ?_⟩, rfl⟩, h3.up.fuse⟩⟩
    · have := header_piece (p := firstPc) rfl
      omega
    · unfold limF
      omega

end Go.Proofs.YtgbgbokcohfnpaaGreat

/-
  PLAIN: an acceptor over its log, the fuse burning: whatever is asked, what lies in the log makes a state that is as far as its own.
-/
namespace Go.Proofs.YtgbgbokcohfnpaaGreat
open Go.RowKit

/-- Ballots are right ones. -/
structure PV (a : AcS) : Prop where
  pr : a.prom = bal0 ∨ validB a.prom = true
  vs : ∀ v ∈ a.votes, validB v.bal = true
theorem PV.start : PV (enterA 0 0) := ⟨Or.inl rfl, fun v hv => by cases hv⟩
theorem okRec_bal {x : RecR} (h : RecW x) : (x.kind ≠ 2 ∧ x.bal = bal0) ∨ validB x.bal = true := by
  have hr := h.right
  unfold okRec at hr
  split at hr
  · exact Or.inr (Bool.and_eq_true_iff.1 hr).2
  · split at hr
    · exact Or.inr (Bool.and_eq_true_iff.1 hr).2
    · rcases Bool.or_eq_true_iff.1 hr with c | c
      · exact Or.inl ⟨by omega, of_decide_eq_true c⟩
      · exact Or.inr c
theorem PV.replay {a : AcS} (h : PV a) {x : RecR} (hx : RecW x) : PV (replayA a x) := by
  unfold replayA
  split
  · exact h
  have h1 : PV (if a.epoch < x.epoch then enterA x.epoch 0 else a) := by
    split
    · exact ⟨Or.inl rfl, fun v hv => by cases hv⟩
    · exact h
  obtain ⟨-, -, p3, -, -, v1⟩ := promA_pr (if a.epoch < x.epoch then enterA x.epoch 0 else a) x.bal
  have h2 : PV (promA (if a.epoch < x.epoch then enterA x.epoch 0 else a) x.bal) := by
    refine ⟨?_, by rw [v1]; exact h1.vs⟩
    rcases p3 with e | e
    · rw [e]
      rcases okRec_bal hx with c | c
      · exact Or.inl c.2
      · exact Or.inr c
    · rw [e]; exact h1.pr
  generalize promA (if a.epoch < x.epoch then enterA x.epoch 0 else a) x.bal = c at *
  unfold castA
  split
  · exact ⟨h2.pr, fun v hv => h2.vs v (List.mem_filter.1 hv).1⟩
  · split
    · rename_i hk
      refine ⟨h2.pr, fun v hv => ?_⟩
      rcases putV_mem hv with rfl | hv
      · rcases okRec_bal hx with c | c
        · exact absurd hk.1 c.1
        · exact c
      · exact h2.vs v hv
    · exact h2
theorem PV.run : ∀ (R : List RecR) {a : AcS}, PV a → (∀ x ∈ R, RecW x) → PV (runA a R)
  | [], _, h, _ => h
  | x :: r, _, h, hr => PV.run r (h.replay (hr x (List.mem_cons_self ..))) (fun y hy => hr y (List.mem_cons_of_mem _ hy))

/-! ### The records that the calls write -/

theorem recW_of {k e s : Int} {b : BalR} {v : ValR} (hk : 1 ≤ k ∧ k ≤ 3) (he : 0 ≤ e ∧ e ≤ 1099511627776) (hs : 0 ≤ s ∧ s ≤ 1099511627776) (hr : 0 ≤ b.round ∧ b.round ≤ 1099511627776) (hn : 0 ≤ b.node ∧ b.node ≤ 9) (hv : valF v = 0) (hz : k ≠ 2 → v = val0) (ok : okRec ⟨k, e, s, b, v⟩ = true) : RecW ⟨k, e, s, b, v⟩ :=
  ⟨⟨⟨by show 0 ≤ k; omega, hk.2⟩, he, hs, hr, hn, hv⟩, hk.1, hz, ok⟩
theorem recW_prom {a : AcS} (h : AOk a) {b : BalR} (hv : validB b = true) : RecW ⟨1, a.epoch, 0, b, val0⟩ := by
  have := validB_in hv
  refine recW_of (by decide) h.ep (by decide) (by omega) (by omega) rfl (fun _ => rfl) ?_
  unfold okRec
  simp [hv]
theorem fresh_prom {a : AcS} (h : AOk a) {b : BalR} (hv : validB b = true) : Fresh9 a ⟨1, a.epoch, 0, b, val0⟩ := by
  refine ⟨recW_prom h hv, ?_, fun c => by simp at c⟩
  have e : replayA a ⟨1, a.epoch, 0, b, val0⟩ = promA a b := by
    unfold replayA castA
    simp
  rw [e]
  obtain ⟨-, p2, -, e1, f1, v1⟩ := promA_pr a b
  exact ⟨by rw [e1]; exact Int.le_refl _, fun _ => p2, fun _ => by rw [f1]; exact Int.le_refl _, fun _ v hv2 => Or.inr ⟨v, by rw [v1]; exact hv2, rfl, Or.inl rfl⟩⟩
theorem promA_up {a : AcS} {b : BalR} (h : belowB b a.prom = false) : promA a b = { a with prom := b } := by
  unfold promA
  by_cases c : belowB a.prom b = true
  · rw [if_pos c]
  · rw [if_neg c, belowB_none h (by simpa using c)]
theorem recW_vote {a : AcS} (h : AOk a) {b : BalR} {sl : Int} {v : ValR} (hv : validB b = true) (hs : a.floor < sl) (hs2 : sl ≤ 1099511627776) (hf : valF v = 0) : RecW ⟨2, a.epoch, sl, b, v⟩ := by
  have := validB_in hv
  have h0 := h.fl
  refine recW_of (by decide) h.ep (by omega) (by omega) (by omega) hf (fun c => absurd rfl c) ?_
  unfold okRec
  simp [hv]
  omega
theorem fresh_vote {a : AcS} (h : AOk a) {b : BalR} {sl : Int} {v : ValR} (hv : validB b = true) (hb : belowB b a.prom = false) (hs : a.floor < sl) (hs1 : sl ≤ a.floor + 64) (hs2 : sl ≤ 1099511627776) (hf : valF v = 0) (hn : ∀ o, getV sl a.votes = some o → o.bal ≠ b) : Fresh9 a ⟨2, a.epoch, sl, b, v⟩ := by
  refine ⟨recW_vote h hv hs hs2 hf, ?_, fun _ => ⟨rfl, hs1⟩⟩
  rw [replay_vote hb hs (h.old hb)]
  refine ⟨Int.le_refl _, fun _ => hb, fun _ => Int.le_refl _, fun _ u hu => Or.inr ?_⟩
  by_cases hx : u.slot = sl
  · have hg := getV_of h.up hu
    rw [hx] at hg
    refine ⟨⟨sl, b, v⟩, self_putV _ _, hx.symm, Or.inr ?_⟩
    show belowB u.bal b = true
    cases c : belowB u.bal b with
    | true => rfl
    | false => exact absurd (belowB_none c (h.old hb u hg)) (hn u hg)
  · exact ⟨u, (putV_iff h.up).2 (Or.inr ⟨hu, hx⟩), rfl, Or.inl rfl⟩
theorem base_dom {s : AcS} (_hs : AOk s) (e f : Int) (p : BalR) : Dom ⟨e, f, p, []⟩ (replayA s ⟨3, e, f, p, val0⟩) := by
  have he := replay_epoch s ⟨3, e, f, p, val0⟩
  simp only [] at he
  by_cases h1 : e < s.epoch
  · exact ⟨by rw [he]; show e ≤ _; omega, fun c => (by rw [he] at c; have c : e = max s.epoch e := c; omega), fun c => (by rw [he] at c; have c : e = max s.epoch e := c; omega), fun _ v hv => by cases hv⟩
  · have e1 : replayA s ⟨3, e, f, p, val0⟩ = raiseA (promA (if s.epoch < e then enterA e 0 else s) p) f := by
      unfold replayA castA
      simp only []
      rw [if_neg h1, if_pos trivial]
    refine ⟨by rw [he]; show e ≤ _; omega, fun _ => ?_, fun _ => ?_, fun _ v hv => by cases hv⟩
    · rw [e1]
      exact (promA_pr _ p).1
    · rw [e1]
      show f ≤ max _ f
      omega
theorem fresh_base {a : AcS} (h : AOk a) (hp : PV a) {f : Int} (hf : 0 ≤ f ∧ f ≤ 1099511627776) : Fresh9 a ⟨3, a.epoch, f, a.prom, val0⟩ := by
  refine ⟨recW_of (by decide) h.ep hf h.rd h.nd rfl (fun _ => rfl) ?_, ?_, fun c => by simp at c⟩
  · unfold okRec
    rcases hp.pr with c | c
    · simp [c]
    · simp [c]
  · have e1 : replayA a ⟨3, a.epoch, f, a.prom, val0⟩ = raiseA a f := by
      unfold replayA castA
      simp only []
      rw [if_neg (by omega), if_pos trivial, if_neg (by omega), promA_up (belowB_irr _)]
    rw [e1]
    refine ⟨Int.le_refl _, fun _ => belowB_irr _, fun _ => by show a.floor ≤ max a.floor f; omega, fun _ v hv => ?_⟩
    show v.slot ≤ max a.floor f ∨ _
    by_cases c : max a.floor f < v.slot
    · exact Or.inr ⟨v, List.mem_filter.2 ⟨hv, by simpa using c⟩, rfl, Or.inl rfl⟩
    · exact Or.inl (by omega)
theorem fresh_enter {a : AcS} (_h : AOk a) {e f : Int} (he : a.epoch < e) (he2 : 0 ≤ e ∧ e ≤ 1099511627776) (hf : 0 ≤ f ∧ f ≤ 1099511627776) : Fresh9 a ⟨3, e, f, bal0, val0⟩ := by
  have h9 := replay_epoch a ⟨3, e, f, bal0, val0⟩
  simp only [] at h9
  refine ⟨recW_of (by decide) he2 hf (by decide) (by decide) rfl (fun _ => rfl) ?_, ?_, fun c => by simp at c⟩
  · unfold okRec
    simp
  · exact ⟨by omega, fun c => (by omega), fun c => (by omega), fun c => (by omega)⟩
theorem putV_last {v : VoteR} : ∀ {vs : List VoteR}, (∀ u ∈ vs, u.slot < v.slot) → putV v vs = vs ++ [v]
  | [], _ => rfl
  | u :: r, h => by
    have := h u (List.mem_cons_self ..)
    unfold putV
    rw [if_neg (by omega), if_neg (by omega), putV_last (fun x hx => h x (List.mem_cons_of_mem _ hx))]
    rfl
/-- The votes of a base, replayed one behind the other. -/
theorem run_votes9 (e f : Int) (p : BalR) : ∀ (V W : List VoteR), Up9 (W ++ V) → (∀ v ∈ V, f < v.slot ∧ belowB p v.bal = false) → runA ⟨e, f, p, W⟩ (V.map (voteRec e)) = ⟨e, f, p, W ++ V⟩
  | [], W, _, _ => by rw [List.append_nil]; rfl
  | v :: r, W, hu, h => by
    obtain ⟨h1, h2⟩ := h v (List.mem_cons_self ..)
    have hlt : ∀ u ∈ W, u.slot < v.slot := fun u hu2 => (List.pairwise_append.1 hu).2.2 u hu2 v (List.mem_cons_self ..)
    have hstep : replayA ⟨e, f, p, W⟩ (voteRec e v) = ⟨e, f, p, W ++ [v]⟩ := by
      unfold voteRec replayA
      simp only []
      rw [if_neg (by omega), if_neg (by omega)]
      have hp : promA ⟨e, f, p, W⟩ v.bal = ⟨e, f, p, W⟩ := by
        unfold promA
        rw [if_neg (by simp [h2])]
      rw [hp]
      unfold castA
      simp only []
      rw [if_neg (by omega), if_pos]
      · rw [show (⟨v.slot, v.bal, v.val⟩ : VoteR) = v from rfl, putV_last hlt]
      · refine ⟨trivial, (takes_iff _ _).2 ⟨h1, fun o ho => ?_⟩⟩
        obtain ⟨g1, g2⟩ := getV_some ho
        have := hlt o g1
        simp only [] at g2
        omega
    rw [List.map_cons]
    show runA (replayA ⟨e, f, p, W⟩ (voteRec e v)) (r.map (voteRec e)) = _
    rw [hstep, run_votes9 e f p r (W ++ [v]) (by rw [List.append_assoc]; exact hu) (fun x hx => h x (List.mem_cons_of_mem _ hx)), List.append_assoc]
    rfl
theorem fromV_succ (vs : List VoteR) (f : Int) : fromV vs (f + 1) = aboveV vs f := by
  unfold fromV aboveV
  refine List.filter_congr fun v _ => ?_
  simp only [decide_eq_decide]
  omega
theorem raise_state {a : AcS} {f : Int} (h : a.floor ≤ f) : raiseA a f = ⟨a.epoch, f, a.prom, fromV a.votes (f + 1)⟩ := by
  unfold raiseA
  rw [show max a.floor f = f by omega, fromV_succ]
theorem recOk_base {a : AcS} (h : AOk a) {f : Int} (hf : 0 ≤ f ∧ f ≤ 1099511627776) : RecOk ⟨3, a.epoch, f, a.prom, val0⟩ := ⟨show (0 : Int) ≤ 3 ∧ (3 : Int) ≤ 3 by decide, h.ep, hf, h.rd, h.nd, rfl⟩
theorem raise_strong {a : AcS} (h : AOk a) {f : Int} (hf : a.floor ≤ f) (hf2 : f ≤ 1099511627776) {s : AcS} (hs : AOk s) : Dom (raiseA a f) (runA s (raiseRecs a f)) := by
  have h0 := h.fl
  have hb : AOk ⟨a.epoch, f, a.prom, []⟩ := ⟨h.ep, ⟨by show 0 ≤ f; omega, hf2⟩, h.rd, h.nd, List.Pairwise.nil, fun v hv => by cases hv⟩
  have hd := base_dom hs a.epoch f a.prom
  have hall : ∀ x ∈ (fromV a.votes (f + 1)).map (voteRec a.epoch), RecOk x := fun x hx => by
    obtain ⟨v, hv, rfl⟩ := List.mem_map.1 hx
    exact h.rcd (List.mem_filter.1 hv).1
  have hr := hd.run ((fromV a.votes (f + 1)).map (voteRec a.epoch)) hb (hs.replay (recOk_base h (f := f) ⟨by omega, hf2⟩)) hall
  have hup : Up9 ([] ++ fromV a.votes (f + 1)) := up_filter h.up _
  rw [run_votes9 a.epoch f a.prom (fromV a.votes (f + 1)) [] hup (fun v hv => by
    obtain ⟨hm, hs9⟩ := List.mem_filter.1 hv
    have : f + 1 ≤ v.slot := by simpa using hs9
    exact ⟨by omega, (h.vs v hm).2.2.2.2.2⟩), List.nil_append] at hr
  rw [raise_state hf]
  exact hr
theorem fresh_raise {a : AcS} (h : AInv a) (hp : PV a) {f : Int} (hf : a.floor ≤ f) (hf2 : f ≤ 1099511627776) : ∀ x ∈ raiseRecs a f, Fresh9 a x := by
  intro x hx
  have h0 := h.ok.fl
  rcases List.mem_cons.1 hx with rfl | hx
  · exact fresh_base h.ok hp ⟨by omega, hf2⟩
  · obtain ⟨v, hv, rfl⟩ := List.mem_map.1 hx
    have hm := (List.mem_filter.1 hv).1
    obtain ⟨g1, g2, g3, g4, g5, g6⟩ := h.ok.vs v hm
    refine ⟨recW_vote h.ok (hp.vs v hm) g2 g3 g1, ?_, fun _ => ⟨rfl, h.win v hm⟩⟩
    have hg := getV_of h.ok.up hm
    have e : replayA a (voteRec a.epoch v) = { a with votes := putV v a.votes } := by
      unfold voteRec replayA
      simp only []
      rw [if_neg (by omega), if_neg (by omega)]
      have hpr : promA a v.bal = a := by
        unfold promA
        rw [if_neg (by simp [g6])]
      rw [hpr]
      unfold castA
      simp only []
      rw [if_neg (by omega), if_pos]
      refine ⟨trivial, (takes_iff _ _).2 ⟨g2, fun o ho => ?_⟩⟩
      simp only [] at ho
      rw [hg] at ho
      cases ho
      exact belowB_irr _
    rw [e]
    refine ⟨Int.le_refl _, fun _ => belowB_irr _, fun _ => Int.le_refl _, fun _ u hu => Or.inr ⟨u, ?_, rfl, Or.inl rfl⟩⟩
    by_cases c : u.slot = v.slot
    · have : u = v := up_slot h.ok.up hu hm c
      rw [this]
      exact self_putV _ _
    · exact (putV_iff h.ok.up).2 (Or.inr ⟨hu, c⟩)

end Go.Proofs.YtgbgbokcohfnpaaGreat

/-
  PLAIN: an acceptor over its log: each call, a loss of power.
-/
namespace Go.Proofs.YtgbgbokcohfnpaaGreat
open Go.RowKit

structure JS (i : Nat) (lim : Nat) (s : DS) (l : LogP) (A : AcS) : Prop where
  ex : ∃ F R k, LgS lim s l F (R.map recL) k ∧ Stn A R k ∧ F + R.length ≤ 70 * i + 1
  pv : PV A
theorem JS.inv {i lim : Nat} {s : DS} {l : LogP} {A : AcS} (h : JS i lim s l A) : AInv A := by
  obtain ⟨F, R, k, -, h2, -⟩ := h.ex
  exact h2.inv
theorem JS.mono {i j lim : Nat} {s : DS} {l : LogP} {A : AcS} (h : JS i lim s l A) (hij : i ≤ j) : JS j lim s l A := by
  obtain ⟨F, R, k, h1, h2, h3⟩ := h.ex
  exact ⟨⟨F, R, k, h1, h2, by omega⟩, h.pv⟩
/-- Records written: the power may fail, room may lack. -/
theorem JS.write {i lim : Nat} {s : DS} {l : LogP} {A : AcS} (h : JS i lim s l A) {X : List RecR} (hX : ∀ x ∈ X, Fresh9 A x) (hn : X.length ≤ 69) (h0 : X ≠ []) (hi : i ≤ 100000) (hst : s.steps < 4611686018400000000) :
    ((writeF (X.map recL) true 0 s l).2.2.2 ≠ 0 ∧ JS (i + 1) lim (writeF (X.map recL) true 0 s l).1 (writeF (X.map recL) true 0 s l).2.1 A) ∨
    ((writeF (X.map recL) true 0 s l).2.2.2 = 0 ∧ ∃ F R k, Stn A R k ∧ (writeF (X.map recL) true 0 s l).2.2.1 = F + R.length ∧ F + R.length ≤ 70 * i + 1 ∧ LgS lim (writeF (X.map recL) true 0 s l).1 (writeF (X.map recL) true 0 s l).2.1 F ((R ++ X).map recL) (R ++ X).length) := by
  obtain ⟨F, R, k, h1, h2, h3⟩ := h.ex
  have hlen : (X.map recL).length = X.length := List.length_map _
  have hsm : ∀ d ∈ X.map recL, d.length ≤ 8192 := fun d hd => by
    obtain ⟨x, hx, rfl⟩ := List.mem_map.1 hd
    have := recL_len (hX x hx).w.ok.val
    omega
  rcases h1.write (X.map recL) true 0 hsm (by rw [List.length_map, hlen]; omega) (by rw [hlen]; omega) with ⟨a, j, b, c⟩ | ⟨a, b, c⟩
  · left
    refine ⟨a, ⟨F, R ++ X.take j, k, ?_, h2.mores (fun x hx => hX x (List.mem_of_mem_take hx)), ?_⟩, h.pv⟩
    · rw [List.map_append, List.map_take]; exact c
    · rw [List.length_append, List.length_take]; omega
  · right
    refine ⟨a, F, R, k, h2, ?_, h3, ?_⟩
    · rw [c, if_pos ⟨rfl, by simpa using h0⟩, List.length_map]
    · rw [List.map_append]
      rw [List.length_append, List.length_map, List.length_map] at b
      rw [List.length_append]
      exact b
theorem JS.prep {i lim : Nat} {s : DS} {l : LogP} {A : AcS} (h : JS i lim s l A) (b : BalR) (f : Int) (hi : i ≤ 100000) (hst : s.steps < 4611686018400000000) : JS (i + 1) lim (prepA s l A b f).s (prepA s l A b f).l (prepA s l A b f).a := by
  have h1 := h.mono (Nat.le_succ i)
  have hinv := h.inv
  unfold prepA
  split
  · exact h1
  split
  · exact h1
  split
  · exact h1
  rename_i c1 c2 c3
  have c2 : validB b = true := by simpa using c2
  have c3 : belowB b A.prom = false := by simpa using c3
  split
  · have hX : ∀ x ∈ [(⟨1, A.epoch, 0, b, val0⟩ : RecR)], Fresh9 A x := fun x hx => by
      rw [List.mem_singleton.1 hx]
      exact fresh_prom hinv.ok c2
    have hw := h.write hX (by simp) (by simp) hi hst
    rw [show ([(⟨1, A.epoch, 0, b, val0⟩ : RecR)]).map recL = [recL ⟨1, A.epoch, 0, b, val0⟩] from rfl] at hw
    unfold prepW
    rcases hw with ⟨a, c⟩ | ⟨a, F, R, k, d, -, e, g⟩
    · rw [if_pos a]
      exact c
    · rw [if_neg (by rw [a]; simp)]
      have er : replayA A ⟨1, A.epoch, 0, b, val0⟩ = { A with prom := b } := by
        unfold replayA castA
        simp [promA_up c3]
      refine ⟨⟨F, R ++ [⟨1, A.epoch, 0, b, val0⟩], _, g, d.done hX ?_ ⟨hinv.ok.rise c2 c3, hinv.win⟩ (Or.inr ⟨rfl, Int.le_refl _⟩), ?_⟩, ⟨Or.inr c2, h.pv.vs⟩⟩
      · show Dom _ (replayA A _)
        rw [er]
        exact Dom.refl _
      · rw [List.length_append]; simp only [List.length_cons, List.length_nil]; omega
  · exact h1
theorem JS.acc {i lim : Nat} {s : DS} {l : LogP} {A : AcS} (h : JS i lim s l A) (b : BalR) (sl : Int) (v : ValR) (hi : i ≤ 100000) (hst : s.steps < 4611686018400000000) : JS (i + 1) lim (accA s l A b sl v).s (accA s l A b sl v).l (accA s l A b sl v).a := by
  have h1 := h.mono (Nat.le_succ i)
  have hinv := h.inv
  unfold accA
  split
  · exact h1
  split
  · exact h1
  split
  · exact h1
  split
  · exact h1
  rename_i c1 c2 c3 c4
  have c1 : validB b = true := by simpa using c1
  have c2 : valF v = 0 := Classical.byContradiction c2
  have c3 : belowB b A.prom = false := by simpa using c3
  have c5 : A.floor < sl ∧ sl ≤ A.floor + 64 ∧ sl ≤ 1099511627776 := by omega
  have core : (∀ o, getV sl A.votes = some o → o.bal ≠ b) → JS (i + 1) lim (accW A ⟨2, A.epoch, sl, b, v⟩ (writeF [recL ⟨2, A.epoch, sl, b, v⟩] true 0 s l)).s (accW A ⟨2, A.epoch, sl, b, v⟩ (writeF [recL ⟨2, A.epoch, sl, b, v⟩] true 0 s l)).l (accW A ⟨2, A.epoch, sl, b, v⟩ (writeF [recL ⟨2, A.epoch, sl, b, v⟩] true 0 s l)).a := by
    intro hn
    have hX : ∀ x ∈ [(⟨2, A.epoch, sl, b, v⟩ : RecR)], Fresh9 A x := fun x hx => by
      rw [List.mem_singleton.1 hx]
      exact fresh_vote hinv.ok c1 c3 c5.1 c5.2.1 c5.2.2 c2 hn
    have hw := h.write hX (by simp) (by simp) hi hst
    rw [show ([(⟨2, A.epoch, sl, b, v⟩ : RecR)]).map recL = [recL ⟨2, A.epoch, sl, b, v⟩] from rfl] at hw
    unfold accW
    rcases hw with ⟨a, c⟩ | ⟨a, F, R, k, d, -, e, g⟩
    · rw [if_pos a]
      exact c
    · rw [if_neg (by rw [a]; simp)]
      have er := replay_vote (v := v) c3 c5.1 (hinv.ok.old c3)
      refine ⟨⟨F, R ++ [⟨2, A.epoch, sl, b, v⟩], _, g, d.done hX ?_ ?_ ?_, ?_⟩, ?_⟩
      · exact Dom.refl _
      · simp only []
        rw [er]
        refine ⟨hinv.ok.vote c1 c3 c5.1 c5.2.2 c2, fun x hx => ?_⟩
        rcases putV_mem hx with rfl | hx
        · exact c5.2.1
        · exact hinv.win x hx
      · simp only []
        rw [er]
        exact Or.inr ⟨rfl, Int.le_refl _⟩
      · rw [List.length_append]; simp only [List.length_cons, List.length_nil]; omega
      · simp only []
        rw [er]
        exact ⟨Or.inr c1, fun x hx => by
          rcases putV_mem hx with rfl | hx
          · exact c1
          · exact h.pv.vs x hx⟩
  cases hg : getV sl A.votes with
  | none => exact core (fun o ho => by rw [hg] at ho; cases ho)
  | some o =>
    unfold accO
    simp only []
    split
    · split
      · exact h1
      · exact h1
    · rename_i e1
      exact core (fun x hx => by rw [hg] at hx; cases hx; exact e1)
/-- Trim behind a base: the elder records go. -/
theorem JS.trim {i lim F : Nat} {s : DS} {l : LogP} {A : AcS} {R X : List RecR} (hl : LgS lim s l F ((R ++ X).map recL) (R ++ X).length) (hs : Stn A (R ++ X) (R ++ X).length) (hp : PV A) (hd : ∀ s, AOk s → Dom A (runA s X)) (hF : F + R.length + X.length ≤ 70 * i + 1) (hst : s.steps + l.pieces.length < 4611686018427360000) : JS i lim (trimLF s l ((F + R.length : Nat) : Int)).1 (trimLF s l ((F + R.length : Nat) : Int)).2.1 A := by
  have hlen : ((R ++ X).map recL).length = (R ++ X).length := List.length_map _
  rw [← hlen] at hl
  obtain ⟨j, g1, g2, g3⟩ := hl.trim ((F + R.length : Nat) : Int) hst
  have hj : j ≤ R.length := by omega
  refine ⟨⟨F + j, R.drop j ++ X, (R.drop j ++ X).length, ?_, hs.trim hd j, ?_⟩, hp⟩
  · have e : ((R ++ X).map recL).drop j = (R.drop j ++ X).map recL := by
      rw [← List.map_drop, List.drop_append_of_le_length hj]
    rw [e, hlen] at g3
    have e2 : (R.drop j ++ X).length = (R ++ X).length - j := by rw [List.length_append, List.length_append, List.length_drop]; omega
    rw [e2]
    exact g3
  · rw [List.length_append, List.length_drop]; omega
theorem JS.raise {i lim : Nat} {s : DS} {l : LogP} {A : AcS} (h : JS i lim s l A) (f : Int) (hi : i ≤ 100000) (hst : s.steps < 4611686018400000000) (hpc : (writeF ((raiseRecs A f).map recL) true 0 s l).1.steps + (writeF ((raiseRecs A f).map recL) true 0 s l).2.1.pieces.length < 4611686018427360000) : JS (i + 1) lim (raiseO s l A f).s (raiseO s l A f).l (raiseO s l A f).a := by
  have h1 := h.mono (Nat.le_succ i)
  have hinv := h.inv
  unfold raiseO
  split
  · exact h1
  split
  · exact h1
  rename_i c1 c2
  have hf : A.floor ≤ f := by omega
  have hf2 : f ≤ 1099511627776 := by omega
  have hX := fresh_raise hinv h.pv hf hf2
  have hXl : (raiseRecs A f).length ≤ 65 := by
    unfold raiseRecs
    rw [List.length_cons, List.length_map]
    have := hinv.ok.len hinv.win
    have h9 : (fromV A.votes (f + 1)).length ≤ A.votes.length := List.length_filter_le ..
    omega
  unfold raiseW
  rcases h.write hX (by omega) (by unfold raiseRecs; simp) hi hst with ⟨a, c⟩ | ⟨a, F, R, k, d, e0, e, g⟩
  · rw [if_pos a]
    exact c
  · rw [if_neg (by rw [a]; simp)]
    unfold trimO
    simp only []
    rw [e0]
    refine JS.trim g (d.done hX (raise_strong hinv.ok hf hf2 hinv.ok) ⟨hinv.ok.raise hf2, hinv.win.raise f⟩ (Or.inr ⟨rfl, by show A.floor ≤ max A.floor f; omega⟩)) ⟨h.pv.pr, fun v hv => h.pv.vs v (List.mem_filter.1 hv).1⟩ (fun s hs => raise_strong hinv.ok hf hf2 hs) (by omega) hpc
theorem JS.enter {i lim : Nat} {s : DS} {l : LogP} {A : AcS} (h : JS i lim s l A) (e f : Int) (hi : i ≤ 100000) (hst : s.steps < 4611686018400000000) (hpc : (writeF [recL ⟨3, e, f, bal0, val0⟩] true 0 s l).1.steps + (writeF [recL ⟨3, e, f, bal0, val0⟩] true 0 s l).2.1.pieces.length < 4611686018427360000) : JS (i + 1) lim (enterO s l A e f).s (enterO s l A e f).l (enterO s l A e f).a := by
  have h1 := h.mono (Nat.le_succ i)
  have hinv := h.inv
  unfold enterO
  split
  · exact h1
  rename_i c1
  have hep := hinv.ok.ep
  have he : A.epoch < e ∧ (0 ≤ e ∧ e ≤ 1099511627776) ∧ (0 ≤ f ∧ f ≤ 1099511627776) := by omega
  have hX : ∀ x ∈ [(⟨3, e, f, bal0, val0⟩ : RecR)], Fresh9 A x := fun x hx => by
    rw [List.mem_singleton.1 hx]
    exact fresh_enter hinv.ok he.1 he.2.1 he.2.2
  have hst2 : ∀ s, AOk s → Dom (enterA e f) (runA s [(⟨3, e, f, bal0, val0⟩ : RecR)]) := fun s hs => base_dom hs e f bal0
  have hw := h.write hX (by simp) (by simp) hi hst
  rw [show ([(⟨3, e, f, bal0, val0⟩ : RecR)]).map recL = [recL ⟨3, e, f, bal0, val0⟩] from rfl] at hw
  unfold enterW
  rcases hw with ⟨a, c⟩ | ⟨a, F, R, k, d, e0, e1, g⟩
  · rw [if_pos a]
    exact c
  · rw [if_neg (by rw [a]; simp)]
    unfold trimO
    simp only []
    rw [e0]
    exact JS.trim g (d.done hX (hst2 _ hinv.ok) ⟨AOk.enter he.2.1 he.2.2, AWin.enter _ _⟩ (Or.inl he.1)) ⟨Or.inl rfl, fun v hv => by cases hv⟩ hst2 (by simp only [List.length_cons, List.length_nil]; omega) hpc
theorem JS.fuse {i lim : Nat} {s : DS} {l : LogP} {A : AcS} (h : JS i lim s l A) {n : Int} (hn : n ≤ 9223372036854775807) : JS i lim (fuseF s n) l A := by
  obtain ⟨F, R, k, h1, h2⟩ := h.ex
  exact ⟨⟨F, R, k, h1.fuse hn, h2⟩, h.pv⟩
/-- The data of records, as Open tells them. -/
def datas (recs : Recs) : List (List UInt8) := recs.map (·.2)
theorem datas_numbered : ∀ (F : Nat) (D : List (List UInt8)), datas (numbered F D) = D
  | _, [] => rfl
  | F, d :: r => by
    show d :: datas (numbered (F + 1) r) = _
    rw [datas_numbered]
/-- Behind a loss of power: opened anew, it stands by what it knew. -/
structure JAgain (i lim : Nat) (A : AcS) (n : Int) (t : DS) (s' : DS) (l' : LogP) (recs : Recs) (A' : AcS) : Prop where
  op : openF t n = (s', some (l', recs), 0)
  ac : openA (datas recs) 0 0 = (some A', 0)
  js : JS i lim s' l' A'
  dom : Dom A A'
  down : s'.down = false
  fuse : s'.fuse = 0
  steps : s'.steps ≤ t.steps + 4
  len : recs.length ≤ 70 * i + 1
  twice : ∃ s2 l2, openF s' n = (s2, some (l2, recs), 0) ∧ imageF s2 = imageF s'
theorem JS.crash {i lim : Nat} {s : DS} {l : LogP} {A : AcS} (h : JS i lim s l A) (keep : List Int) {n : Int} (hn : limF n = lim) (hst : s.steps < 4611686018400000000) : ∃ s' l' recs A', JAgain i lim A n (crashF s keep) s' l' recs A' := by
  obtain ⟨F, R, k, h1, h2, h3⟩ := h.ex
  obtain ⟨m, s', l', g1, g2, g3, g4, g5, g6⟩ := h1.crash keep hn (by omega)
  rw [List.length_map] at g2
  obtain ⟨q1, q2⟩ := h2.again g1 g2
  have hrw : ∀ x ∈ R.take m, RecW x := q1.recs
  have hml : (R.take m).length = m := by rw [List.length_take]; omega
  rw [← List.map_take] at g3 g4
  have hls := g4.lgs
  rw [List.length_map, hml] at hls
  obtain ⟨s2, l2, t1, t2⟩ := g4.again n
  refine ⟨s', l', _, runA (enterA 0 0) (R.take m), ⟨g3, ?_, ⟨⟨F, R.take m, m, hls, q1, by omega⟩, PV.start.run _ hrw⟩, q2, g4.down, g4.fuse, by rw [crashF_steps9]; exact g5, by rw [numbered_len, List.length_map]; omega, s2, l2, t1, t2⟩⟩
  rw [datas_numbered]
  exact openA_run _ hrw
theorem JS.start (room : Int) (n : Int) : ((openF (newF room) n).2 = (none, 42)) ∨ ∃ s l, openF (newF room) n = (s, some (l, []), 0) ∧ JS 0 (limF n) s l (enterA 0 0) := by
  rcases LgA.start room n with h | ⟨s, l, h1, h2⟩
  · exact Or.inl h
  · exact Or.inr ⟨s, l, h1, ⟨1, [], 0, by simpa using h2.lgs, Stn.start, by simp⟩, PV.start⟩

end Go.Proofs.YtgbgbokcohfnpaaGreat
