/-
  The texts CrP, CrQ, CrR in one: what the claim reaches of them.
-/
import Derived.Test.YtgbgbokcohfnpaaGreatP33
import Derived.Test.YtgbgbokcohfnpaaGreatP16
import Derived.Test.YtgbgbokcohfnpaaGreatP17
/-
  PLAIN: a log over its disk, the fuse burning: what lies there whenever the power fails.
-/
namespace Go.Proofs.YtgbgbokcohfnpaaGreat
open Go.RowKit

/-- A piece that was begun when the power failed. -/
def nwImg (p : PcS) (nw : Bool) : Img := if nw = true then [(walName (p.num + 1), ⟨headerL (p.num + 1) (p.first + p.recs.length), 0⟩)] else []
structure LgP (lim : Nat) (s : DS) (l : LogP) (F : Nat) (ps : List PcS) (p : PcS) (sf : Int) (nw : Bool) : Prop where
  im : At9 s (fullImg ps ++ [lastA p sf] ++ nwImg p nw) s.down
  ok : DOk s
  log : s.down = false → l = ⟨lim, heads (ps ++ [p]), p.first + p.recs.length, (pieceD p).length, false⟩ ∧ nw = false
  each : ∀ x ∈ ps ++ [p], PcOk x
  chain : Chain F (ps ++ [p])
  lt : ∀ x ∈ ps, x.num < p.num
  inc : ps.Pairwise fun a b => a.num < b.num
  nwok : nw = true → p.num + 1 ≤ 999999 ∧ p.first + p.recs.length ≤ 1099511627776 ∧ sf = (pieceD p).length
  safe : 0 ≤ sf ∧ sf ≤ (pieceD p).length
  fits : sumL (fullImg ps ++ [lastA p sf] ++ nwImg p nw) ≤ s.room
  size : (pieceD p).length ≤ 80000
  lim6 : lim ≤ 65536
theorem names_lt {ps : List PcS} {p : PcS} (each : ∀ x ∈ ps ++ [p], PcOk x) (lt : ∀ x ∈ ps, x.num < p.num) : ∀ x ∈ fullImg ps, x.1 ≠ walName p.num := by
  intro x hx e
  obtain ⟨y, hy, rfl⟩ := List.mem_map.1 hx
  have h1 := lt y hy
  have h2 := congrArg numberN e
  have h3 := (each y (List.mem_append_left _ hy)).num.2
  have h4 := (each p (by simp)).num.2
  simp only [] at h2
  rw [number_of _ h3, number_of _ h4] at h2
  omega
theorem LgP.others {lim : Nat} {s : DS} {l : LogP} {F : Nat} {ps : List PcS} {p : PcS} {sf : Int} {nw : Bool} (h : LgP lim s l F ps p sf nw) : ∀ x ∈ fullImg ps, x.1 ≠ walName p.num := names_lt h.each h.lt
/-- The power is on. -/
structure LgU (lim : Nat) (s : DS) (l : LogP) (F : Nat) (ps : List PcS) (p : PcS) (sf : Int) : Prop where
  im : At9 s (fullImg ps ++ [lastA p sf]) false
  ok : DOk s
  log : l = ⟨lim, heads (ps ++ [p]), p.first + p.recs.length, (pieceD p).length, false⟩
  each : ∀ x ∈ ps ++ [p], PcOk x
  chain : Chain F (ps ++ [p])
  lt : ∀ x ∈ ps, x.num < p.num
  inc : ps.Pairwise fun a b => a.num < b.num
  safe : 0 ≤ sf ∧ sf ≤ (pieceD p).length
  fits : sumL (fullImg ps ++ [lastA p sf]) ≤ s.room
  size : (pieceD p).length ≤ 80000
  lim6 : lim ≤ 65536
theorem LgP.up {lim : Nat} {s : DS} {l : LogP} {F : Nat} {ps : List PcS} {p : PcS} {sf : Int} {nw : Bool} (h : LgP lim s l F ps p sf nw) (hd : s.down = false) : LgU lim s l F ps p sf := by
  obtain ⟨h1, h2⟩ := h.log hd
  have hi := h.im
  have hf := h.fits
  rw [hd] at hi
  subst h2
  rw [show nwImg p false = [] from rfl, List.append_nil] at hi hf
  exact ⟨hi, h.ok, h1, h.each, h.chain, h.lt, h.inc, h.safe, hf, h.size, h.lim6⟩
theorem LgU.lgp {lim : Nat} {s : DS} {l : LogP} {F : Nat} {ps : List PcS} {p : PcS} {sf : Int} (h : LgU lim s l F ps p sf) : LgP lim s l F ps p sf false := by
  have hd := h.im.down
  have e : fullImg ps ++ [lastA p sf] ++ nwImg p false = fullImg ps ++ [lastA p sf] := List.append_nil _
  exact ⟨by rw [e, hd]; exact h.im, h.ok, fun _ => ⟨h.log, rfl⟩, h.each, h.chain, h.lt, h.inc, fun c => (by cases c), h.safe, by rw [e]; exact h.fits, h.size, h.lim6⟩
/-- The power has failed; the log in memory does not matter. -/
theorem LgU.off {lim : Nat} {s s' : DS} {l l' : LogP} {F : Nat} {ps : List PcS} {p : PcS} {sf : Int} (h : LgU lim s l F ps p sf) (hi : At9 s' (fullImg ps ++ [lastA p sf]) true) (hok : DOk s') (hr : s'.room = s.room) : LgP lim s' l' F ps p sf false := by
  have e : fullImg ps ++ [lastA p sf] ++ nwImg p false = fullImg ps ++ [lastA p sf] := List.append_nil _
  exact ⟨by rw [e, hi.down]; exact hi, hok, fun c => (by rw [hi.down] at c; cases c), h.each, h.chain, h.lt, h.inc, fun c => (by cases c), h.safe, by rw [e, hr]; exact h.fits, h.size, h.lim6⟩
theorem LgU.lastP {lim : Nat} {s : DS} {l : LogP} {F : Nat} {ps : List PcS} {p : PcS} {sf : Int} (h : LgU lim s l F ps p sf) : Proofs.YtgbgbokcohfnpaaGreat.lastP l = (p.num, p.first) := by
  rw [h.log]
  unfold Proofs.YtgbgbokcohfnpaaGreat.lastP heads
  simp
theorem LgU.alive {lim : Nat} {s : DS} {l : LogP} {F : Nat} {ps : List PcS} {p : PcS} {sf : Int} (h : LgU lim s l F ps p sf) : aliveF s l = (l, 0) := by
  unfold aliveF
  rw [if_neg]
  rw [h.im.down, h.log]
  simp
theorem LgU.get {lim : Nat} {s : DS} {l : LogP} {F : Nat} {ps : List PcS} {p : PcS} {sf : Int} (h : LgU lim s l F ps p sf) : alGet (walName p.num) (fullImg ps ++ [lastA p sf]) = some ⟨pieceD p, sf⟩ := get_last (names_lt h.each h.lt)
theorem LgU.same {lim : Nat} {s s' : DS} {l : LogP} {F : Nat} {ps : List PcS} {p : PcS} {sf sf' : Int} (h : LgU lim s l F ps p sf) (hi : At9 s' (fullImg ps ++ [lastA p sf']) false) (hok : DOk s') (hr : s'.room = s.room) (hs : 0 ≤ sf' ∧ sf' ≤ (pieceD p).length) (hf : sumL (fullImg ps) + sf' ≤ s.room) : LgU lim s' l F ps p sf' :=
  ⟨hi, hok, h.log, h.each, h.chain, h.lt, h.inc, hs, by rw [sum_last, hr]; exact hf, h.size, h.lim6⟩
/-- What Sync does to the last piece. -/
theorem LgU.sync {lim : Nat} {s : DS} {l : LogP} {F : Nat} {ps : List PcS} {p : PcS} {sf : Int} (h : LgU lim s l F ps p sf) (hst : s.steps < 4611686018427387904) :
    (syncF s (walName p.num) = (s, 42)) ∨ ((syncF s (walName p.num)).2 = 2 ∧ ∀ l', LgP lim (syncF s (walName p.num)).1 l' F ps p sf false) ∨ ((syncF s (walName p.num)).2 = 0 ∧ LgU lim (syncF s (walName p.num)).1 l F ps p (pieceD p).length) := by
  have hs := sum_last (fullImg ps) p sf
  have hok := syncF_ok h.ok (walName p.num) hst
  obtain ⟨hr, hc⟩ := h.im.sync (nameOk_wal p.num) h.get
  rcases hc with ⟨-, c⟩ | ⟨c, ⟨e, hi⟩ | ⟨e, hi⟩⟩
  · exact Or.inl c
  · exact Or.inr (Or.inl ⟨e, fun l' => h.off hi hok hr⟩)
  · right; right
    rw [hs] at c
    simp only [] at c
    have e2 : upd (walName p.num) (full (pieceD p)) (fullImg ps ++ [lastA p sf]) = fullImg ps ++ [lastA p (pieceD p).length] := upd_last (names_lt h.each h.lt)
    rw [e2] at hi
    exact ⟨e, h.same hi hok hr ⟨by omega, Int.le_refl _⟩ (by omega)⟩
/-- What the last piece holds with a record more. -/
def moreR (p : PcS) (d : List UInt8) : PcS := ⟨p.num, p.first, p.recs ++ [d]⟩
theorem pieceD_more (p : PcS) (d : List UInt8) : pieceD (moreR p d) = pieceD p ++ frameL d := by
  unfold pieceD moreR
  rw [frames_append, frames_cons, frames_nil, List.append_nil, List.append_assoc]
/-- A record is laid behind the others: the power fails in it, or not. -/
theorem LgU.tail {lim : Nat} {s : DS} {l : LogP} {F : Nat} {ps : List PcS} {p : PcS} {sf : Int} (h : LgU lim s l F ps p sf) {d : List UInt8} (hd : d.length ≤ 8192) (hsz : (pieceD p).length ≤ 65536) (hst : s.steps < 4611686018427387904) :
    ((appTail s l d).2.2.2 = 2 ∧ LgP lim (appTail s l d).1 (appTail s l d).2.1 F ps (moreR p d) sf false) ∨ ((appTail s l d).2.2 = (p.first + p.recs.length, 0) ∧ LgU lim (appTail s l d).1 (appTail s l d).2.1 F ps (moreR p d) sf) := by
  have hfl := frameL_le d
  have hpd := pieceD_more p d
  have hg0 : get0 (walName p.num) (fullImg ps ++ [lastA p sf]) = ⟨pieceD p, sf⟩ := by unfold get0; rw [h.get]; rfl
  obtain ⟨hr, hc⟩ := h.im.append (d := frameL d) (nameOk_wal p.num) (Or.inl (by rw [h.get]; simp)) (by rw [hg0]; simp only []; omega)
  have hok := appendF_ok h.ok (walName p.num) (frameL d) hst
  rw [hg0] at hc
  simp only [] at hc
  have e : ins (walName p.num, ⟨pieceD p ++ frameL d, sf⟩) (fullImg ps ++ [lastA p sf]) = fullImg ps ++ [lastA (moreR p d) sf] := by
    rw [ins_there h.im.sim.srt _ (mem_keys (by rw [h.get]; simp))]
    unfold lastA
    rw [hpd]
    exact upd_last (names_lt h.each h.lt)
  rw [e] at hc
  have each' : ∀ x ∈ ps ++ [moreR p d], PcOk x := by
    intro x hx
    rcases List.mem_append.1 hx with hx | hx
    · exact h.each x (List.mem_append_left _ hx)
    · have hp := h.each p (by simp)
      rw [List.mem_singleton.1 hx]
      refine ⟨hp.num, hp.first, fun y hy => ?_⟩
      rcases List.mem_append.1 hy with hy | hy
      · exact hp.recs y hy
      · rw [List.mem_singleton.1 hy]; exact hd
  have chain' : Chain F (ps ++ [moreR p d]) := by
    have hc := (chain_append ps [p] F).1 h.chain
    exact (chain_append ps _ F).2 ⟨hc.1, hc.2.1, trivial⟩
  have safe' : 0 ≤ sf ∧ sf ≤ (pieceD (moreR p d)).length := by
    rw [hpd, List.length_append]
    have := h.safe
    omega
  have fits' : sumL (fullImg ps ++ [lastA (moreR p d) sf]) ≤ s.room := by
    rw [sum_last]
    have h1 := h.fits
    rwa [sum_last] at h1
  have size' : (pieceD (moreR p d)).length ≤ 80000 := by rw [hpd, List.length_append]; omega
  rcases hc with ⟨e2, hi⟩ | ⟨e2, hi⟩
  · left
    have hap : appTail s l d = ((appendF s (walName p.num) (frameL d)).1, metF l (appendF s (walName p.num) (frameL d)).2, 0, (appendF s (walName p.num) (frameL d)).2) := by
      unfold appTail
      rw [h.lastP, if_pos (by rw [e2]; simp)]
    rw [hap]
    have e3 : fullImg ps ++ [lastA (moreR p d) sf] ++ nwImg (moreR p d) false = fullImg ps ++ [lastA (moreR p d) sf] := List.append_nil _
    exact ⟨e2, by rw [e3, hi.down]; exact hi, hok, fun c => (by rw [hi.down] at c; cases c), each', chain', h.lt, h.inc, fun c => (by cases c), safe', by rw [e3, hr]; exact fits', size', h.lim6⟩
  · right
    have hap : appTail s l d = ((appendF s (walName p.num) (frameL d)).1, { l with size := l.size + (frameL d).length, next := l.next + 1 }, l.next, 0) := by
      unfold appTail
      rw [h.lastP, e2, if_neg (by simp)]
    rw [hap]
    refine ⟨by rw [h.log], hi, hok, ?_, each', chain', h.lt, h.inc, safe', by rw [hr]; exact fits', size', h.lim6⟩
    rw [h.log, hpd]
    simp [heads, moreR]
    omega
/-- A new piece. -/
theorem LgU.new {lim : Nat} {s : DS} {l : LogP} {F : Nat} {ps : List PcS} {p : PcS} (h : LgU lim s l F ps p (pieceD p).length) (hn : p.num + 1 ≤ 999999) (hf : p.first + p.recs.length ≤ 1099511627776) (hst : s.steps < 4611686018427380000) :
    (∃ e, e ≠ 0 ∧ (beginF s l (p.num + 1) (p.first + p.recs.length)).2.2 = e ∧ ∃ nw, LgP lim (beginF s l (p.num + 1) (p.first + p.recs.length)).1 (beginF s l (p.num + 1) (p.first + p.recs.length)).2.1 F ps p (pieceD p).length nw) ∨
    ((beginF s l (p.num + 1) (p.first + p.recs.length)).2.2 = 0 ∧ LgU lim (beginF s l (p.num + 1) (p.first + p.recs.length)).1 (beginF s l (p.num + 1) (p.first + p.recs.length)).2.1 F (ps ++ [p]) (nextP p) (pieceD (nextP p)).length) := by
  have hp := h.each p (by simp)
  have hup := h.im
  rw [← fullImg_snoc] at hup
  have hlow : ∀ x ∈ fullImg (ps ++ [p]), toL x.1 < toL (walName (p.num + 1)) := by
    intro x hx
    obtain ⟨y, hy, rfl⟩ := List.mem_map.1 hx
    refine walName_lt ?_ hn
    rcases List.mem_append.1 hy with hy | hy
    · have := h.lt y hy; omega
    · rw [List.mem_singleton.1 hy]; omega
  have hne : ∀ x ∈ fullImg (ps ++ [p]), x.1 ≠ walName (p.num + 1) := fun x hx e => by
    have := hlow x hx
    rw [e] at this
    exact List.lt_irrefl _ this
  have hno : alGet (walName (p.num + 1)) (fullImg (ps ++ [p])) = none := (alGet_none _ _).2 fun c => by
    obtain ⟨x, hx, e⟩ := List.mem_map.1 c
    exact hne x hx e
  have hz := get0_none hno
  have hk := nameOk_wal (p.num + 1)
  have hhl := headerL_len (p.num + 1) (p.first + p.recs.length)
  have hpn := pieceD_next p
  have offs : ∀ (t : DS) (l' : LogP) (H : List UInt8), H = headerL (p.num + 1) (p.first + p.recs.length) → At9 t (fullImg (ps ++ [p]) ++ [(walName (p.num + 1), ⟨H, 0⟩)]) true → DOk t → t.room = s.room → LgP lim t l' F ps p (pieceD p).length true := by
    intro t l' H hH hi hok hr
    have e : fullImg ps ++ [lastA p (pieceD p).length] ++ nwImg p true = fullImg (ps ++ [p]) ++ [(walName (p.num + 1), ⟨H, 0⟩)] := by
      rw [fullImg_snoc, hH]; rfl
    refine ⟨by rw [e, hi.down]; exact hi, hok, fun c => (by rw [hi.down] at c; cases c), h.each, h.chain, h.lt, h.inc, fun _ => ⟨hn, hf, rfl⟩, h.safe, ?_, h.size, h.lim6⟩
    rw [e, hr, sumL_append, fullImg_snoc]
    have := h.fits
    simp [sumL]
    omega
  by_cases h64 : (fullImg (ps ++ [p])).length < 64
  case neg =>
    left
    have e : appendF s (walName (p.num + 1)) (headerL (p.num + 1) (p.first + p.recs.length)) = (s, 43) := by
      unfold appendF
      rw [bars_up hup.down hk (fun e => by simp at e), if_neg (by simp), if_pos ⟨by rw [hup.get]; exact hno, by rw [← hup.sim.len]; omega⟩]
    have hb : beginF s l (p.num + 1) (p.first + p.recs.length) = (s, l, 43) := by
      unfold beginF
      rw [e, if_pos (by simp)]
      rfl
    rw [hb]
    exact ⟨43, by decide, rfl, false, h.lgp⟩
  obtain ⟨r1, hc1⟩ := hup.append hk (Or.inr h64) (d := headerL (p.num + 1) (p.first + p.recs.length)) (by rw [hz]; simp only [List.length_nil]; omega)
  have s1 := appendF_steps s (walName (p.num + 1)) (headerL (p.num + 1) (p.first + p.recs.length))
  have ok1 := appendF_ok h.ok (walName (p.num + 1)) (headerL (p.num + 1) (p.first + p.recs.length)) (by omega)
  rw [hz] at hc1
  simp only [List.nil_append] at hc1
  rw [ins_last hlow] at hc1
  rcases hc1 with ⟨e1, u1⟩ | ⟨e1, u1⟩
  · left
    have hb : beginF s l (p.num + 1) (p.first + p.recs.length) = ((appendF s (walName (p.num + 1)) (headerL (p.num + 1) (p.first + p.recs.length))).1, metF l (appendF s (walName (p.num + 1)) (headerL (p.num + 1) (p.first + p.recs.length))).2, (appendF s (walName (p.num + 1)) (headerL (p.num + 1) (p.first + p.recs.length))).2) := by
      unfold beginF
      rw [if_pos (by rw [e1]; simp)]
    rw [hb]
    exact ⟨2, by decide, e1, true, offs _ _ _ rfl u1 ok1 r1⟩
  have hbe : beginF s l (p.num + 1) (p.first + p.recs.length) = beginB (syncF (appendF s (walName (p.num + 1)) (headerL (p.num + 1) (p.first + p.recs.length))).1 (walName (p.num + 1))) l (p.num + 1) (p.first + p.recs.length) := by
    unfold beginF
    rw [e1, if_neg (by simp)]
  rw [hbe]
  clear hbe e1
  generalize hH : headerL (p.num + 1) (p.first + p.recs.length) = H at *
  have hg1 : alGet (walName (p.num + 1)) (fullImg (ps ++ [p]) ++ [(walName (p.num + 1), ⟨H, 0⟩)]) = some ⟨H, 0⟩ := get_last hne
  generalize (appendF s (walName (p.num + 1)) H).1 = t at *
  have hsm : sumL (fullImg (ps ++ [p]) ++ [(walName (p.num + 1), ⟨H, 0⟩)]) = sumL (fullImg (ps ++ [p])) := by
    rw [sumL_append]
    simp [sumL]
  have ok2 := syncF_ok ok1 (walName (p.num + 1)) (by omega)
  obtain ⟨r2, hc2⟩ := u1.sync hk hg1
  rcases hc2 with ⟨c1, c2⟩ | ⟨c1, ⟨c2, u2⟩ | ⟨c2, u2⟩⟩
  · left
    have ok3 := dropF_ok ok1 (walName (p.num + 1)) (by omega)
    obtain ⟨r3, hc3⟩ := u1.drop hk (by rw [hg1]; simp)
    rcases hc3 with ⟨e3, u3⟩ | ⟨e3, u3⟩
    · have hbb : beginB (syncF t (walName (p.num + 1))) l (p.num + 1) (p.first + p.recs.length) = ((dropF t (walName (p.num + 1))).1, metF l (dropF t (walName (p.num + 1))).2, (dropF t (walName (p.num + 1))).2) := by
        unfold beginB
        rw [c2, if_pos rfl, if_pos (by rw [e3]; simp)]
      rw [hbb]
      exact ⟨2, by decide, e3, true, offs _ _ _ rfl u3 ok3 (r3.trans r1)⟩
    · have hbb : beginB (syncF t (walName (p.num + 1))) l (p.num + 1) (p.first + p.recs.length) = ((dropF t (walName (p.num + 1))).1, l, 42) := by
        unfold beginB
        rw [c2, if_pos rfl, e3, if_neg (by simp)]
      rw [hbb]
      have hfil : (fullImg (ps ++ [p]) ++ [(walName (p.num + 1), (⟨H, 0⟩ : AreaP))]).filter (fun y => decide (y.1 ≠ walName (p.num + 1))) = fullImg (ps ++ [p]) := by
        rw [List.filter_append, filter_ne (fun c => by
          obtain ⟨x, hx, e⟩ := List.mem_map.1 c
          exact hne x hx e)]
        simp
      rw [hfil, fullImg_snoc] at u3
      have hff := h.fits
      rw [sum_last] at hff
      exact ⟨42, by decide, rfl, false, (h.same u3 ok3 (r3.trans r1) h.safe hff).lgp⟩
  · left
    have hbb : beginB (syncF t (walName (p.num + 1))) l (p.num + 1) (p.first + p.recs.length) = ((syncF t (walName (p.num + 1))).1, metF l (syncF t (walName (p.num + 1))).2, (syncF t (walName (p.num + 1))).2) := by
      unfold beginB
      rw [if_neg (by rw [c2]; simp), if_pos (by rw [c2]; simp)]
    rw [hbb]
    exact ⟨2, by decide, c2, true, offs _ _ _ rfl u2 ok2 (r2.trans r1)⟩
  · right
    have hbb : beginB (syncF t (walName (p.num + 1))) l (p.num + 1) (p.first + p.recs.length) = ((syncF t (walName (p.num + 1))).1, beginOk l (p.num + 1) (p.first + p.recs.length), 0) := by
      unfold beginB
      rw [if_neg (by rw [c2]; simp), if_neg (by rw [c2]; simp)]
    rw [hbb]
    rw [hsm, r1] at c1
    simp only [] at c1
    have hcc := h.chain
    refine ⟨rfl, ?_, ok2, ?_, ?_, ?_, ?_, ?_, ⟨by omega, Int.le_refl _⟩, ?_, by rw [hpn]; omega, h.lim6⟩
    · rw [upd_last hne] at u2
      unfold lastA
      rw [hpn]
      exact u2
    · unfold beginOk
      rw [h.log, hpn]
      simp [heads, nextP]
      rw [hH]
    · intro x hx
      rcases List.mem_append.1 hx with hx | hx
      · exact h.each x hx
      · rw [List.mem_singleton.1 hx]
        exact ⟨⟨by show 1 ≤ p.num + 1; omega, hn⟩, ⟨by have := hp.first.1; show 1 ≤ p.first + p.recs.length; omega, hf⟩, fun d hd => by cases hd⟩
    · refine (chain_append (ps ++ [p]) _ F).2 ⟨hcc, ?_, trivial⟩
      have h1 := (chain_append ps [p] F).1 hcc
      have h2 : endOf F (ps ++ [p]) = endOf F ps + p.recs.length := by
        rw [end_chain, end_chain]
        simp [allOf]
        omega
      rw [h2, ← h1.2.1]
      rfl
    · intro x hx
      rcases List.mem_append.1 hx with hx | hx
      · have := h.lt x hx; show x.num < p.num + 1; omega
      · rw [List.mem_singleton.1 hx]; show p.num < p.num + 1; omega
    · refine List.pairwise_append.2 ⟨h.inc, List.pairwise_singleton _ _, fun a ha b hb => ?_⟩
      rw [List.mem_singleton.1 hb]
      exact h.lt a ha
    · rw [sum_last, r2, r1, hpn]
      omega

end Go.Proofs.YtgbgbokcohfnpaaGreat

/-
  PLAIN: a log's records, k of them safe: what Append, Sync, Trim and a loss of power make of them.
-/
namespace Go.Proofs.YtgbgbokcohfnpaaGreat
open Go.RowKit

structure LgS (lim : Nat) (s : DS) (l : LogP) (F : Nat) (D : List (List UInt8)) (k : Nat) : Prop where
  ex : ∃ ps p sf nw j, LgP lim s l F ps p sf nw ∧ D = allOf ps ++ p.recs ∧ j ≤ p.recs.length ∧ ((pieceD (tillP p j)).length : Int) ≤ sf ∧ k ≤ (allOf ps).length + j
theorem allOf_snoc (ps : List PcS) (p : PcS) : allOf (ps ++ [p]) = allOf ps ++ p.recs := by simp [allOf]
theorem LgS.le {lim : Nat} {s : DS} {l : LogP} {F : Nat} {D : List (List UInt8)} {k : Nat} (h : LgS lim s l F D k) : k ≤ D.length := by
  obtain ⟨ps, p, sf, nw, j, -, rfl, h2, -, h4⟩ := h.ex
  rw [List.length_append]
  omega
theorem chain_last {F : Nat} {ps : List PcS} {p : PcS} (h : Chain F (ps ++ [p])) : p.first = F + (allOf ps).length := by
  have h1 := (chain_append ps [p] F).1 h
  rw [h1.2.1, end_chain]
theorem LgP.relog {lim : Nat} {s : DS} {l l' : LogP} {F : Nat} {ps : List PcS} {p : PcS} {sf : Int} {nw : Bool} (h : LgP lim s l F ps p sf nw) (hd : s.down = true) : LgP lim s l' F ps p sf nw :=
  ⟨h.im, h.ok, fun c => (by rw [hd] at c; cases c), h.each, h.chain, h.lt, h.inc, h.nwok, h.safe, h.fits, h.size, h.lim6⟩
theorem LgS.relog {lim : Nat} {s : DS} {l l' : LogP} {F : Nat} {D : List (List UInt8)} {k : Nat} (h : LgS lim s l F D k) (hd : s.down = true) : LgS lim s l' F D k := by
  obtain ⟨ps, p, sf, nw, j, h1, h2⟩ := h.ex
  exact ⟨ps, p, sf, nw, j, h1.relog hd, h2⟩
theorem till_more (p : PcS) (d : List UInt8) {j : Nat} (hj : j ≤ p.recs.length) : tillP (moreR p d) j = tillP p j := by
  unfold tillP moreR
  rw [List.take_append_of_le_length hj]
theorem till_all (p : PcS) : tillP p p.recs.length = p := by
  unfold tillP
  rw [List.take_length]
theorem aliveF_down {s : DS} {l : LogP} (h : s.down = true) : aliveF s l = ({ l with shut := true }, 2) := by
  unfold aliveF
  rw [if_pos (Or.inr h)]
theorem header_piece {p : PcS} (h : p.recs = []) : (pieceD p).length ≤ 35 := by
  have := headerL_len p.num p.first
  unfold pieceD
  rw [h, frames_nil, List.append_nil]
  exact this
/-- What Append leaves. -/
theorem LgS.append {lim : Nat} {s : DS} {l : LogP} {F : Nat} {D : List (List UInt8)} {k : Nat} (h : LgS lim s l F D k) {d : List UInt8} (hd : d.length ≤ 8192) (hF : F + D.length ≤ 1099511627776) (hst : s.steps < 4611686018427370000) :
    ((appendLF s l d).2.2.2 ≠ 0 ∧ (LgS lim (appendLF s l d).1 (appendLF s l d).2.1 F D k ∨ LgS lim (appendLF s l d).1 (appendLF s l d).2.1 F (D ++ [d]) k)) ∨
    ((appendLF s l d).2.2 = (F + D.length, 0) ∧ LgS lim (appendLF s l d).1 (appendLF s l d).2.1 F (D ++ [d]) k) := by
  obtain ⟨ps, p, sf, nw, j, h1, rfl, h2, h3, h4⟩ := h.ex
  cases hdn : s.down with
  | true =>
    left
    unfold appendLF
    rw [aliveF_down hdn, if_pos (by simp)]
    exact ⟨by simp, Or.inl (h.relog hdn)⟩
  | false =>
    have u := h1.up hdn
    have hcl := chain_last u.chain
    have hlog := u.log
    have hnx : l.next = p.first + p.recs.length := by rw [hlog]
    have hle : F + (allOf ps ++ p.recs).length = p.first + p.recs.length := by rw [List.length_append, hcl]; omega
    have more : ∀ (s' : DS) (l' : LogP) (qs : List PcS) (q : PcS) (sf' : Int) (nw' : Bool) (j' : Nat), LgP lim s' l' F qs (moreR q d) sf' nw' → allOf qs ++ q.recs = allOf ps ++ p.recs → j' ≤ q.recs.length → ((pieceD (tillP q j')).length : Int) ≤ sf' → k ≤ (allOf qs).length + j' → LgS lim s' l' F (allOf ps ++ p.recs ++ [d]) k := fun s' l' qs q sf' nw' j' a b c e f =>
      ⟨qs, moreR q d, sf', nw', j', a, by rw [← b]; simp [moreR], by simp [moreR]; omega, by rw [till_more q d c]; exact e, f⟩
    unfold appendLF
    rw [u.alive, if_neg (by simp), if_neg (by omega), u.lastP]
    simp only []
    by_cases hr : l.limit ≤ l.size ∧ p.first < l.next
    case neg =>
      rw [if_neg hr]
      have hsz : (pieceD p).length ≤ 65536 := by
        rw [hlog] at hr
        simp only [] at hr
        by_cases c1 : (pieceD p).length < lim
        · have := u.lim6; omega
        · have := header_piece (List.eq_nil_of_length_eq_zero (show p.recs.length = 0 by omega))
          omega
      rcases u.tail hd hsz (by omega) with ⟨a, b⟩ | ⟨a, b⟩
      · exact Or.inl ⟨by rw [a]; simp, Or.inr (more _ _ ps p sf false j b rfl h2 h3 h4)⟩
      · exact Or.inr ⟨by rw [a, hle], more _ _ ps p sf false j b.lgp rfl h2 h3 h4⟩
    rw [if_pos hr]
    by_cases h9 : 999999 ≤ p.num
    · rw [if_pos h9]
      exact Or.inl ⟨by simp, Or.inl h⟩
    rw [if_neg h9]
    have s1 := syncF_steps s (walName p.num)
    rcases u.sync (by omega) with a | ⟨a, b⟩ | ⟨a, b⟩
    · left
      rw [a]
      unfold rollF
      rw [if_pos (by simp)]
      exact ⟨by simp, Or.inl h⟩
    · left
      unfold rollF
      rw [if_pos (by rw [a]; simp)]
      exact ⟨by rw [a]; simp, Or.inl ⟨ps, p, sf, false, j, b _, rfl, h2, h3, h4⟩⟩
    · unfold rollF
      rw [a, if_neg (by simp), u.lastP, hnx]
      simp only []
      generalize (syncF s (walName p.num)).1 = t at *
      have s2 := beginF_steps t l (p.num + 1) (p.first + p.recs.length)
      have hsafe : ((pieceD (tillP p p.recs.length)).length : Int) ≤ (pieceD p).length := by rw [till_all]; exact Int.le_refl _
      rcases b.new (by omega) (by omega) (by omega) with ⟨e, e1, e2, nw', e3⟩ | ⟨e, e3⟩
      · left
        unfold roll2
        rw [if_pos (by rw [e2]; exact e1)]
        exact ⟨by rw [e2]; exact e1, Or.inl ⟨ps, p, _, nw', p.recs.length, e3, rfl, Nat.le_refl _, hsafe, by omega⟩⟩
      · unfold roll2
        rw [if_neg (by rw [e]; simp)]
        generalize beginF t l (p.num + 1) (p.first + p.recs.length) = R at *
        have hq : (pieceD (nextP p)).length ≤ 65536 := by have := header_piece (p := nextP p) rfl; omega
        have hnr : (nextP p).recs = [] := rfl
        have hD : allOf (ps ++ [p]) ++ (nextP p).recs = allOf ps ++ p.recs := by rw [allOf_snoc, hnr, List.append_nil]
        have h0 : ((pieceD (tillP (nextP p) 0)).length : Int) ≤ ((pieceD (nextP p)).length : Int) := Int.le_refl _
        have hk : k ≤ (allOf (ps ++ [p])).length + 0 := by rw [allOf_snoc, List.length_append]; omega
        rcases e3.tail hd hq (by omega) with ⟨x, y⟩ | ⟨x, y⟩
        · exact Or.inl ⟨by rw [x]; simp, Or.inr (more _ _ (ps ++ [p]) (nextP p) _ false 0 y hD (Nat.zero_le _) h0 hk)⟩
        · refine Or.inr ⟨?_, more _ _ (ps ++ [p]) (nextP p) _ false 0 y.lgp hD (Nat.zero_le _) h0 hk⟩
          rw [x, hle]
          show (p.first + p.recs.length + 0, 0) = _
          rw [Nat.add_zero]
/-- What Sync leaves. -/
theorem LgS.sync {lim : Nat} {s : DS} {l : LogP} {F : Nat} {D : List (List UInt8)} {k : Nat} (h : LgS lim s l F D k) (hst : s.steps < 4611686018427370000) :
    ((syncLF s l).2.2 ≠ 0 ∧ LgS lim (syncLF s l).1 (syncLF s l).2.1 F D k) ∨ ((syncLF s l).2.2 = 0 ∧ LgS lim (syncLF s l).1 (syncLF s l).2.1 F D D.length ∧ (syncLF s l).1.down = false) := by
  obtain ⟨ps, p, sf, nw, j, h1, hD, h2, h3, h4⟩ := h.ex
  cases hdn : s.down with
  | true =>
    left
    unfold syncLF
    rw [aliveF_down hdn, if_pos (by simp)]
    exact ⟨by simp, h.relog hdn⟩
  | false =>
    have u := h1.up hdn
    unfold syncLF
    rw [u.alive, if_neg (by simp), u.lastP]
    simp only []
    rcases u.sync (by omega) with a | ⟨a, b⟩ | ⟨a, b⟩
    · left
      rw [a]
      exact ⟨by simp, h⟩
    · left
      exact ⟨by rw [a]; simp, ⟨ps, p, sf, false, j, b _, hD, h2, h3, h4⟩⟩
    · right
      refine ⟨a, ⟨ps, p, _, false, p.recs.length, ?_, hD, Nat.le_refl _, by rw [till_all]; exact Int.le_refl _, by rw [hD, List.length_append]; exact Nat.le_refl _⟩, b.im.down⟩
      rw [a]
      exact b.lgp
/-- Records written one behind the other, then made safe. -/
theorem LgS.write : ∀ (ds : List (List UInt8)) (b : Bool) (f : Nat) {lim : Nat} {s : DS} {l : LogP} {F : Nat} {D : List (List UInt8)} {k : Nat}, LgS lim s l F D k → (∀ d ∈ ds, d.length ≤ 8192) → F + D.length + ds.length ≤ 1099511627776 → s.steps + 6 * ds.length < 4611686018427360000 →
    ((writeF ds b f s l).2.2.2 ≠ 0 ∧ ∃ i, i ≤ ds.length ∧ LgS lim (writeF ds b f s l).1 (writeF ds b f s l).2.1 F (D ++ ds.take i) k) ∨
    ((writeF ds b f s l).2.2.2 = 0 ∧ LgS lim (writeF ds b f s l).1 (writeF ds b f s l).2.1 F (D ++ ds) (D ++ ds).length ∧ (writeF ds b f s l).2.2.1 = (if b = true ∧ ds ≠ [] then F + D.length else f))
  | [], b, f, lim, s, l, F, D, k, h, _, _, hst => by
    unfold writeF
    rcases h.sync (by simp only [List.length_nil] at hst; omega) with ⟨a, c⟩ | ⟨a, c, -⟩
    · exact Or.inl ⟨a, 0, Nat.le_refl _, by simpa using c⟩
    · exact Or.inr ⟨a, by simpa using c, by simp⟩
  | d :: r, b, f, lim, s, l, F, D, k, h, hd, hF, hst => by
    rw [List.length_cons] at hF hst
    have st := appendLF_steps s l d
    unfold writeF
    rcases h.append (hd d (List.mem_cons_self ..)) (by omega) (by omega) with ⟨a, c⟩ | ⟨a, c⟩
    · rw [if_pos a]
      left
      refine ⟨a, ?_⟩
      rcases c with c | c
      · exact ⟨0, Nat.zero_le _, by simpa using c⟩
      · exact ⟨1, by simp, by simpa using c⟩
    · have a0 : (appendLF s l d).2.2.2 = 0 := by rw [a]
      have a1 : (appendLF s l d).2.2.1 = F + D.length := by rw [a]
      rw [if_neg (by rw [a0]; simp), a1]
      rcases LgS.write r false (if b = true then F + D.length else f) c (fun x hx => hd x (List.mem_cons_of_mem _ hx)) (by rw [List.length_append]; simp only [List.length_cons, List.length_nil]; omega) (by omega) with ⟨e1, i, e2, e3⟩ | ⟨e1, e2, e3⟩
      · left
        exact ⟨e1, i + 1, by simp; omega, by rw [List.take_succ_cons]; simpa using e3⟩
      · right
        refine ⟨e1, by simpa using e2, ?_⟩
        rw [e3]
        simp
/-- What Trim leaves of records that are all safe. -/
theorem LgS.trimL (idx : Int) : ∀ (ps : List PcS) {lim : Nat} {s : DS} {l : LogP} {F : Nat} {p : PcS}, LgU lim s l F ps p (pieceD p).length → s.steps + ps.length < 4611686018427360000 →
    ∃ j, (j = 0 ∨ ((F + j : Nat) : Int) ≤ idx) ∧ j ≤ (allOf ps ++ p.recs).length ∧ LgS lim (trimLoop idx l.pieces s l).1 (trimLoop idx l.pieces s l).2.1 (F + j) ((allOf ps ++ p.recs).drop j) ((allOf ps ++ p.recs).length - j)
  | [], lim, s, l, F, p, h, _ => by
    have e : l.pieces = [(p.num, p.first)] := by rw [h.log]; rfl
    rw [e, trimLoop_one]
    exact ⟨0, Or.inl rfl, Nat.zero_le _, ⟨[], p, _, false, p.recs.length, h.lgp, rfl, Nat.le_refl _, by rw [till_all]; exact Int.le_refl _, by simp [allOf]⟩⟩
  | x :: r, lim, s, l, F, p, h, hst => by
    obtain ⟨y, t, hyt⟩ : ∃ y t, r ++ [p] = y :: t := by
      cases r with
      | nil => exact ⟨p, [], rfl⟩
      | cons y t => exact ⟨y, t ++ [p], rfl⟩
    have hl : l.pieces = heads ((x :: r) ++ [p]) := by rw [h.log]
    have e : l.pieces = (x.num, x.first) :: (y.num, y.first) :: heads t := by
      rw [hl]
      show heads (x :: (r ++ [p])) = _
      rw [hyt]
      rfl
    have hrl : (x :: r).length = r.length + 1 := rfl
    have stay : ∀ (s' : DS) (l' : LogP), LgP lim s' l' F (x :: r) p (pieceD p).length false → ∃ j, (j = 0 ∨ ((F + j : Nat) : Int) ≤ idx) ∧ j ≤ (allOf (x :: r) ++ p.recs).length ∧ LgS lim s' l' (F + j) ((allOf (x :: r) ++ p.recs).drop j) ((allOf (x :: r) ++ p.recs).length - j) := fun s' l' hp =>
      ⟨0, Or.inl rfl, Nat.zero_le _, ⟨x :: r, p, _, false, p.recs.length, hp, rfl, Nat.le_refl _, by rw [till_all]; exact Int.le_refl _, by simp⟩⟩
    rw [e, trimLoop_cons]
    by_cases hi : (y.first : Int) ≤ idx
    case neg =>
      rw [if_neg hi]
      exact stay s l h.lgp
    rw [if_pos hi]
    simp only []
    have him := h.im
    have e9 : fullImg (x :: r) ++ [lastA p (pieceD p).length] = (walName x.num, full (pieceD x)) :: (fullImg r ++ [lastA p (pieceD p).length]) := rfl
    rw [e9] at him
    have dok := dropF_ok h.ok (walName x.num) (by omega)
    have dst := dropF_steps s (walName x.num)
    obtain ⟨rr, hc⟩ := him.drop (nameOk_wal x.num) (by rw [alGet_cons, if_pos rfl]; simp)
    rcases hc with ⟨e2, hi2⟩ | ⟨e2, hi2⟩
    · rw [if_pos (by rw [e2]; simp)]
      exact stay _ _ (h.off (by rw [e9]; exact hi2) dok rr)
    · rw [if_neg (by rw [e2]; simp)]
      have hnd := List.nodup_cons.1 (show (walName x.num :: (fullImg r ++ [lastA p (pieceD p).length]).map (·.1)).Nodup from him.sim.srt.nodup)
      rw [List.filter_cons_of_neg (by simp), filter_ne hnd.1] at hi2
      have hch := h.chain
      have hx : x.first = F ∧ Chain (F + x.recs.length) (r ++ [p]) := hch
      have hf := h.fits
      rw [e9] at hf
      have hsx : sumL ((walName x.num, full (pieceD x)) :: (fullImg r ++ [lastA p (pieceD p).length])) = (pieceD x).length + sumL (fullImg r ++ [lastA p (pieceD p).length]) := by simp [sumL, full]
      rw [hsx] at hf
      have hinc := List.pairwise_cons.1 h.inc
      have hu : LgU lim (dropF s (walName x.num)).1 { l with pieces := (y.num, y.first) :: heads t } (F + x.recs.length) r p (pieceD p).length := by
        refine ⟨hi2, dok, ?_, fun z hz => h.each z (List.mem_cons_of_mem _ hz), hx.2, fun z hz => h.lt z (List.mem_cons_of_mem _ hz), hinc.2, h.safe, by rw [rr]; omega, h.size, h.lim6⟩
        rw [h.log, hyt]
        rfl
      have hyf : y.first = F + x.recs.length := by
        have := hx.2
        rw [hyt] at this
        exact this.1
      obtain ⟨j, g1, g2, g3⟩ := LgS.trimL idx r hu (by omega)
      have eD : allOf (x :: r) ++ p.recs = x.recs ++ (allOf r ++ p.recs) := by simp [allOf]
      refine ⟨x.recs.length + j, ?_, ?_, ?_⟩
      · right
        rcases g1 with g1 | g1
        · subst g1
          rw [hyf] at hi
          simpa using hi
        · rw [← Nat.add_assoc]; exact g1
      · rw [eD, List.length_append]; omega
      · rw [eD, ← List.drop_drop, List.drop_left' rfl, List.length_append, show x.recs.length + (allOf r ++ p.recs).length - (x.recs.length + j) = (allOf r ++ p.recs).length - j by omega, ← Nat.add_assoc]
        exact g3
theorem LgS.trim {lim : Nat} {s : DS} {l : LogP} {F : Nat} {D : List (List UInt8)} (h : LgS lim s l F D D.length) (idx : Int) (hst : s.steps + l.pieces.length < 4611686018427360000) :
    ∃ j, (j = 0 ∨ ((F + j : Nat) : Int) ≤ idx) ∧ j ≤ D.length ∧ LgS lim (trimLF s l idx).1 (trimLF s l idx).2.1 (F + j) (D.drop j) (D.length - j) := by
  obtain ⟨ps, p, sf, nw, j, h1, hD, h2, h3, h4⟩ := h.ex
  cases hdn : s.down with
  | true =>
    unfold trimLF
    rw [aliveF_down hdn, if_pos (by simp)]
    exact ⟨0, Or.inl rfl, Nat.zero_le _, by simpa using h.relog hdn⟩
  | false =>
    have u := h1.up hdn
    unfold trimLF
    rw [u.alive, if_neg (by simp)]
    have hj : j = p.recs.length := by rw [hD, List.length_append] at h4; omega
    subst hj
    rw [till_all] at h3
    have hsf : sf = (pieceD p).length := by have := u.safe; omega
    subst hsf
    have hlp : l.pieces.length = ps.length + 1 := by rw [u.log]; simp [heads]
    obtain ⟨i, g1, g2, g3⟩ := LgS.trimL idx ps u (by omega)
    rw [hD]
    exact ⟨i, g1, g2, g3⟩

end Go.Proofs.YtgbgbokcohfnpaaGreat

/-
  PLAIN: a log opened behind a loss of power: the records that were safe, and some that followed.
-/
namespace Go.Proofs.YtgbgbokcohfnpaaGreat
open Go.RowKit

/-- What is left of frames that are cut: whole ones, as many as fit. -/
theorem split_cut {ds : List (List UInt8)} (h : ∀ d ∈ ds, d.length ≤ 8192) (n : Nat) : ∃ j, j ≤ ds.length ∧ splitL ((frames ds).take n) = ds.take j ∧ (∀ i, i ≤ ds.length → (frames (ds.take i)).length ≤ n → i ≤ j) ∧ ∃ r, (frames ds).take n = frames (ds.take j) ++ r := by
  obtain ⟨r, hb, -, he⟩ := split_pre ((frames ds).take n).length ((frames ds).take n) (Nat.le_refl _)
  generalize hE : splitL ((frames ds).take n) = E at *
  have h1 : frames ds = frames E ++ (r ++ (frames ds).drop n) := by
    rw [← List.append_assoc, ← hb, List.take_append_drop]
  have h2 : ds = E ++ splitL (r ++ (frames ds).drop n) := by
    have h3 := splitL_all h
    rw [h1, splitL_frames E _ he] at h3
    exact h3.symm
  have h4 : E = ds.take E.length := by
    conv => rhs; rw [h2]
    rw [List.take_left' rfl]
  refine ⟨E.length, ?_, h4, fun i hi hl => ?_, r, by rw [← h4]; exact hb⟩
  · rw [h2, List.length_append]; omega
  · have e1 : frames ds = frames (ds.take i) ++ frames (ds.drop i) := by rw [← frames_append, List.take_append_drop]
    have e2 : (frames ds).take n = frames (ds.take i) ++ (frames (ds.drop i)).take (n - (frames (ds.take i)).length) := by
      rw [e1, List.take_append, List.take_of_length_le hl]
    rw [e2, splitL_frames _ _ (fun d hd => h d (List.mem_of_mem_take hd))] at hE
    rw [← hE, List.length_append, List.length_take]
    omega
theorem pieceD_till (p : PcS) (j : Nat) : pieceD (tillP p j) = frames (((numL p.num ++ numL p.first) :: p.recs).take (j + 1)) := by
  rw [List.take_succ_cons]
  exact pieceD_frames (tillP p j)
/-- A cut piece, scanned. -/
theorem scan_cut {p : PcS} (h : PcOk p) {n j : Nat} (hj : j ≤ p.recs.length) (hn : (pieceD (tillP p j)).length ≤ n) {f : FoundS} (hw : f.whole = true) (hx : f.pieces = [] ∨ f.next = p.first) :
    ∃ i, j ≤ i ∧ i ≤ p.recs.length ∧ (pieceD (tillP p i)).length ≤ ((pieceD p).take n).length ∧ ((pieceD p).take n).take (pieceD (tillP p i)).length = pieceD (tillP p i) ∧
      scan1 f (walName p.num) ((pieceD p).take n) = ⟨f.pieces ++ [(p.num, p.first)], f.recs ++ numbered p.first (p.recs.take i), p.first + i, (pieceD (tillP p i)).length, decide ((pieceD (tillP p i)).length = ((pieceD p).take n).length), f.rest⟩ := by
  have hds : ∀ d ∈ (numL p.num ++ numL p.first) :: p.recs, d.length ≤ 8192 := fun d hd => by
    rcases List.mem_cons.1 hd with e | e
    · rw [e]; exact header_small _ _
    · exact h.recs d e
  obtain ⟨m, m1, m2, m3, r, m4⟩ := split_cut hds n
  rw [← pieceD_frames] at m2 m4
  have hm := m3 (j + 1) (by simp; omega) (by rw [← pieceD_till]; exact hn)
  obtain ⟨i, rfl⟩ : ∃ i, m = i + 1 := ⟨m - 1, by omega⟩
  have hi : i ≤ p.recs.length := by simpa using m1
  rw [← pieceD_till] at m4
  have hil : (p.recs.take i).length = i := by rw [List.length_take]; omega
  refine ⟨i, by omega, hi, ?_, ?_, ?_⟩
  · rw [m4, List.length_append]; omega
  · rw [m4, List.take_left' rfl]
  · have hnm := number_of p.num h.num.2
    have hh : headOf (splitL ((pieceD p).take n)) p.num = (p.first, true) := by
      rw [m2, List.take_succ_cons]
      exact begins_header p.num p.first h.num.2 h.first.2 h.first.1
    have hl : (frames (splitL ((pieceD p).take n))).length = (pieceD (tillP p i)).length := by rw [m2, ← pieceD_till]
    rw [scan1_eq, hnm, if_neg (by have := h.num.1; omega), if_neg]
    · unfold tookF
      rw [hnm, hh, hl, m2]
      simp only [List.take_succ_cons, List.tail_cons]
      rw [hil]
    · unfold strayB
      rw [hnm, hh, hw]
      rintro (c | c | ⟨c1, c2⟩)
      · cases c
      · cases c
      · rcases hx with e | e
        · rw [e] at c1
          simp at c1
        · exact c2 e.symm
theorem fold_full {ps : List PcS} {F : Nat} (hc : Chain F ps) (hk : ∀ p ∈ ps, PcOk p) : ∃ nx g, foldS (datOf ps) found0 = ⟨heads ps, recsOf ps, nx, g, true, []⟩ ∧ (ps = [] ∨ nx = endOf F ps) := by
  by_cases h0 : ps = []
  · subst h0
    exact ⟨1, 0, rfl, Or.inl rfl⟩
  · refine ⟨endOf F ps, (pieceD (ps.getLast h0)).length, ?_, Or.inr rfl⟩
    have := scan_chain ps F found0 rfl (Or.inl rfl) hc hk h0
    rw [this]
    simp [found0]
/-- What is begun and cut: a stray, or a piece without records. -/
theorem scan_new {num first : Nat} (hn : 1 ≤ num ∧ num ≤ 999999) (hf : 1 ≤ first ∧ first ≤ 1099511627776) (n : Nat) {f : FoundS} (hp : f.pieces ≠ []) :
    (f.whole = true ∧ f.next = first ∧ (headerL num first).take n = headerL num first ∧ scan1 f (walName num) ((headerL num first).take n) = ⟨f.pieces ++ [(num, first)], f.recs, first, (headerL num first).length, true, f.rest⟩) ∨
    (scan1 f (walName num) ((headerL num first).take n) = { f with whole := false, rest := f.rest ++ [num] }) := by
  have hnm := number_of num hn.2
  have hfr : headerL num first = frames [numL num ++ numL first] := by rw [frames_cons, frames_nil, List.append_nil]; rfl
  obtain ⟨j, j1, j2, -, r, j4⟩ := split_cut (ds := [numL num ++ numL first]) (fun d hd => by rw [List.mem_singleton.1 hd]; exact header_small _ _) n
  rw [← hfr] at j2 j4
  have hj : j = 0 ∨ j = 1 := by simp at j1; omega
  rw [scan1_eq, hnm, if_neg (by omega)]
  by_cases hs : strayB f (walName num) ((headerL num first).take n)
  · rw [if_pos hs]
    exact Or.inr rfl
  · rw [if_neg hs]
    left
    have hs2 := hs
    unfold strayB at hs2
    rw [hnm] at hs2
    rcases hj with rfl | rfl
    · exfalso
      rw [j2] at hs2
      exact hs2 (Or.inr (Or.inl rfl))
    · have hsp : splitL ((headerL num first).take n) = [numL num ++ numL first] := j2
      have hh : headOf (splitL ((headerL num first).take n)) num = (first, true) := by
        rw [hsp]
        exact begins_header num first hn.2 hf.2 hf.1
      have e4 : (headerL num first).take n = headerL num first ++ r := by rw [j4, show List.take 1 [numL num ++ numL first] = [numL num ++ numL first] from rfl, ← hfr]
      have hlen : ((headerL num first).take n).length ≤ (headerL num first).length := by rw [List.length_take]; omega
      have hr : r = [] := by
        rw [e4, List.length_append] at hlen
        exact List.eq_nil_of_length_eq_zero (by omega)
      rw [hr, List.append_nil] at e4
      have hw : f.whole = true := by
        cases hw : f.whole with
        | true => rfl
        | false => exact absurd (Or.inl hw) hs2
      have hnx : f.next = first := by
        refine Classical.byContradiction fun c => hs2 (Or.inr (Or.inr ⟨List.length_pos_iff.2 hp, ?_⟩))
        rw [hh]
        exact fun e => c e.symm
      refine ⟨hw, hnx, e4, ?_⟩
      unfold tookF
      rw [hnm, hh, hsp, e4, ← hfr]
      simp [numbered]
/-- Opened: strays dropped, the last piece cut to what is whole of it. -/
theorem open_cut {s : DS} {L L1 : Img} (h : Up s L) (hok : DOk s) (n : Int) {f : FoundS} (hf : scanL (datL L) = f) (hp : f.pieces ≠ []) {s1 : DS} (hd : dropAll f.rest.reverse s = (s1, 0)) (h1 : Up s1 L1) (hok1 : DOk s1) (hr1 : s1.room = s.room) (hst : s1.steps < 4611686018427380000)
    {b : List UInt8} {x : Int} (hg : alGet (walName (lastP (foundL f n)).1) L1 = some ⟨b, x⟩) (hb : f.good ≤ b.length) (hx : (f.good : Int) ≤ x) (hs : sumL (upd (walName (lastP (foundL f n)).1) (full (b.take f.good)) L1) ≤ s.room) :
    ∃ s', openF s n = (s', some (foundL f n, f.recs), 0) ∧ Up s' (upd (walName (lastP (foundL f n)).1) (full (b.take f.good)) L1) ∧ s'.room = s.room ∧ DOk s' ∧ s'.steps ≤ s1.steps + 2 := by
  have hk := nameOk_wal (lastP (foundL f n)).1
  generalize hkk : walName (lastP (foundL f n)).1 = k at *
  have hcut : cutA (⟨b, x⟩ : AreaP) (f.good : Int) = full (b.take f.good) := by
    unfold cutA full
    simp only [Int.toNat_natCast, List.length_take]
    congr 1
    omega
  obtain ⟨e1, u1⟩ := h1.cut hk hg (n := f.good) hb
  rw [hcut] at u1
  have ok2 := cutF_ok hok1 k (f.good : Int) (by omega)
  have hr2 : (cutF s1 k (f.good : Int)).1.room = s.room := by rw [e1]; exact hr1
  have hg2 : alGet k (upd k (full (b.take f.good)) L1) = some (full (b.take f.good)) := alGet_upd hg
  have st2 : (cutF s1 k (f.good : Int)).1.steps = s1.steps + 1 := by rw [e1]; rfl
  have ok3 := syncF_ok ok2 k (by omega)
  rcases u1.sync hk hg2 with ⟨c, -⟩ | ⟨-, e2, u2⟩
  · rw [hr2] at c
    unfold full at c hs
    simp only [] at c
    omega
  rw [upd_same u1.sim.srt.nodup (show alGet k (upd k (full (b.take f.good)) L1) = some (full (full (b.take f.good)).data) from hg2)] at u2
  refine ⟨(syncF (cutF s1 k (f.good : Int)).1 k).1, ?_, u2, ?_, ok3, ?_⟩
  · unfold openF
    rw [if_neg (by rw [h.down]; simp), h.scan hok, hf]
    unfold openDrop
    rw [hd, if_neg (by simp), if_neg hp, hkk]
    unfold openCut
    rw [show (cutF s1 k (f.good : Int)).2 = 0 by rw [e1], if_neg (by simp)]
    unfold openSync
    rw [show (syncF (cutF s1 k (f.good : Int)).1 k).2 = 0 by rw [e2], if_neg (by simp)]
  · rw [e2, ← hr2]
    rfl
  · have := syncF_steps (cutF s1 k (f.good : Int)).1 k
    omega

end Go.Proofs.YtgbgbokcohfnpaaGreat
