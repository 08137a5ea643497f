/-
  The texts WalFullP, WalRollP, WalStartP, WalAgainP, WalCrashP, AtP in one: what the claim reaches of them.
-/
import Derived.Test.YtgbgbokcohfnpaaGreatP15
/-
  wal: A LOG OVER ITS IMAGE (every piece but the last is safe), in plain Lean.
-/
namespace Go.Proofs.YtgbgbokcohfnpaaGreat
open Go.RowKit

def lastA (p : PcS) (sf : Int) : ByteArray × AreaP := (walName p.num, ⟨pieceD p, sf⟩)
def fullImg (ps : List PcS) : Img := ps.map fun p => (walName p.num, full (pieceD p))
/-- An open log: pieces ps, all safe, and the last one, p, safe up to sf bytes. -/
structure FSt (lim : Nat) (s : DS) (l : LogP) (ps : List PcS) (p : PcS) (sf : Int) : Prop where
  up : Up s (fullImg ps ++ [lastA p sf])
  ok : DOk s
  log : l = ⟨lim, heads (ps ++ [p]), p.first + p.recs.length, (pieceD p).length, false⟩
  each : ∀ x ∈ ps ++ [p], PcOk x
  chain : Chain 1 (ps ++ [p])
  lt : ∀ x ∈ ps, x.num < p.num
  inc : ps.Pairwise fun a b => a.num < b.num
  safe : 0 ≤ sf ∧ sf ≤ (pieceD p).length
  fits : sumL (fullImg ps ++ [lastA p sf]) ≤ s.room
theorem FSt.others {lim : Nat} {s : DS} {l : LogP} {ps : List PcS} {p : PcS} {sf : Int} (h : FSt lim s l ps p sf) : ∀ x ∈ fullImg ps, x.1 ≠ walName p.num := by
  intro x hx e
  obtain ⟨y, hy, rfl⟩ := List.mem_map.1 hx
  have h1 := h.lt y hy
  have h2 := congrArg numberN e
  have h3 := (h.each y (List.mem_append_left _ hy)).num.2
  have h4 := (h.each p (by simp)).num.2
  simp only [] at h2
  rw [number_of _ h3, number_of _ h4] at h2
  omega
theorem FSt.lastP {lim : Nat} {s : DS} {l : LogP} {ps : List PcS} {p : PcS} {sf : Int} (h : FSt lim s l ps p sf) : Proofs.YtgbgbokcohfnpaaGreat.lastP l = (p.num, p.first) := by
  rw [h.log]
  unfold Proofs.YtgbgbokcohfnpaaGreat.lastP heads
  simp
theorem FSt.alive {lim : Nat} {s : DS} {l : LogP} {ps : List PcS} {p : PcS} {sf : Int} (h : FSt lim s l ps p sf) : aliveF s l = (l, 0) := by
  unfold aliveF
  rw [if_neg]
  rw [h.up.down, h.log]
  simp
theorem FSt.get {lim : Nat} {s : DS} {l : LogP} {ps : List PcS} {p : PcS} {sf : Int} (h : FSt lim s l ps p sf) : alGet (walName p.num) (fullImg ps ++ [lastA p sf]) = some ⟨pieceD p, sf⟩ := get_last h.others
theorem sum_last (L : Img) (p : PcS) (sf : Int) : sumL (L ++ [lastA p sf]) = sumL L + sf := by
  rw [sumL_append]
  simp [sumL, lastA]
/-- A sync: no room, or all is safe. -/
theorem FSt.sync {lim : Nat} {s : DS} {l : LogP} {ps : List PcS} {p : PcS} {sf : Int} (h : FSt lim s l ps p sf) (hst : s.steps < 4611686018427387904) : (s.room < sumL (fullImg ps) + (pieceD p).length ∧ syncF s (walName p.num) = (s, 42)) ∨ (¬ s.room < sumL (fullImg ps) + (pieceD p).length ∧ (syncF s (walName p.num)).2 = 0 ∧ (syncF s (walName p.num)).1.room = s.room ∧ FSt lim (syncF s (walName p.num)).1 l ps p (pieceD p).length) := by
  have hs := sum_last (fullImg ps) p sf
  rcases h.up.sync (nameOk_wal p.num) h.get with ⟨a, b⟩ | ⟨a, b, c⟩
  · left
    rw [hs] at a
    exact ⟨by simp only [] at a; omega, b⟩
  · right
    rw [hs] at a
    simp only [] at a
    refine ⟨by omega, by rw [b], by rw [b]; rfl, ?_, syncF_ok h.ok (walName p.num) hst, h.log, h.each, h.chain, h.lt, h.inc, ⟨by omega, by omega⟩, ?_⟩
    · have e : upd (walName p.num) (full (pieceD p)) (fullImg ps ++ [lastA p sf]) = fullImg ps ++ [lastA p (pieceD p).length] := upd_last h.others
      rw [← e]
      exact c
    · rw [sum_last, b]
      show _ ≤ s.room
      omega
theorem FSt.syncL {lim : Nat} {s : DS} {l : LogP} {ps : List PcS} {p : PcS} {sf : Int} (h : FSt lim s l ps p sf) : syncLF s l = ((syncF s (walName p.num)).1, metF l (syncF s (walName p.num)).2, (syncF s (walName p.num)).2) := by
  unfold syncLF
  rw [h.alive, if_neg (by simp), h.lastP]
/-- A record is laid behind the others. -/
theorem FSt.tail {lim : Nat} {s : DS} {l : LogP} {ps : List PcS} {p : PcS} {sf : Int} (h : FSt lim s l ps p sf) {d : List UInt8} (hd : d.length ≤ 8192) (hsz : (pieceD p).length + 8209 ≤ 4194304) (hst : s.steps < 4611686018427387904) : (appTail s l d).2.2 = (p.first + p.recs.length, 0) ∧ (appTail s l d).1.room = s.room ∧ FSt lim (appTail s l d).1 (appTail s l d).2.1 ps ⟨p.num, p.first, p.recs ++ [d]⟩ sf := by
  have hfl := frameL_le d
  have hpd : pieceD ⟨p.num, p.first, p.recs ++ [d]⟩ = pieceD p ++ frameL d := by
    unfold pieceD
    rw [frames_append, frames_cons, frames_nil, List.append_nil, List.append_assoc]
  have hg0 : get0 (walName p.num) (fullImg ps ++ [lastA p sf]) = ⟨pieceD p, sf⟩ := by unfold get0; rw [h.get]; rfl
  obtain ⟨a, u⟩ := h.up.append (d := frameL d) (nameOk_wal p.num) (Or.inl (by rw [h.get]; simp)) (by rw [hg0]; simp only []; omega)
  rw [hg0] at a u
  have hok := appendF_ok h.ok (walName p.num) (frameL d) hst
  have e0 : (appendF s (walName p.num) (frameL d)).2 = 0 := by rw [a]
  have er : (appendF s (walName p.num) (frameL d)).1.room = s.room := by rw [a]; rfl
  have hap : appTail s l d = ((appendF s (walName p.num) (frameL d)).1, { l with size := l.size + (frameL d).length, next := l.next + 1 }, l.next, 0) := by
    unfold appTail
    rw [h.lastP, e0, if_neg (by simp)]
  rw [hap]
  refine ⟨by rw [h.log], er, ?_, hok, ?_, ?_, ?_, h.lt, h.inc, ?_, ?_⟩
  · rw [ins_there h.up.sim.srt _ (mem_keys (by rw [h.get]; simp))] at u
    have e : upd (walName p.num) ⟨pieceD p ++ frameL d, sf⟩ (fullImg ps ++ [lastA p sf]) = fullImg ps ++ [lastA ⟨p.num, p.first, p.recs ++ [d]⟩ sf] := by
      unfold lastA
      rw [hpd]
      exact upd_last h.others
    rw [← e]
    exact u
  · rw [h.log, hpd]
    simp [heads]
    omega
  · intro x hx
    rcases List.mem_append.1 hx with hx | hx
    · exact h.each x (List.mem_append_left _ hx)
    · have hp := h.each p (by simp)
      rw [List.mem_singleton.1 hx]
      refine ⟨hp.num, hp.first, fun y hy => ?_⟩
      rcases List.mem_append.1 hy with hy | hy
      · exact hp.recs y hy
      · rw [List.mem_singleton.1 hy]; exact hd
  · have hc := (chain_append ps [p] 1).1 h.chain
    exact (chain_append ps _ 1).2 ⟨hc.1, hc.2.1, trivial⟩
  · rw [hpd, List.length_append]
    have := h.safe
    omega
  · rw [sum_last]
    have h1 := h.fits
    rw [sum_last] at h1
    rw [er]
    exact h1

end Go.Proofs.YtgbgbokcohfnpaaGreat

/-
  wal: A NEW PIECE, in plain Lean.
-/
namespace Go.Proofs.YtgbgbokcohfnpaaGreat
open Go.RowKit

def nextP (p : PcS) : PcS := ⟨p.num + 1, p.first + p.recs.length, []⟩
theorem pieceD_next (p : PcS) : pieceD (nextP p) = headerL (p.num + 1) (p.first + p.recs.length) := by
  unfold pieceD nextP
  rw [frames_nil, List.append_nil]
theorem fullImg_snoc (ps : List PcS) (p : PcS) : fullImg (ps ++ [p]) = fullImg ps ++ [lastA p (pieceD p).length] := by
  unfold fullImg
  rw [List.map_append]
  rfl
theorem FSt.new {lim : Nat} {s : DS} {l : LogP} {ps : List PcS} {p : PcS} (h : FSt lim s l ps p (pieceD p).length) (hn : p.num + 1 ≤ 999999) (hf : p.first + p.recs.length ≤ 1099511627776) (hst : s.steps < 4611686018427380000) :
    ((beginF s l (p.num + 1) (p.first + p.recs.length)) = (s, l, 43) ∧ 64 ≤ ps.length + 1) ∨
    ((beginF s l (p.num + 1) (p.first + p.recs.length)).2 = (l, 42) ∧ (beginF s l (p.num + 1) (p.first + p.recs.length)).1.room = s.room ∧ FSt lim (beginF s l (p.num + 1) (p.first + p.recs.length)).1 l ps p (pieceD p).length ∧ s.room < sumL (fullImg (ps ++ [p])) + 35) ∨
    ((beginF s l (p.num + 1) (p.first + p.recs.length)).2.2 = 0 ∧ (beginF s l (p.num + 1) (p.first + p.recs.length)).1.room = s.room ∧ FSt lim (beginF s l (p.num + 1) (p.first + p.recs.length)).1 (beginF s l (p.num + 1) (p.first + p.recs.length)).2.1 (ps ++ [p]) (nextP p) (pieceD (nextP p)).length) := by
  have hp := h.each p (by simp)
  have hup := h.up
  rw [← fullImg_snoc] at hup
  have hlow : ∀ x ∈ fullImg (ps ++ [p]), toL x.1 < toL (walName (p.num + 1)) := by
    intro x hx
    obtain ⟨y, hy, rfl⟩ := List.mem_map.1 hx
    refine walName_lt ?_ hn
    rcases List.mem_append.1 hy with hy | hy
    · have := h.lt y hy; omega
    · rw [List.mem_singleton.1 hy]; omega
  have hne : ∀ x ∈ fullImg (ps ++ [p]), x.1 ≠ walName (p.num + 1) := fun x hx e => by
    have := hlow x hx
    rw [e] at this
    exact List.lt_irrefl _ this
  have hno : alGet (walName (p.num + 1)) (fullImg (ps ++ [p])) = none := (alGet_none _ _).2 fun c => by
    obtain ⟨x, hx, e⟩ := List.mem_map.1 c
    exact hne x hx e
  have hz := get0_none hno
  have hk := nameOk_wal (p.num + 1)
  have hhl := headerL_len (p.num + 1) (p.first + p.recs.length)
  have hpn := pieceD_next p
  have hlen : (fullImg (ps ++ [p])).length = ps.length + 1 := by simp [fullImg]
  by_cases h64 : (fullImg (ps ++ [p])).length < 64
  case neg =>
    left
    have e : appendF s (walName (p.num + 1)) (headerL (p.num + 1) (p.first + p.recs.length)) = (s, 43) := by
      unfold appendF
      rw [bars_up hup.down hk (fun e => by simp at e), if_neg (by simp), if_pos ⟨by rw [hup.get]; exact hno, by rw [← hup.sim.len]; omega⟩]
    refine ⟨?_, by omega⟩
    unfold beginF
    rw [e, if_pos (by simp)]
    rfl
  right
  obtain ⟨a1, u1⟩ := hup.append hk (Or.inr h64) (d := headerL (p.num + 1) (p.first + p.recs.length)) (by rw [hz]; simp only [List.length_nil]; omega)
  rw [hz] at a1 u1
  simp only [List.nil_append] at a1 u1
  rw [ins_last hlow] at u1
  have s1 := appendF_steps s (walName (p.num + 1)) (headerL (p.num + 1) (p.first + p.recs.length))
  have ok1 := appendF_ok h.ok (walName (p.num + 1)) (headerL (p.num + 1) (p.first + p.recs.length)) (by omega)
  have ha0 : (appendF s (walName (p.num + 1)) (headerL (p.num + 1) (p.first + p.recs.length))).2 = 0 := by rw [a1]
  have har : (appendF s (walName (p.num + 1)) (headerL (p.num + 1) (p.first + p.recs.length))).1.room = s.room := by rw [a1]; rfl
  have hbe : beginF s l (p.num + 1) (p.first + p.recs.length) = beginB (syncF (appendF s (walName (p.num + 1)) (headerL (p.num + 1) (p.first + p.recs.length))).1 (walName (p.num + 1))) l (p.num + 1) (p.first + p.recs.length) := by
    unfold beginF
    rw [ha0, if_neg (by simp)]
  rw [hbe]
  clear hbe ha0 a1
  generalize hH : headerL (p.num + 1) (p.first + p.recs.length) = H at *
  have hg1 : alGet (walName (p.num + 1)) (fullImg (ps ++ [p]) ++ [(walName (p.num + 1), ⟨H, 0⟩)]) = some ⟨H, 0⟩ := get_last hne
  generalize (appendF s (walName (p.num + 1)) H).1 = t at *
  have hsm : sumL (fullImg (ps ++ [p]) ++ [(walName (p.num + 1), ⟨H, 0⟩)]) = sumL (fullImg (ps ++ [p])) := by
    rw [sumL_append]
    simp [sumL]
  rcases u1.sync hk hg1 with ⟨c1, c2⟩ | ⟨c1, c2, u2⟩
  · left
    rw [hsm, har] at c1
    simp only [] at c1
    obtain ⟨d1, u3⟩ := u1.drop hk (by rw [hg1]; simp)
    have hfil : (fullImg (ps ++ [p]) ++ [(walName (p.num + 1), (⟨H, 0⟩ : AreaP))]).filter (fun y => decide (y.1 ≠ walName (p.num + 1))) = fullImg (ps ++ [p]) := by
      rw [List.filter_append, filter_ne (fun c => by
        obtain ⟨x, hx, e⟩ := List.mem_map.1 c
        exact hne x hx e)]
      simp
    rw [hfil] at u3
    have ok3 := dropF_ok ok1 (walName (p.num + 1)) (by omega)
    have hdr : (dropF t (walName (p.num + 1))).1.room = s.room := by rw [d1]; exact har
    have hd0 : (dropF t (walName (p.num + 1))).2 = 0 := by rw [d1]
    have hbb : beginB (syncF t (walName (p.num + 1))) l (p.num + 1) (p.first + p.recs.length) = ((dropF t (walName (p.num + 1))).1, l, 42) := by
      unfold beginB
      rw [c2, if_pos rfl, hd0, if_neg (by simp)]
    rw [hbb]
    refine ⟨rfl, hdr, ⟨by rw [← fullImg_snoc]; exact u3, ok3, h.log, h.each, h.chain, h.lt, h.inc, h.safe, ?_⟩, by omega⟩
    show _ ≤ (dropF t (walName (p.num + 1))).1.room
    rw [hdr]
    exact h.fits
  · right
    have ok2 := syncF_ok ok1 (walName (p.num + 1)) (by omega)
    have hs0 : (syncF t (walName (p.num + 1))).2 = 0 := by rw [c2]
    have hsr : (syncF t (walName (p.num + 1))).1.room = s.room := by rw [c2]; exact har
    have hbb : beginB (syncF t (walName (p.num + 1))) l (p.num + 1) (p.first + p.recs.length) = ((syncF t (walName (p.num + 1))).1, beginOk l (p.num + 1) (p.first + p.recs.length), 0) := by
      unfold beginB
      rw [if_neg (by rw [hs0]; simp), if_neg (by rw [hs0]; simp)]
    rw [hbb]
    rw [hsm, har] at c1
    simp only [] at c1
    have hcc := h.chain
    refine ⟨rfl, hsr, ⟨?_, ok2, ?_, ?_, ?_, ?_, ?_, ⟨by omega, Int.le_refl _⟩, ?_⟩⟩
    · rw [upd_last hne] at u2
      unfold lastA
      rw [hpn]
      exact u2
    · unfold beginOk
      rw [h.log, hpn, hH]
      simp [heads, nextP]
    · intro x hx
      rcases List.mem_append.1 hx with hx | hx
      · exact h.each x hx
      · rw [List.mem_singleton.1 hx]
        exact ⟨⟨by show 1 ≤ p.num + 1; omega, hn⟩, ⟨by have := hp.first.1; show 1 ≤ p.first + p.recs.length; omega, hf⟩, fun d hd => by cases hd⟩
    · refine (chain_append (ps ++ [p]) _ 1).2 ⟨hcc, ?_, trivial⟩
      have h1 := (chain_append ps [p] 1).1 hcc
      have h2 : endOf 1 (ps ++ [p]) = endOf 1 ps + p.recs.length := by
        rw [end_chain, end_chain]
        simp [allOf]
        omega
      rw [h2, ← h1.2.1]
      rfl
    · intro x hx
      rcases List.mem_append.1 hx with hx | hx
      · have := h.lt x hx; show x.num < p.num + 1; omega
      · rw [List.mem_singleton.1 hx]; show p.num < p.num + 1; omega
    · refine List.pairwise_append.2 ⟨h.inc, List.pairwise_singleton _ _, fun a ha b hb => ?_⟩
      rw [List.mem_singleton.1 hb]
      exact h.lt a ha
    · rw [sum_last, hsr, hpn]
      omega

end Go.Proofs.YtgbgbokcohfnpaaGreat

/-
  wal: A LOG ON A NEW DISK, in plain Lean.
-/
namespace Go.Proofs.YtgbgbokcohfnpaaGreat
open Go.RowKit

theorem up_new (room : Int) : Up (newF room) [] := ⟨SimA.nil, rfl, rfl⟩
def firstPc : PcS := ⟨1, 1, []⟩
theorem pieceD_first : pieceD firstPc = headerL 1 1 := by
  unfold pieceD firstPc
  rw [frames_nil, List.append_nil]
theorem start_new (room : Int) (n : Int) : ((openF (newF room) n).2 = (none, 42) ∧ Up (openF (newF room) n).1 [] ∧ (newF room).room < ((headerL 1 1).length : Int)) ∨ (∃ l, (openF (newF room) n).2 = (some (l, []), 0) ∧ (openF (newF room) n).1.room = (newF room).room ∧ FSt (limF n) (openF (newF room) n).1 l [] firstPc (pieceD firstPc).length) := by
  have hup := up_new room
  have hok := newF_ok room
  rw [openF_new]
  have hk := nameOk_wal 1
  have hhl := headerL_len 1 1
  have hst : (newF room).steps = 0 := rfl
  have hz : get0 (walName 1) ([] : Img) = ⟨[], 0⟩ := rfl
  have hpn := pieceD_first
  obtain ⟨a1, u1⟩ := hup.append hk (Or.inr (by simp)) (d := headerL 1 1) (by rw [hz]; simp only [List.length_nil]; omega)
  rw [hz] at a1 u1
  simp only [List.nil_append] at a1 u1
  have s1 := appendF_steps (newF room) (walName 1) (headerL 1 1)
  have ok1 := appendF_ok hok (walName 1) (headerL 1 1) (by omega)
  have ha0 : (appendF (newF room) (walName 1) (headerL 1 1)).2 = 0 := by rw [a1]
  have har : (appendF (newF room) (walName 1) (headerL 1 1)).1.room = (newF room).room := by rw [a1]; rfl
  have hbe : beginF (newF room) (freshL n) 1 1 = beginB (syncF (appendF (newF room) (walName 1) (headerL 1 1)).1 (walName 1)) (freshL n) 1 1 := by
    unfold beginF
    rw [ha0, if_neg (by simp)]
  rw [hbe]
  clear hbe ha0 a1
  generalize hH : headerL 1 1 = H at *
  have hin : ins (walName 1, (⟨H, 0⟩ : AreaP)) [] = [(walName 1, ⟨H, 0⟩)] := rfl
  rw [hin] at u1
  have hg1 : alGet (walName 1) [(walName 1, (⟨H, 0⟩ : AreaP))] = some ⟨H, 0⟩ := by rw [alGet_cons, if_pos rfl]
  generalize (appendF (newF room) (walName 1) H).1 = t at *
  have hsm : sumL [(walName 1, (⟨H, 0⟩ : AreaP))] = 0 := by simp [sumL]
  rcases u1.sync hk hg1 with ⟨c1, c2⟩ | ⟨c1, c2, u2⟩
  · left
    obtain ⟨d1, u3⟩ := u1.drop hk (by rw [hg1]; simp)
    have hfil : ([(walName 1, (⟨H, 0⟩ : AreaP))] : Img).filter (fun y => decide (y.1 ≠ walName 1)) = [] := by simp
    rw [hfil] at u3
    have hd0 : (dropF t (walName 1)).2 = 0 := by rw [d1]
    have hbb : beginB (syncF t (walName 1)) (freshL n) 1 1 = ((dropF t (walName 1)).1, freshL n, 42) := by
      unfold beginB
      rw [c2, if_pos rfl, hd0, if_neg (by simp)]
    rw [hbb]
    unfold openNew
    rw [if_pos (by simp)]
    rw [hsm, har] at c1
    simp only [] at c1
    exact ⟨rfl, u3, by omega⟩
  · right
    have ok2 := syncF_ok ok1 (walName 1) (by omega)
    have hs0 : (syncF t (walName 1)).2 = 0 := by rw [c2]
    have hsr : (syncF t (walName 1)).1.room = (newF room).room := by rw [c2]; exact har
    have hbb : beginB (syncF t (walName 1)) (freshL n) 1 1 = ((syncF t (walName 1)).1, beginOk (freshL n) 1 1, 0) := by
      unfold beginB
      rw [if_neg (by rw [hs0]; simp), if_neg (by rw [hs0]; simp)]
    rw [hbb]
    unfold openNew
    rw [if_neg (by simp)]
    rw [hsm, har] at c1
    simp only [] at c1
    refine ⟨_, rfl, hsr, ⟨?_, ok2, ?_, ?_, ⟨rfl, trivial⟩, by simp, List.Pairwise.nil, ⟨by omega, Int.le_refl _⟩, ?_⟩⟩
    · have e : upd (walName 1) (full H) [(walName 1, (⟨H, 0⟩ : AreaP))] = fullImg [] ++ [lastA firstPc (pieceD firstPc).length] := by
        unfold upd fullImg lastA full
        rw [hpn]
        simp [firstPc]
      rw [← e]
      exact u2
    · unfold beginOk freshL
      rw [hpn, hH]
      simp [heads, firstPc]
    · intro x hx
      have e : x = firstPc := by simpa using hx
      rw [e]
      exact ⟨by unfold firstPc; simp, by unfold firstPc; simp, fun d hd => by cases hd⟩
    · rw [sum_last, hpn]
      show sumL (fullImg []) + _ ≤ (syncF t (walName 1)).1.room
      rw [hsr]
      have : sumL (fullImg []) = 0 := rfl
      omega

end Go.Proofs.YtgbgbokcohfnpaaGreat

/-
  wal: A LOG OPENED AGAIN, in plain Lean.
-/
namespace Go.Proofs.YtgbgbokcohfnpaaGreat
open Go.RowKit

def pcsL (lim : Nat) (ps : List PcS) (p : PcS) (n0 : Nat) : LogP := ⟨lim, heads (ps ++ [p]), endOf n0 (ps ++ [p]), (pieceD p).length, false⟩
theorem datL_full (ps : List PcS) (p : PcS) (sf : Int) : datL (fullImg ps ++ [lastA p sf]) = datOf (ps ++ [p]) := by
  unfold datL fullImg datOf lastA full
  rw [List.map_append, List.map_append, List.map_map]
  rfl
theorem again {s : DS} {ps : List PcS} {p : PcS} (h : Up s (fullImg ps ++ [lastA p (pieceD p).length])) (hok : DOk s) {n0 : Nat} (hc : Chain n0 (ps ++ [p])) (hk : ∀ x ∈ ps ++ [p], PcOk x) (hne : ∀ x ∈ fullImg ps, x.1 ≠ walName p.num) (hs : sumL (fullImg ps ++ [lastA p (pieceD p).length]) ≤ s.room) (n : Int) :
    ∃ s', openF s n = (s', some (pcsL (limF n) ps p n0, numbered n0 (allOf (ps ++ [p]))), 0) ∧ Up s' (fullImg ps ++ [lastA p (pieceD p).length]) ∧ s'.room = s.room := by
  have hsc := scan_chain (ps ++ [p]) n0 found0 rfl (Or.inl rfl) hc hk (by simp)
  have hf : scanL (datL (fullImg ps ++ [lastA p (pieceD p).length])) = ⟨heads (ps ++ [p]), recsOf (ps ++ [p]), endOf n0 (ps ++ [p]), (pieceD p).length, true, []⟩ := by
    rw [datL_full, scanL_fold, hsc]
    simp [found0]
  have hl : lastP (foundL ⟨heads (ps ++ [p]), recsOf (ps ++ [p]), endOf n0 (ps ++ [p]), (pieceD p).length, true, []⟩ n) = (p.num, p.first) := by
    unfold lastP foundL heads
    simp
  obtain ⟨s', e, u, r⟩ := reopen h hok n hf rfl (by simp [heads]) (b := pieceD p) (by rw [hl]; exact get_last hne) rfl hs
  rw [recs_chain _ _ hc] at e
  exact ⟨s', e, u, r⟩

end Go.Proofs.YtgbgbokcohfnpaaGreat

/-
  wal: A LOSS OF POWER that keeps nothing of what is not safe, in plain Lean.
-/
namespace Go.Proofs.YtgbgbokcohfnpaaGreat
open Go.RowKit

theorem Up.crash {s : DS} {L : Img} (h : Up s L) (hok : DOk s) : Up (crashF s []) (L.map fun x => (x.1, cutS x.2)) ∧ DOk (crashF s []) ∧ (crashF s []).room = s.room := by
  have ok2 := crashF_ok hok []
  refine ⟨⟨⟨h.sim.srt.of_fst (by rw [List.map_map]; rfl), ok2.keys, fun k => ?_⟩, rfl, rfl⟩, ok2, (crashUp_room _ [] s _).1⟩
  rw [crashF_get hok k, alGet_map, h.sim.get]
/-- What is safe of the last piece: j of its records. -/
def tillP (p : PcS) (j : Nat) : PcS := ⟨p.num, p.first, p.recs.take j⟩
end Go.Proofs.YtgbgbokcohfnpaaGreat

/-
  PLAIN: a disk as its image, whether the power is on or not: what each call does, the fuse burning.
-/
namespace Go.Proofs.YtgbgbokcohfnpaaGreat
open Go.RowKit

structure At9 (s : DS) (L : Img) (b : Bool) : Prop where
  sim : SimA L s.areas
  down : s.down = b
theorem At9.get {s : DS} {L : Img} {b : Bool} (h : At9 s L b) (k : ByteArray) : alGet k s.areas = alGet k L := (h.sim.get k).symm
theorem At9.get0 {s : DS} {L : Img} {b : Bool} (h : At9 s L b) (k : ByteArray) : get0 k s.areas = Proofs.YtgbgbokcohfnpaaGreat.get0 k L := (h.sim.get0 k).symm
theorem At9.put {s : DS} {L : Img} {b : Bool} (h : At9 s L b) (k : ByteArray) (a : AreaP) : At9 (putF s k a) (ins (k, a) L) b :=
  ⟨by rw [← withL_ins]; exact h.sim.put k a, h.down⟩
/-- A step: the power fails, or not. -/
theorem At9.step {s : DS} {L : Img} (h : At9 s L false) : (stepF s).1.room = s.room ∧ (((stepF s).2 = false ∧ At9 (stepF s).1 L true) ∨ ((stepF s).2 = true ∧ At9 (stepF s).1 L false)) := by
  unfold stepF
  split
  · exact ⟨rfl, Or.inl ⟨rfl, ⟨h.sim, rfl⟩⟩⟩
  · exact ⟨rfl, Or.inr ⟨rfl, ⟨h.sim, h.down⟩⟩⟩
theorem stepF_fuse {s t : DS} (h : s.fuse = t.fuse) : (stepF s).2 = (stepF t).2 := by
  unfold stepF
  rw [h]
  split <;> rfl
theorem At9.append {s : DS} {L : Img} (h : At9 s L false) {k : ByteArray} {d : List UInt8} (hk : nameOk k = true) (hg : alGet k L ≠ none ∨ L.length < 64) (hd : (Proofs.YtgbgbokcohfnpaaGreat.get0 k L).data.length + d.length ≤ 4194304) :
    (appendF s k d).1.room = s.room ∧ (((appendF s k d).2 = 2 ∧ At9 (appendF s k d).1 (ins (k, ⟨(Proofs.YtgbgbokcohfnpaaGreat.get0 k L).data ++ d, (Proofs.YtgbgbokcohfnpaaGreat.get0 k L).safe⟩) L) true) ∨ ((appendF s k d).2 = 0 ∧ At9 (appendF s k d).1 (ins (k, ⟨(Proofs.YtgbgbokcohfnpaaGreat.get0 k L).data ++ d, (Proofs.YtgbgbokcohfnpaaGreat.get0 k L).safe⟩) L) false)) := by
  have hp := h.put k ⟨(Proofs.YtgbgbokcohfnpaaGreat.get0 k L).data ++ d, (Proofs.YtgbgbokcohfnpaaGreat.get0 k L).safe⟩
  have e : appendF s k d = ((stepF (putF s k ⟨(Proofs.YtgbgbokcohfnpaaGreat.get0 k L).data ++ d, (Proofs.YtgbgbokcohfnpaaGreat.get0 k L).safe⟩)).1, doneN (stepF (putF s k ⟨(Proofs.YtgbgbokcohfnpaaGreat.get0 k L).data ++ d, (Proofs.YtgbgbokcohfnpaaGreat.get0 k L).safe⟩)).2) := by
    unfold appendF
    rw [bars_up h.down hk (fun e => by simp at e), if_neg (by simp), if_neg, h.get0, if_neg (by omega)]
    · rw [stepF_fuse (s := putF s k ⟨(Proofs.YtgbgbokcohfnpaaGreat.get0 k L).data ++ d, (Proofs.YtgbgbokcohfnpaaGreat.get0 k L).safe⟩) (t := s) rfl]
    · rw [h.get, ← h.sim.len]
      intro c
      rcases hg with hg | hg
      · exact hg c.1
      · omega
  rw [e]
  obtain ⟨r, hs⟩ := hp.step
  refine ⟨r, ?_⟩
  rcases hs with ⟨s1, s2⟩ | ⟨s1, s2⟩
  · left
    rw [s1]
    exact ⟨rfl, s2⟩
  · right
    rw [s1]
    exact ⟨rfl, s2⟩
theorem At9.sync {s : DS} {L : Img} (h : At9 s L false) {k : ByteArray} {a : AreaP} (hk : nameOk k = true) (hg : alGet k L = some a) :
    (syncF s k).1.room = s.room ∧ ((s.room < sumL L - a.safe + a.data.length ∧ syncF s k = (s, 42)) ∨ (¬ s.room < sumL L - a.safe + a.data.length ∧ (((syncF s k).2 = 2 ∧ At9 (syncF s k).1 L true) ∨ ((syncF s k).2 = 0 ∧ At9 (syncF s k).1 (upd k (full a.data) L) false)))) := by
  have h0 : Proofs.YtgbgbokcohfnpaaGreat.get0 k s.areas = a := by unfold Proofs.YtgbgbokcohfnpaaGreat.get0; rw [h.get, hg]; rfl
  have e : syncF s k = if s.room < sumL L - a.safe + a.data.length then (s, 42) else if (stepF s).2 = false then ((stepF s).1, 2) else (putF (stepF s).1 k (full a.data), 0) := by
    unfold syncF
    rw [bars_up h.down hk (fun _ => by rw [h.get, hg]; simp), if_neg (by simp), h0, ← h.sim.sum]
    rfl
  obtain ⟨r, hs⟩ := h.step
  by_cases hr : s.room < sumL L - a.safe + a.data.length
  · rw [if_pos hr] at e
    rw [e]
    exact ⟨rfl, Or.inl ⟨hr, rfl⟩⟩
  · rw [if_neg hr] at e
    rcases hs with ⟨s1, s2⟩ | ⟨s1, s2⟩
    · rw [if_pos s1] at e
      rw [e]
      exact ⟨r, Or.inr ⟨hr, Or.inl ⟨rfl, s2⟩⟩⟩
    · rw [if_neg (by rw [s1]; simp)] at e
      rw [e, ← ins_there h.sim.srt _ (mem_keys (by rw [hg]; simp))]
      exact ⟨r, Or.inr ⟨hr, Or.inr ⟨rfl, s2.put k _⟩⟩⟩
theorem At9.drop {s : DS} {L : Img} (h : At9 s L false) {k : ByteArray} (hk : nameOk k = true) (hg : alGet k L ≠ none) :
    (dropF s k).1.room = s.room ∧ (((dropF s k).2 = 2 ∧ At9 (dropF s k).1 L true) ∨ ((dropF s k).2 = 0 ∧ At9 (dropF s k).1 (L.filter fun y => decide (y.1 ≠ k)) false)) := by
  have e : dropF s k = if (stepF s).2 = false then ((stepF s).1, 2) else ({ (stepF s).1 with areas := alDel k s.areas }, 0) := by
    unfold dropF
    rw [bars_up h.down hk (fun _ => by rw [h.get]; exact hg), if_neg (by simp)]
  obtain ⟨r, hs⟩ := h.step
  rcases hs with ⟨s1, s2⟩ | ⟨s1, s2⟩
  · rw [if_pos s1] at e
    rw [e]
    exact ⟨r, Or.inl ⟨rfl, s2⟩⟩
  · rw [if_neg (by rw [s1]; simp)] at e
    rw [e]
    exact ⟨r, Or.inr ⟨rfl, ⟨by rw [← withoutL_filter]; exact h.sim.del k, s2.down⟩⟩⟩
/-! ### A loss of power -/
theorem crash1_sum {s : DS} (h : sumF s.areas ≤ s.room) (n : ByteArray) (k : Option Int) : sumF (crash1 s n k).areas ≤ (crash1 s n k).room := by
  unfold crash1 putF
  simp only []
  rw [sumF_put]
  simp only []
  unfold crashA
  omega
theorem crash_sum {s : DS} (h : sumF s.areas ≤ s.room) (keep : List Int) : sumF (crashF s keep).areas ≤ (crashF s keep).room := by
  unfold crashF
  simp only []
  generalize (namesF s).length = j
  induction j with
  | zero => exact h
  | succ j ih => exact crash1_sum ih _ _
/-- What a loss of power may make of an area. -/
def CrA (a a' : AreaP) : Prop := a' = a ∨ ∃ x : Int, a.safe ≤ x ∧ x ≤ a.data.length ∧ a' = ⟨a.data.take x.toNat, x⟩
theorem crA_nextC {a b : AreaP} (h : CrA a b) (hb : 0 ≤ a.safe) {x : Int} (h1 : b.safe ≤ x) (h2 : x ≤ b.data.length) : ∃ x' : Int, a.safe ≤ x' ∧ x' ≤ a.data.length ∧ (⟨b.data.take x.toNat, x⟩ : AreaP) = ⟨a.data.take x'.toNat, x'⟩ := by
  rcases h with rfl | ⟨y, hy1, hy2, rfl⟩
  · exact ⟨x, h1, h2, rfl⟩
  · simp only [List.length_take] at h1 h2 ⊢
    have hxy : x = y := by omega
    subst hxy
    refine ⟨x, hy1, hy2, ?_⟩
    rw [List.take_take, Nat.min_self]
theorem crash_cut9 {s : DS} (h : DOk s) (keep : List Int) (k : ByteArray) (a : AreaP) (hk : alGet k s.areas = some a) : ∀ j, j ≤ (namesF s).length → ∃ a', alGet k (crashUp (namesF s) keep s j).areas = some a' ∧ CrA a a' ∧ (k ∈ (namesF s).take j → ∃ x : Int, a.safe ≤ x ∧ x ≤ a.data.length ∧ a' = ⟨a.data.take x.toNat, x⟩)
  | 0, _ => ⟨a, hk, Or.inl rfl, fun c => by simp at c⟩
  | j + 1, hj => by
    obtain ⟨b, hb, hc, hi⟩ := crash_cut9 h keep k a hk j (by omega)
    have hok := (crashUp_ok h (namesF s) namesF_mem keep j (by omega)).1
    have ha0 := (h.each _ (alGet_mem hk)).1
    have hn : (namesF s)[j]?.getD ByteArray.empty = (namesF s)[j] := by rw [List.getElem?_eq_getElem (by omega)]; rfl
    show ∃ a', alGet k (crash1 (crashUp (namesF s) keep s j) ((namesF s)[j]?.getD ByteArray.empty) keep[j]?).areas = some a' ∧ CrA a a' ∧ _
    rw [hn, List.take_succ_eq_append_getElem (by omega)]
    unfold crash1 putF
    simp only []
    rw [alGet_put]
    by_cases e : k = (namesF s)[j]
    · rw [if_pos e, ← e]
      have hg : get0 k (crashUp (namesF s) keep s j).areas = b := by unfold get0; rw [hb]; rfl
      have hl := crashA_le hok k keep[j]?
      rw [hg] at hl ⊢
      have hx := crA_nextC hc ha0 hl.1 hl.2
      exact ⟨_, rfl, Or.inr hx, fun _ => hx⟩
    · rw [if_neg e]
      refine ⟨b, hb, hc, fun c => hi ?_⟩
      rcases List.mem_append.1 c with c | c
      · exact c
      · exact absurd (List.mem_singleton.1 c) e
theorem crash_cut {s : DS} (h : DOk s) (keep : List Int) (k : ByteArray) (a : AreaP) (hk : alGet k s.areas = some a) : ∃ a', alGet k (crashUp (namesF s) keep s (namesF s).length).areas = some a' ∧ ∃ x : Int, a.safe ≤ x ∧ x ≤ a.data.length ∧ a' = ⟨a.data.take x.toNat, x⟩ := by
  obtain ⟨a', g, -, i⟩ := crash_cut9 h keep k a hk (namesF s).length (Nat.le_refl _)
  refine ⟨a', g, i ?_⟩
  rw [List.take_length]
  have : k ∈ s.areas.map (·.1) := List.mem_map.2 ⟨_, alGet_mem hk, rfl⟩
  exact (sortN_of _).symm.subset this
theorem alGet_mapK {U V : Type} (f : ByteArray → V → U) (k : ByteArray) : ∀ l : List (ByteArray × V), alGet k (l.map fun x => (x.1, f x.1 x.2)) = (alGet k l).map (f k)
  | [] => rfl
  | x :: r => by
    rw [List.map_cons, alGet_cons, alGet_cons]
    split
    · rename_i e
      rw [e]; rfl
    · exact alGet_mapK f k r
/-- An area behind a loss of power. -/
def cutTo (a : AreaP) (n : Nat) : AreaP := ⟨a.data.take n, (n : Int)⟩
theorem At9.crash {s : DS} {L : Img} {b : Bool} (h : At9 s L b) (hok : DOk s) (hs : sumL L ≤ s.room) (keep : List Int) :
    ∃ f : ByteArray → Nat, Up (crashF s keep) (L.map fun x => (x.1, cutTo x.2 (f x.1))) ∧ (∀ x ∈ L, x.2.safe ≤ (f x.1 : Int) ∧ f x.1 ≤ x.2.data.length) ∧ DOk (crashF s keep) ∧ (crashF s keep).room = s.room ∧ sumL (L.map fun x => (x.1, cutTo x.2 (f x.1))) ≤ s.room := by
  have ok2 := crashF_ok hok keep
  have hrm : (crashF s keep).room = s.room := (crashUp_room _ keep s _).1
  have hsum := crash_sum (by rw [← h.sim.sum]; exact hs) keep
  have hall : ∀ k, ∃ n : Nat, ∀ a, alGet k L = some a → alGet k (crashF s keep).areas = some (cutTo a n) ∧ a.safe ≤ (n : Int) ∧ n ≤ a.data.length := by
    intro k
    cases hk : alGet k L with
    | none => exact ⟨0, fun a c => by cases c⟩
    | some a =>
      obtain ⟨a', g, c⟩ := crash_cut hok keep k a (by rw [h.get, hk])
      have he := hok.each _ (alGet_mem (show alGet k s.areas = some a by rw [h.get, hk]))
      simp only [] at he
      obtain ⟨x, h1, h2, h3⟩ := c
      refine ⟨x.toNat, fun a2 c2 => ?_⟩
      cases c2
      have e : ((x.toNat : Nat) : Int) = x := by omega
      refine ⟨?_, by omega, by omega⟩
      show alGet k (crashUp (namesF s) keep s (namesF s).length).areas = _
      rw [g, h3]
      unfold cutTo
      rw [e]
  obtain ⟨f, hf⟩ := Classical.axiomOfChoice hall
  have hget : ∀ x ∈ L, alGet x.1 L = some x.2 := fun x hx => alGet_of_mem h.sim.srt.nodup hx
  have hup : Up (crashF s keep) (L.map fun x => (x.1, cutTo x.2 (f x.1))) := by
    refine ⟨⟨h.sim.srt.of_fst (by rw [List.map_map]; rfl), ok2.keys, fun k => ?_⟩, rfl, rfl⟩
    have e1 : alGet k (L.map fun x => (x.1, cutTo x.2 (f x.1))) = (alGet k L).map (fun a => cutTo a (f k)) := alGet_mapK (fun y a => cutTo a (f y)) k L
    rw [e1]
    cases hk : alGet k L with
    | none =>
      have hn : k ∉ (crashF s keep).areas.map (·.1) := by
        have hkk : (crashF s keep).areas.map (·.1) = s.areas.map (·.1) := (crashUp_ok hok (namesF s) namesF_mem keep (namesF s).length (Nat.le_refl _)).2
        rw [hkk]
        intro c
        have := (alGet_none k s.areas).1 (by rw [h.get, hk])
        exact this c
      rw [(alGet_none k _).2 hn]
      rfl
    | some a => rw [(hf k a hk).1]; rfl
  refine ⟨f, hup, fun x hx => (hf x.1 x.2 (hget x hx)).2, ok2, hrm, ?_⟩
  rw [hup.sim.sum, ← hrm]
  exact hsum

end Go.Proofs.YtgbgbokcohfnpaaGreat
