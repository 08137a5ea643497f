/-
  wal: APPEND, in plain Lean.
-/
import Derived.Test.YtigdhdclfdojgaaWalRollP
namespace Go.Proofs.Ytigdhdclfdojgaa
open Go.RowKit

/-- What an Append does to a log over its image. -/
inductive AppOut (lim : Nat) (s : DS) (l : LogP) (ps : List PcS) (p : PcS) (sf : Int) (d : List UInt8) (r : DS × LogP × Nat × Nat) : Prop
  | same (h : r = (s, l, 0, 42)) (c : s.room < sumL (fullImg ps) + (pieceD p).length)
  | held (e : Nat) (h : r.2 = (l, 0, e)) (he : (e = 42 ∧ s.room < sumL (fullImg (ps ++ [p])) + 35) ∨ (e = 43 ∧ 64 ≤ ps.length + 1)) (st : FSt lim r.1 l ps p (pieceD p).length) (c : ¬ s.room < sumL (fullImg ps) + (pieceD p).length)
  | more (h : r.2.2 = (p.first + p.recs.length, 0)) (st : FSt lim r.1 r.2.1 ps ⟨p.num, p.first, p.recs ++ [d]⟩ sf) (c : (pieceD p).length < lim ∨ p.recs = [])
  | roll (h : r.2.2 = (p.first + p.recs.length, 0)) (st : FSt lim r.1 r.2.1 (ps ++ [p]) ⟨p.num + 1, p.first + p.recs.length, [d]⟩ (pieceD (nextP p)).length) (c : ¬ s.room < sumL (fullImg ps) + (pieceD p).length)
theorem metF_0 (l : LogP) : metF l 0 = l := rfl
theorem FSt.app {lim : Nat} {s : DS} {l : LogP} {ps : List PcS} {p : PcS} {sf : Int} (h : FSt lim s l ps p sf) {d : List UInt8} (hd : d.length ≤ 8192) (hsz : (pieceD p).length + 8209 ≤ 4194304) (hn : p.num + 1 ≤ 999999) (hf : p.first + p.recs.length ≤ 1099511627776) (hst : s.steps < 4611686018427300000) :
    (appendLF s l d).1.room = s.room ∧ AppOut lim s l ps p sf d (appendLF s l d) := by
  have hl := h.log
  have hlp := h.lastP
  unfold appendLF
  rw [h.alive, if_neg (by simp), if_neg (by omega), hlp]
  simp only []
  by_cases hr : l.limit ≤ l.size ∧ p.first < l.next
  case neg =>
    rw [if_neg hr]
    obtain ⟨a, b, c⟩ := h.tail hd hsz (by omega)
    refine ⟨b, .more a c ?_⟩
    rw [hl] at hr
    simp only [] at hr
    by_cases c1 : (pieceD p).length < lim
    · exact Or.inl c1
    · right
      have : p.recs.length = 0 := by omega
      exact List.eq_nil_of_length_eq_zero this
  rw [if_pos hr, if_neg (by omega)]
  have s1 := syncF_steps s (walName p.num)
  rcases h.sync (by omega) with ⟨a, b⟩ | ⟨a, b, c, h2⟩
  · rw [b]
    unfold rollF
    rw [if_pos (by simp)]
    exact ⟨rfl, .same rfl a⟩
  · unfold rollF
    rw [b, if_neg (by simp)]
    have hnx : l.next = p.first + p.recs.length := by rw [hl]
    rw [hlp, hnx]
    simp only []
    generalize syncF s (walName p.num) = t at *
    have s2 := beginF_steps t.1 l (p.num + 1) (p.first + p.recs.length)
    rcases h2.new hn hf (by omega) with ⟨e, e64⟩ | ⟨e, er, h3, eroom⟩ | ⟨e, er, h3⟩
    · rw [e]
      unfold roll2
      rw [if_pos (by simp)]
      exact ⟨c, .held 43 rfl (Or.inr ⟨rfl, e64⟩) h2 a⟩
    · generalize beginF t.1 l (p.num + 1) (p.first + p.recs.length) = R at *
      obtain ⟨R1, R2⟩ := R
      simp only [] at e er h3
      subst e
      unfold roll2
      rw [if_pos (by simp)]
      exact ⟨er.trans c, .held 42 rfl (Or.inl ⟨rfl, by rw [← c]; exact eroom⟩) h3 a⟩
    · generalize beginF t.1 l (p.num + 1) (p.first + p.recs.length) = R at *
      obtain ⟨R1, R2, R3⟩ := R
      simp only [] at e er h3 s2
      subst e
      unfold roll2
      rw [if_neg (by simp)]
      have hh := headerL_len (p.num + 1) (p.first + p.recs.length)
      have hpn := pieceD_next p
      obtain ⟨x, y, z⟩ := h3.tail hd (by rw [hpn]; omega) (by omega)
      refine ⟨y.trans (er.trans c), .roll x ?_ a⟩
      exact z

end Go.Proofs.Ytigdhdclfdojgaa
