/-
  wal: THE PLAIN LAW of WalFull: one round.
-/
import Derived.Test.YtigdhdclfdojgaaWalTrimsQ
namespace Go.Proofs.Ytigdhdclfdojgaa
open Go.RowKit

theorem till_all (p : PcS) : tillP p p.recs.length = p := by
  unfold tillP
  rw [List.take_length]
/-- A log of limit 40 behind i rounds: R was laid, the first `safe` of R are safe; u: a record was laid and not synced yet. -/
structure FlS (u : Bool) (i : Nat) (R : List (List UInt8)) (safe : Nat) (s : DS) (l : LogP) (ps : List PcS) (p : PcS) (j : Nat) : Prop where
  st : FSt 40 s l ps p (pieceD (tillP p j)).length
  all : allOf (ps ++ [p]) = R
  le : j ≤ p.recs.length
  saf : safe = (allOf ps).length + j
  mode : u = false → j = p.recs.length ∨ s.room < sumL (fullImg ps) + (pieceD p).length
  cnt : R.length ≤ i
  num : p.num ≤ i + 1
  len : ps.length ≤ i
  sz : (pieceD p).length ≤ 8300
  steps : s.steps ≤ 10 * (i : Int) + (if u = true then 8 else 10)
theorem FlS.app {i : Nat} {R : List (List UInt8)} {safe : Nat} {s : DS} {l : LogP} {ps : List PcS} {p : PcS} {j : Nat} (h : FlS false i R safe s l ps p j) (hi : i < 50) (d : List UInt8) :
    ((appendLF s l d).2.2 = (R.length + 1, 0) ∧ ∃ ps' p' j', FlS true (i + 1) (R ++ [d]) safe (appendLF s l d).1 (appendLF s l d).2.1 ps' p' j') ∨
    (((appendLF s l d).2.2 = (0, 12) ∨ (appendLF s l d).2.2 = (0, 42)) ∧ ∃ j', FlS false (i + 1) R safe (appendLF s l d).1 (appendLF s l d).2.1 ps p j') := by
  have hst := appendLF_steps s l d
  have hs : s.steps ≤ 10 * (i : Int) + 10 := h.steps
  have hsz := h.sz
  have hcnt := h.cnt
  have hnum := h.num
  have hlen := h.len
  have hj := h.le
  have hnx : p.first + p.recs.length = R.length + 1 := by
    have hc := (chain_append ps [p] 1).1 h.st.chain
    have h1 := end_chain ps 1
    have h2 := congrArg List.length h.all
    rw [allOf_append, List.length_append] at h2
    have h3 : (allOf [p]).length = p.recs.length := by simp [allOf]
    have h4 := hc.2.1
    omega
  by_cases hd : d.length ≤ 8192
  case neg =>
    right
    have e : appendLF s l d = (s, l, 0, 12) := by
      unfold appendLF
      rw [h.st.alive, if_neg (by simp), if_pos (by omega)]
    rw [e]
    exact ⟨Or.inl rfl, j, h.st, h.all, hj, h.saf, h.mode, by omega, by omega, by omega, hsz, (show s.steps ≤ 10 * ((i + 1 : Nat) : Int) + 10 by omega)⟩
  obtain ⟨hroom, hout⟩ := h.st.app hd (by omega) (by omega) (by omega) (by omega)
  have hfl := frameL_le d
  generalize appendLF s l d = r at *
  cases hout with
  | same e c =>
    right
    subst e
    exact ⟨Or.inr rfl, j, h.st, h.all, hj, h.saf, h.mode, by omega, by omega, by omega, hsz, (show s.steps ≤ 10 * ((i + 1 : Nat) : Int) + 10 by omega)⟩
  | held e1 e he st c =>
    right
    have hjj : j = p.recs.length := (h.mode rfl).elim id (fun c2 => absurd c2 c)
    rcases he with ⟨he, -⟩ | ⟨-, he⟩
    · refine ⟨Or.inr (by rw [e, he]), p.recs.length, ?_, h.all, Nat.le_refl _, by rw [← hjj]; exact h.saf, fun _ => Or.inl rfl, by omega, by omega, by omega, hsz, (show r.1.steps ≤ 10 * ((i + 1 : Nat) : Int) + 10 by omega)⟩
      rw [till_all, e]
      exact st
    · omega
  | more e st c =>
    left
    have hpl : (pieceD p).length ≤ 40 := by
      rcases c with c | c
      · omega
      · unfold pieceD
        rw [c, frames_nil]
        have := headerL_len p.num p.first
        rw [List.length_append]
        simp
        omega
    refine ⟨by rw [e, hnx], ps, ⟨p.num, p.first, p.recs ++ [d]⟩, j, ?_, ?_, (show j ≤ (p.recs ++ [d]).length by rw [List.length_append]; omega), h.saf, fun c => (by cases c), by rw [List.length_append]; simp; omega, (show p.num ≤ i + 1 + 1 by omega), by omega, ?_, (show r.1.steps ≤ 10 * ((i + 1 : Nat) : Int) + 8 by omega)⟩
    · have e2 : tillP ⟨p.num, p.first, p.recs ++ [d]⟩ j = tillP p j := by
        unfold tillP
        simp only []
        rw [List.take_append_of_le_length hj]
      rw [e2]
      exact st
    · rw [allOf_append, ← h.all, allOf_append]
      simp [allOf]
    · have e2 : (pieceD ⟨p.num, p.first, p.recs ++ [d]⟩).length = (pieceD p).length + (frameL d).length := by
        unfold pieceD
        rw [frames_append, frames_cons, frames_nil]
        simp
        omega
      rw [e2]
      omega
  | roll e st c =>
    left
    have hjj : j = p.recs.length := (h.mode rfl).elim id (fun c2 => absurd c2 c)
    have hh := headerL_len (p.num + 1) (p.first + p.recs.length)
    refine ⟨by rw [e, hnx], ps ++ [p], ⟨p.num + 1, p.first + p.recs.length, [d]⟩, 0, ?_, ?_, Nat.zero_le _, ?_, fun c => (by cases c), by rw [List.length_append]; simp; omega, (show p.num + 1 ≤ i + 1 + 1 by omega), by rw [List.length_append]; simp; omega, ?_, (show r.1.steps ≤ 10 * ((i + 1 : Nat) : Int) + 8 by omega)⟩
    · exact st
    · rw [allOf_append, h.all]
      simp [allOf]
    · rw [allOf_append, List.length_append, h.saf, hjj]
      simp [allOf]
    · have e2 : (pieceD ⟨p.num + 1, p.first + p.recs.length, [d]⟩).length = (headerL (p.num + 1) (p.first + p.recs.length)).length + (frameL d).length := by
        unfold pieceD
        rw [frames_cons, frames_nil]
        simp
      rw [e2]
      omega

theorem FlS.sync {i : Nat} {R : List (List UInt8)} {safe : Nat} {s : DS} {l : LogP} {ps : List PcS} {p : PcS} {j : Nat} (h : FlS true i R safe s l ps p j) (hi : i ≤ 51) :
    ((syncLF s l).2 = (l, 42) ∧ FlS false i R safe (syncLF s l).1 l ps p j) ∨ ((syncLF s l).2 = (l, 0) ∧ FlS false i R R.length (syncLF s l).1 l ps p p.recs.length) := by
  have hs : s.steps ≤ 10 * (i : Int) + 8 := h.steps
  have hst := syncF_steps s (walName p.num)
  rw [h.st.syncL]
  rcases h.st.sync (by omega) with ⟨a, b⟩ | ⟨-, b, c, d⟩
  · left
    rw [b]
    exact ⟨rfl, h.st, h.all, h.le, h.saf, fun _ => Or.inr a, h.cnt, h.num, h.len, h.sz, (show s.steps ≤ 10 * (i : Int) + 10 by omega)⟩
  · right
    rw [b]
    refine ⟨rfl, ?_, h.all, Nat.le_refl _, ?_, fun _ => Or.inl rfl, h.cnt, h.num, h.len, h.sz, (show (syncF s (walName p.num)).1.steps ≤ 10 * (i : Int) + 10 by omega)⟩
    · rw [till_all]
      exact d
    · rw [← h.all, allOf_append, List.length_append]
      simp [allOf]

end Go.Proofs.Ytigdhdclfdojgaa
