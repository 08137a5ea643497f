/-
  wal: THE PLAIN LAW of WalTrims: the records that are laid.
-/
import Derived.Test.YtigdhdclfdojgaaWalCrashP
namespace Go.Proofs.Ytigdhdclfdojgaa
open Go.RowKit

def szOf (ps : List PcS) : Nat := (ps.map fun x => (pieceD x).length).sum
theorem sum_full : ∀ (ps : List PcS), sumL (fullImg ps) = (szOf ps : Int)
  | [] => rfl
  | x :: r => by
    have ih := sum_full r
    unfold fullImg at ih ⊢
    rw [List.map_cons]
    simp only [sumL, szOf, List.map_cons, List.sum_cons, full] at ih ⊢
    rw [ih]
    omega
theorem szOf_append (a b : List PcS) : szOf (a ++ b) = szOf a + szOf b := by simp [szOf]
theorem allOf_append (a b : List PcS) : allOf (a ++ b) = allOf a ++ allOf b := by simp [allOf]
/-- Behind i rounds, with records R. -/
structure TrS (lim i : Nat) (R : List (List UInt8)) (s : DS) (l : LogP) (ps : List PcS) (p : PcS) (sf : Int) : Prop where
  st : FSt lim s l ps p sf
  all : allOf (ps ++ [p]) = R
  room : s.room = 4194304
  cnt : R.length ≤ i
  num : p.num ≤ i + 1
  len : ps.length ≤ i
  sz : szOf (ps ++ [p]) ≤ 35 * (ps.length + 1) + 8209 * R.length
  steps : s.steps ≤ 10 * (i : Int) + 10
theorem appendLF_steps (s : DS) (l : LogP) (d : List UInt8) : (appendLF s l d).1.steps ≤ s.steps + 6 := by
  have ht : ∀ (s : DS) (l : LogP), (appTail s l d).1.steps ≤ s.steps + 1 := fun s l => by
    have h := appendF_steps s (walName (lastP l).1) (frameL d)
    unfold appTail
    split
    · exact h
    · exact h
  unfold appendLF
  split
  · show s.steps ≤ _; omega
  · split
    · show s.steps ≤ _; omega
    · split
      · split
        · show s.steps ≤ _; omega
        · have h1 := syncF_steps s (walName (lastP l).1)
          generalize syncF s (walName (lastP l).1) = t at *
          unfold rollF
          split
          · show t.1.steps ≤ _; omega
          · have h2 := beginF_steps t.1 l ((lastP l).1 + 1) l.next
            generalize beginF t.1 l ((lastP l).1 + 1) l.next = r at *
            unfold roll2
            split
            · show r.1.steps ≤ _; omega
            · have := ht r.1 r.2.1; omega
      · have := ht s l; omega
theorem TrS.next {lim i : Nat} {R : List (List UInt8)} {s : DS} {l : LogP} {ps : List PcS} {p : PcS} {sf : Int} (h : TrS lim i R s l ps p sf) (hi : i < 100) (d : List UInt8) :
    ((appendLF s l d).2.2.2 = 0 ∧ ∃ ps' p' sf', TrS lim (i + 1) (R ++ [d]) (appendLF s l d).1 (appendLF s l d).2.1 ps' p' sf') ∨
    (((appendLF s l d).2.2.2 = 12 ∨ (appendLF s l d).2.2.2 = 43) ∧ ∃ sf', TrS lim (i + 1) R (appendLF s l d).1 (appendLF s l d).2.1 ps p sf') := by
  have hst := appendLF_steps s l d
  have hs := h.steps
  have hsz := h.sz
  have hcnt := h.cnt
  have hnum := h.num
  have hlen := h.len
  rw [szOf_append] at hsz
  have hs1 : szOf [p] = (pieceD p).length := by simp [szOf]
  rw [hs1] at hsz
  have hnx : p.first + p.recs.length = 1 + R.length := by
    have hc := (chain_append ps [p] 1).1 h.st.chain
    have h1 := end_chain ps 1
    have h2 := congrArg List.length h.all
    rw [allOf_append, List.length_append] at h2
    have h3 : (allOf [p]).length = p.recs.length := by simp [allOf]
    have h4 := hc.2.1
    omega
  by_cases hd : d.length ≤ 8192
  case neg =>
    right
    have e : appendLF s l d = (s, l, 0, 12) := by
      unfold appendLF
      rw [h.st.alive, if_neg (by simp), if_pos (by omega)]
    rw [e]
    exact ⟨Or.inl rfl, sf, h.st, h.all, h.room, by omega, by omega, by omega, h.sz, by simp only []; omega⟩
  obtain ⟨hroom, hout⟩ := h.st.app hd (by omega) (by omega) (by omega) (by omega)
  have hfull := sum_full ps
  have hfl := frameL_le d
  generalize appendLF s l d = r at *
  cases hout with
  | same e c => rw [h.room, hfull] at c; omega
  | held e1 e he st c =>
    right
    rcases he with ⟨-, he⟩ | ⟨he, -⟩
    · rw [h.room, sum_full, szOf_append, hs1] at he
      omega
    · refine ⟨Or.inr (by rw [e]; exact he), ((pieceD p).length : Int), ?_, h.all, hroom.trans h.room, by omega, by omega, by omega, h.sz, by omega⟩
      rw [e]
      exact st
  | more e st c =>
    left
    refine ⟨by rw [e], ps, _, sf, st, ?_, hroom.trans h.room, by rw [List.length_append]; simp; omega, by simp only []; omega, by omega, ?_, by omega⟩
    · rw [allOf_append, ← h.all, allOf_append]
      simp [allOf]
    · rw [szOf_append, List.length_append]
      simp only [szOf, List.map_cons, List.map_nil, List.sum_cons, List.sum_nil, List.length_cons, List.length_nil] at hsz ⊢
      have e2 : (pieceD ⟨p.num, p.first, p.recs ++ [d]⟩).length = (pieceD p).length + (frameL d).length := by
        unfold pieceD
        rw [frames_append, frames_cons, frames_nil]
        simp
        omega
      rw [e2]
      omega
  | roll e st c =>
    left
    refine ⟨by rw [e], _, _, _, st, ?_, hroom.trans h.room, by rw [List.length_append]; simp; omega, by simp only []; omega, by rw [List.length_append]; simp; omega, ?_, by omega⟩
    · rw [allOf_append, h.all]
      simp [allOf]
    · rw [szOf_append, szOf_append, List.length_append, List.length_append]
      have hh := headerL_len (p.num + 1) (p.first + p.recs.length)
      have e2 : szOf [⟨p.num + 1, p.first + p.recs.length, [d]⟩] = (headerL (p.num + 1) (p.first + p.recs.length)).length + (frameL d).length := by
        unfold szOf pieceD
        rw [List.map_cons, List.map_nil, frames_cons, frames_nil]
        simp
      rw [e2, hs1]
      simp only [List.length_cons, List.length_nil]
      omega

end Go.Proofs.Ytigdhdclfdojgaa
