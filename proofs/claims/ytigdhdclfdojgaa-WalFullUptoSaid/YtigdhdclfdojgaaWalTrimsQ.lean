/-
  wal: THE PLAIN LAW of WalTrims: the trim, and the log opened again.
-/
import Derived.Test.YtigdhdclfdojgaaWalTrimsP
namespace Go.Proofs.Ytigdhdclfdojgaa
open Go.RowKit

theorem TrS.sync {lim i : Nat} {R : List (List UInt8)} {s : DS} {l : LogP} {ps : List PcS} {p : PcS} {sf : Int} (h : TrS lim i R s l ps p sf) (hi : i ≤ 100) : (syncLF s l).2 = (l, 0) ∧ (syncLF s l).1.room = 4194304 ∧ (syncLF s l).1.steps ≤ s.steps + 1 ∧ FSt lim (syncLF s l).1 l ps p (pieceD p).length := by
  have hs := h.steps
  have hsz := h.sz
  have hcnt := h.cnt
  have hlen := h.len
  have hst := syncF_steps s (walName p.num)
  rw [szOf_append] at hsz
  have hs1 : szOf [p] = (pieceD p).length := by simp [szOf]
  rw [hs1] at hsz
  rw [h.st.syncL]
  rcases h.st.sync (by omega) with ⟨a, -⟩ | ⟨-, b, c, d⟩
  · rw [h.room, sum_full] at a
    omega
  · rw [b]
    exact ⟨rfl, c.trans h.room, hst, d⟩
theorem TrS.trim {lim i : Nat} {R : List (List UInt8)} {s0 s : DS} {l : LogP} {ps : List PcS} {p : PcS} {sf : Int} (h : TrS lim i R s0 l ps p sf) (st : FSt lim s l ps p (pieceD p).length) (hst : s.steps < 4611686018427380000) (hlen : ps.length ≤ 100) (idx : Int) :
    ∃ pre qs s', ps = pre ++ qs ∧ trimLF s l idx = (s', { l with pieces := heads (qs ++ [p]) }, 0) ∧ Up s' (fullImg qs ++ [lastA p (pieceD p).length]) ∧ DOk s' ∧ s'.room = s.room ∧ s'.steps ≤ s.steps + 100 ∧ Trimmed idx (heads (qs ++ [p])) ∧ Chain (1 + (allOf pre).length) (qs ++ [p]) ∧ allOf (qs ++ [p]) = R.drop (allOf pre).length ∧ (allOf pre).length ≤ R.length ∧ ((1 + (allOf pre).length : Nat) : Int) ≤ max 1 idx ∧ l.next = 1 + R.length := by
  have hlog := st.log
  obtain ⟨pre, qs, s', h1, h2, h3, h4, h5, h6, h7, h8⟩ := trim_out idx p (pieceD p).length ps s l st.up st.ok (by omega) (by rw [hlog])
  have hc := st.chain
  rw [h1, List.append_assoc] at hc
  have hc2 := (chain_append pre (qs ++ [p]) 1).1 hc
  rw [end_chain] at hc2
  have hall := h.all
  rw [h1, List.append_assoc, allOf_append] at hall
  have hcp := (chain_append ps [p] 1).1 st.chain
  refine ⟨pre, qs, s', h1, ?_, h3, h4, h5, by omega, h8, hc2.2, ?_, ?_, ?_, ?_⟩
  · unfold trimLF
    rw [st.alive, if_neg (by simp)]
    exact h2
  · rw [← hall, List.drop_left' rfl]
  · rw [← hall, List.length_append]
    omega
  · rcases h7 with h7 | h7
    · rw [h7]
      show ((1 + 0 : Nat) : Int) ≤ _
      omega
    · obtain ⟨x, t, hx⟩ : ∃ x t, qs ++ [p] = x :: t := by
        cases qs with
        | nil => exact ⟨p, [], rfl⟩
        | cons x t => exact ⟨x, t ++ [p], rfl⟩
      have h9 := h7 x (by rw [hx]; rfl)
      have h10 := hc2.2
      rw [hx] at h10
      have h11 := h10.1
      omega
  · rw [hlog]
    have h12 := end_chain ps 1
    have h13 := congrArg List.length h.all
    rw [allOf_append, List.length_append] at h13
    have h14 : (allOf [p]).length = p.recs.length := by simp [allOf]
    have h15 := hcp.2.1
    show p.first + p.recs.length = _
    omega

end Go.Proofs.Ytigdhdclfdojgaa
