/-
  wal: THE PLAIN LAW of WalTrims: its start, its end, the bounds.
-/
import Derived.Test.YtigdhdclfdojgaaWalTrimsQ
namespace Go.Proofs.Ytigdhdclfdojgaa
open Go.RowKit

theorem SmallD.trimLoop (idx : Int) : ∀ (q : List (Nat × Nat)) {s : DS} (l : LogP), SmallD s → SmallD (trimLoop idx q s l).1
  | [], _, _, h => h
  | [_], _, _, h => h
  | a :: b :: r, s, l, h => by
    rw [trimLoop_cons]
    split
    · split
      · exact h.drop _
      · exact SmallD.trimLoop idx (b :: r) _ (h.drop _)
    · exact h
theorem SmallD.trimL {s : DS} (h : SmallD s) (l : LogP) (idx : Int) : SmallD (trimLF s l idx).1 := by
  unfold trimLF
  split
  · exact h
  · exact SmallD.trimLoop idx l.pieces l h
theorem room_top : (newF 4194304).room = 4194304 := by decide
theorem openNew_steps (n : Int) (room : Int) : (openF (newF room) n).1.steps ≤ 3 := by
  rw [openF_new]
  have h2 := beginF_steps (newF room) (freshL n) 1 1
  have h0 : (newF room).steps = 0 := rfl
  unfold openNew
  split
  · show (beginF (newF room) (freshL n) 1 1).1.steps ≤ 3; omega
  · show (beginF (newF room) (freshL n) 1 1).1.steps ≤ 3; omega
theorem trims_start (n : Int) : ∃ l, openF (newF 4194304) n = ((openF (newF 4194304) n).1, some (l, []), 0) ∧ TrS (limF n) 0 [] (openF (newF 4194304) n).1 l [] firstPc (pieceD firstPc).length := by
  have hs := openNew_steps n 4194304
  have hh := headerL_len 1 1
  rcases start_new 4194304 n with ⟨-, -, c⟩ | ⟨l, e, r, st⟩
  · rw [room_top] at c
    omega
  · rw [room_top] at r
    refine ⟨l, by rw [← e], st, rfl, r, Nat.le_refl _, Nat.le_refl _, Nat.le_refl _, ?_, by omega⟩
    have e2 : szOf ([] ++ [firstPc]) = (headerL 1 1).length := by
      unfold szOf
      simp [pieceD_first]
    rw [e2]
    simp only [List.length_nil]
    omega
/-- Bounds of a log whose pieces follow one another. -/
theorem pcs_ok {lim : Nat} {ps : List PcS} {p : PcS} {n0 : Nat} (hl : lim ≤ 65536) (hk : ∀ x ∈ ps ++ [p], PcOk x) (hlen : ps.length ≤ 1000) (hn : endOf n0 (ps ++ [p]) ≤ 1000000) (hs : (pieceD p).length ≤ 4194304) : LOk (pcsL lim ps p n0) := by
  refine ⟨hl, by simp [pcsL, heads], fun x hx => ?_, fun x hx => ?_, by show endOf n0 (ps ++ [p]) ≤ _; omega, by show (pieceD p).length ≤ _; omega, by show (heads (ps ++ [p])).length ≤ _; unfold heads; simp; omega⟩
  · obtain ⟨y, hy, rfl⟩ := List.mem_map.1 hx
    exact (hk y hy).num.2
  · obtain ⟨y, hy, rfl⟩ := List.mem_map.1 hx
    have := (hk y hy).first.2
    show y.first ≤ _
    omega
theorem FSt.pcs {lim : Nat} {s : DS} {l : LogP} {ps : List PcS} {p : PcS} {sf : Int} (h : FSt lim s l ps p sf) : l = pcsL lim ps p 1 := by
  have hc := (chain_append ps [p] 1).1 h.chain
  have h4 := hc.2.1
  rw [h.log]
  unfold pcsL
  rw [end_chain, allOf_append, List.length_append]
  rw [end_chain] at h4
  have h3 : (allOf [p]).length = p.recs.length := by simp [allOf]
  rw [h3, h4, Nat.add_assoc]
theorem TrS.bounds {lim i : Nat} {R : List (List UInt8)} {s : DS} {l : LogP} {ps : List PcS} {p : PcS} {sf : Int} (h : TrS lim i R s l ps p sf) (hl : lim ≤ 65536) (hi : i ≤ 100) : LOk l ∧ l = pcsL lim ps p 1 ∧ s.steps < 1000000 ∧ l.next < 1000000 ∧ l.size < 4611686018427380000 ∧ l.pieces.length ≤ 1000 := by
  have hp := h.st.pcs
  have hs := h.steps
  have hsz := h.sz
  have hcnt := h.cnt
  have hlen := h.len
  rw [szOf_append] at hsz
  have hs1 : szOf [p] = (pieceD p).length := by simp [szOf]
  rw [hs1] at hsz
  have hn : endOf 1 (ps ++ [p]) ≤ 101 := by
    rw [end_chain, h.all]
    omega
  have hok := pcs_ok hl h.st.each (by omega) (by omega : endOf 1 (ps ++ [p]) ≤ 1000000) (by omega)
  refine ⟨by rw [hp]; exact hok, hp, by omega, ?_, ?_, ?_⟩
  · rw [hp]; show endOf 1 (ps ++ [p]) < _; omega
  · rw [hp]; show (pieceD p).length < _; omega
  · rw [hp]; show (heads (ps ++ [p])).length ≤ _; unfold heads; simp; omega
/-- Behind the trim: what the law asks. -/
structure TrEnd (n idx : Int) (R : List (List UInt8)) (np : Nat) (s2 : DS) (l2 : LogP) : Prop where
  ok : LOk l2
  steps : s2.steps < 1000000
  le : (firstP l2 : Int) ≤ max 1 idx
  next : l2.next = 1 + R.length
  pieces : l2.pieces.length ≤ np ∧ 1 ≤ l2.pieces.length
  again : ∃ s3 l3 recs, openF s2 n = (s3, some (l3, recs), 0) ∧ LOk l3 ∧ s3.steps < 2000000 ∧ firstP l3 = firstP l2 ∧ l3.next = 1 + R.length ∧ recs.length + firstP l2 = R.length + 1 ∧ 1 ≤ firstP l2 ∧ (∀ j (h : j < recs.length) (h2 : firstP l2 + j - 1 < R.length), recs[j] = (firstP l2 + j, R[firstP l2 + j - 1])) ∧ trimLF s3 l3 idx = (s3, l3, 0)
theorem firstP_pcs {lim n0 : Nat} {ps : List PcS} {p : PcS} (h : Chain n0 (ps ++ [p])) : firstP (pcsL lim ps p n0) = n0 := by
  unfold firstP pcsL heads
  cases ps with
  | nil => exact h.1
  | cons x r => exact h.1
theorem TrS.end {n idx : Int} {i : Nat} {R : List (List UInt8)} {s0 : DS} {l : LogP} {ps : List PcS} {p : PcS} {sf : Int} (h : TrS (limF n) i R s0 l ps p sf) (hi : i ≤ 100) (hsm : SmallD s0) :
    (syncLF s0 l).2 = (l, 0) ∧ (trimLF (syncLF s0 l).1 l idx).2.2 = 0 ∧ SmallD (trimLF (syncLF s0 l).1 l idx).1 ∧ (syncLF s0 l).1.steps < 1000000 ∧ TrEnd n idx R l.pieces.length (trimLF (syncLF s0 l).1 l idx).1 (trimLF (syncLF s0 l).1 l idx).2.1 := by
  obtain ⟨a, b, c, st⟩ := h.sync hi
  have hb := h.bounds (limF_le n) hi
  have hs := h.steps
  have hsz := h.sz
  have hcnt := h.cnt
  have hlen := h.len
  have hsm2 := (hsm.syncL l).trimL l idx
  obtain ⟨pre, qs, s', h1, h2, h3, h4, h5, h6, h7, h8, h9, h10, h11, h12⟩ := h.trim st (by omega) (by omega) idx
  have hpc := hb.2.1
  have hlp := hb.2.2.2.2.2
  have hst1 : (syncLF s0 l).1.steps < 100000 := by omega
  rw [h2] at hsm2 ⊢
  have e2 : ({ l with pieces := heads (qs ++ [p]) } : LogP) = pcsL (limF n) qs p (1 + (allOf pre).length) := by
    have h13 : l.next = endOf (1 + (allOf pre).length) (qs ++ [p]) := by
      rw [end_chain, h9, List.length_drop]
      omega
    have h14 : l.size = (pieceD p).length := by rw [hpc]; rfl
    have h15 : l.limit = limF n := by rw [hpc]; rfl
    have h16 : l.shut = false := by rw [hpc]; rfl
    unfold pcsL
    rw [← h13, h14, h15, h16]
  rw [e2]
  have hk : ∀ x ∈ qs ++ [p], PcOk x := fun x hx => st.each x (by rw [h1, List.append_assoc]; exact List.mem_append_right _ hx)
  have hqs : qs.length ≤ ps.length := by rw [h1, List.length_append]; omega
  rw [szOf_append] at hsz
  have hs1 : szOf [p] = (pieceD p).length := by simp [szOf]
  rw [hs1] at hsz
  have hne : ∀ x ∈ fullImg qs, x.1 ≠ walName p.num := fun x hx => st.others x (by
    rw [h1]
    unfold fullImg
    rw [List.map_append]
    exact List.mem_append_right _ hx)
  have hsum : sumL (fullImg qs ++ [lastA p (pieceD p).length]) ≤ s'.room := by
    rw [h5, b, sum_last, sum_full]
    have h17 : szOf ps = szOf pre + szOf qs := by rw [h1, szOf_append]
    omega
  obtain ⟨s3, e3, u3, -⟩ := again h3 h4 h8 hk hne hsum n
  have hend : endOf (1 + (allOf pre).length) (qs ++ [p]) = 1 + R.length := by
    rw [end_chain, h9, List.length_drop]
    omega
  have hok := pcs_ok (limF_le n) hk (by omega) (by rw [hend]; omega) (by omega)
  have hf := firstP_pcs (lim := limF n) h8
  have hst3 := openF_steps h4 hsm2 n
  rw [e3] at hst3
  refine ⟨a, rfl, hsm2, by omega, hok, by show s'.steps < _; omega, by rw [hf]; exact h11, hend, ?_, ?_⟩
  · rw [hpc]
    show (heads (qs ++ [p])).length ≤ (heads (ps ++ [p])).length ∧ 1 ≤ (heads (qs ++ [p])).length
    unfold heads
    simp
    omega
  · refine ⟨s3, _, _, e3, hok, by simp only [] at hst3; omega, rfl, hend, ?_, by rw [hf]; omega, fun j hj hj2 => ?_, ?_⟩
    · rw [numbered_len, hf, h9, List.length_drop]
      omega
    · simp only [hf] at hj2 ⊢
      rw [numbered_len] at hj
      rw [numbered_get _ _ j (by rw [numbered_len]; exact hj) hj]
      simp only [h9, List.getElem_drop]
      congr 2
      omega
    · have hal : aliveF s3 (pcsL (limF n) qs p (1 + (allOf pre).length)) = (pcsL (limF n) qs p (1 + (allOf pre).length), 0) := by
        unfold aliveF
        rw [if_neg]
        rw [u3.down]
        simp [pcsL]
      unfold trimLF
      rw [hal, if_neg (by simp)]
      exact trim_rest h7 _ _

end Go.Proofs.Ytigdhdclfdojgaa
