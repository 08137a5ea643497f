/-
  wal: A NEW PIECE, in plain Lean.
-/
import Derived.Test.YtigdhdclfdojgaaWalFullP
namespace Go.Proofs.Ytigdhdclfdojgaa
open Go.RowKit

def nextP (p : PcS) : PcS := ⟨p.num + 1, p.first + p.recs.length, []⟩
theorem pieceD_next (p : PcS) : pieceD (nextP p) = headerL (p.num + 1) (p.first + p.recs.length) := by
  unfold pieceD nextP
  rw [frames_nil, List.append_nil]
theorem fullImg_snoc (ps : List PcS) (p : PcS) : fullImg (ps ++ [p]) = fullImg ps ++ [lastA p (pieceD p).length] := by
  unfold fullImg
  rw [List.map_append]
  rfl
theorem FSt.new {lim : Nat} {s : DS} {l : LogP} {ps : List PcS} {p : PcS} (h : FSt lim s l ps p (pieceD p).length) (hn : p.num + 1 ≤ 999999) (hf : p.first + p.recs.length ≤ 1099511627776) (hst : s.steps < 4611686018427380000) :
    ((beginF s l (p.num + 1) (p.first + p.recs.length)) = (s, l, 43) ∧ 64 ≤ ps.length + 1) ∨
    ((beginF s l (p.num + 1) (p.first + p.recs.length)).2 = (l, 42) ∧ (beginF s l (p.num + 1) (p.first + p.recs.length)).1.room = s.room ∧ FSt lim (beginF s l (p.num + 1) (p.first + p.recs.length)).1 l ps p (pieceD p).length ∧ s.room < sumL (fullImg (ps ++ [p])) + 35) ∨
    ((beginF s l (p.num + 1) (p.first + p.recs.length)).2.2 = 0 ∧ (beginF s l (p.num + 1) (p.first + p.recs.length)).1.room = s.room ∧ FSt lim (beginF s l (p.num + 1) (p.first + p.recs.length)).1 (beginF s l (p.num + 1) (p.first + p.recs.length)).2.1 (ps ++ [p]) (nextP p) (pieceD (nextP p)).length) := by
  have hp := h.each p (by simp)
  have hup := h.up
  rw [← fullImg_snoc] at hup
  have hlow : ∀ x ∈ fullImg (ps ++ [p]), toL x.1 < toL (walName (p.num + 1)) := by
    intro x hx
    obtain ⟨y, hy, rfl⟩ := List.mem_map.1 hx
    refine walName_lt ?_ hn
    rcases List.mem_append.1 hy with hy | hy
    · have := h.lt y hy; omega
    · rw [List.mem_singleton.1 hy]; omega
  have hne : ∀ x ∈ fullImg (ps ++ [p]), x.1 ≠ walName (p.num + 1) := fun x hx e => by
    have := hlow x hx
    rw [e] at this
    exact List.lt_irrefl _ this
  have hno : alGet (walName (p.num + 1)) (fullImg (ps ++ [p])) = none := (alGet_none _ _).2 fun c => by
    obtain ⟨x, hx, e⟩ := List.mem_map.1 c
    exact hne x hx e
  have hz := get0_none hno
  have hk := nameOk_wal (p.num + 1)
  have hhl := headerL_len (p.num + 1) (p.first + p.recs.length)
  have hpn := pieceD_next p
  have hlen : (fullImg (ps ++ [p])).length = ps.length + 1 := by simp [fullImg]
  by_cases h64 : (fullImg (ps ++ [p])).length < 64
  case neg =>
    left
    have e : appendF s (walName (p.num + 1)) (headerL (p.num + 1) (p.first + p.recs.length)) = (s, 43) := by
      unfold appendF
      rw [bars_up hup.down hk (fun e => by simp at e), if_neg (by simp), if_pos ⟨by rw [hup.get]; exact hno, by rw [← hup.sim.len]; omega⟩]
    refine ⟨?_, by omega⟩
    unfold beginF
    rw [e, if_pos (by simp)]
    rfl
  right
  obtain ⟨a1, u1⟩ := hup.append hk (Or.inr h64) (d := headerL (p.num + 1) (p.first + p.recs.length)) (by rw [hz]; simp only [List.length_nil]; omega)
  rw [hz] at a1 u1
  simp only [List.nil_append] at a1 u1
  rw [ins_last hlow] at u1
  have s1 := appendF_steps s (walName (p.num + 1)) (headerL (p.num + 1) (p.first + p.recs.length))
  have ok1 := appendF_ok h.ok (walName (p.num + 1)) (headerL (p.num + 1) (p.first + p.recs.length)) (by omega)
  have ha0 : (appendF s (walName (p.num + 1)) (headerL (p.num + 1) (p.first + p.recs.length))).2 = 0 := by rw [a1]
  have har : (appendF s (walName (p.num + 1)) (headerL (p.num + 1) (p.first + p.recs.length))).1.room = s.room := by rw [a1]; rfl
  have hbe : beginF s l (p.num + 1) (p.first + p.recs.length) = beginB (syncF (appendF s (walName (p.num + 1)) (headerL (p.num + 1) (p.first + p.recs.length))).1 (walName (p.num + 1))) l (p.num + 1) (p.first + p.recs.length) := by
    unfold beginF
    rw [ha0, if_neg (by simp)]
  rw [hbe]
  clear hbe ha0 a1
  generalize hH : headerL (p.num + 1) (p.first + p.recs.length) = H at *
  have hg1 : alGet (walName (p.num + 1)) (fullImg (ps ++ [p]) ++ [(walName (p.num + 1), ⟨H, 0⟩)]) = some ⟨H, 0⟩ := get_last hne
  generalize (appendF s (walName (p.num + 1)) H).1 = t at *
  have hsm : sumL (fullImg (ps ++ [p]) ++ [(walName (p.num + 1), ⟨H, 0⟩)]) = sumL (fullImg (ps ++ [p])) := by
    rw [sumL_append]
    simp [sumL]
  rcases u1.sync hk hg1 with ⟨c1, c2⟩ | ⟨c1, c2, u2⟩
  · left
    rw [hsm, har] at c1
    simp only [] at c1
    obtain ⟨d1, u3⟩ := u1.drop hk (by rw [hg1]; simp)
    have hfil : (fullImg (ps ++ [p]) ++ [(walName (p.num + 1), (⟨H, 0⟩ : AreaP))]).filter (fun y => decide (y.1 ≠ walName (p.num + 1))) = fullImg (ps ++ [p]) := by
      rw [List.filter_append, filter_ne (fun c => by
        obtain ⟨x, hx, e⟩ := List.mem_map.1 c
        exact hne x hx e)]
      simp
    rw [hfil] at u3
    have ok3 := dropF_ok ok1 (walName (p.num + 1)) (by omega)
    have hdr : (dropF t (walName (p.num + 1))).1.room = s.room := by rw [d1]; exact har
    have hd0 : (dropF t (walName (p.num + 1))).2 = 0 := by rw [d1]
    have hbb : beginB (syncF t (walName (p.num + 1))) l (p.num + 1) (p.first + p.recs.length) = ((dropF t (walName (p.num + 1))).1, l, 42) := by
      unfold beginB
      rw [c2, if_pos rfl, hd0, if_neg (by simp)]
    rw [hbb]
    refine ⟨rfl, hdr, ⟨by rw [← fullImg_snoc]; exact u3, ok3, h.log, h.each, h.chain, h.lt, h.inc, h.safe, ?_⟩, by omega⟩
    show _ ≤ (dropF t (walName (p.num + 1))).1.room
    rw [hdr]
    exact h.fits
  · right
    have ok2 := syncF_ok ok1 (walName (p.num + 1)) (by omega)
    have hs0 : (syncF t (walName (p.num + 1))).2 = 0 := by rw [c2]
    have hsr : (syncF t (walName (p.num + 1))).1.room = s.room := by rw [c2]; exact har
    have hbb : beginB (syncF t (walName (p.num + 1))) l (p.num + 1) (p.first + p.recs.length) = ((syncF t (walName (p.num + 1))).1, beginOk l (p.num + 1) (p.first + p.recs.length), 0) := by
      unfold beginB
      rw [if_neg (by rw [hs0]; simp), if_neg (by rw [hs0]; simp)]
    rw [hbb]
    rw [hsm, har] at c1
    simp only [] at c1
    have hcc := h.chain
    refine ⟨rfl, hsr, ⟨?_, ok2, ?_, ?_, ?_, ?_, ?_, ⟨by omega, Int.le_refl _⟩, ?_⟩⟩
    · rw [upd_last hne] at u2
      unfold lastA
      rw [hpn]
      exact u2
    · unfold beginOk
      rw [h.log, hpn, hH]
      simp [heads, nextP]
    · intro x hx
      rcases List.mem_append.1 hx with hx | hx
      · exact h.each x hx
      · rw [List.mem_singleton.1 hx]
        exact ⟨⟨by show 1 ≤ p.num + 1; omega, hn⟩, ⟨by have := hp.first.1; show 1 ≤ p.first + p.recs.length; omega, hf⟩, fun d hd => by cases hd⟩
    · refine (chain_append (ps ++ [p]) _ 1).2 ⟨hcc, ?_, trivial⟩
      have h1 := (chain_append ps [p] 1).1 hcc
      have h2 : endOf 1 (ps ++ [p]) = endOf 1 ps + p.recs.length := by
        rw [end_chain, end_chain]
        simp [allOf]
        omega
      rw [h2, ← h1.2.1]
      rfl
    · intro x hx
      rcases List.mem_append.1 hx with hx | hx
      · have := h.lt x hx; show x.num < p.num + 1; omega
      · rw [List.mem_singleton.1 hx]; show p.num < p.num + 1; omega
    · refine List.pairwise_append.2 ⟨h.inc, List.pairwise_singleton _ _, fun a ha b hb => ?_⟩
      rw [List.mem_singleton.1 hb]
      exact h.lt a ha
    · rw [sum_last, hsr, hpn]
      omega

end Go.Proofs.Ytigdhdclfdojgaa
