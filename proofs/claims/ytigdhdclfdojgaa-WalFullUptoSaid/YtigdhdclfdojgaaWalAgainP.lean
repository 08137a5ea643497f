/-
  wal: A LOG OPENED AGAIN, in plain Lean.
-/
import Derived.Test.YtigdhdclfdojgaaWalTrimP
namespace Go.Proofs.Ytigdhdclfdojgaa
open Go.RowKit

def pcsL (lim : Nat) (ps : List PcS) (p : PcS) (n0 : Nat) : LogP := ⟨lim, heads (ps ++ [p]), endOf n0 (ps ++ [p]), (pieceD p).length, false⟩
theorem datL_full (ps : List PcS) (p : PcS) (sf : Int) : datL (fullImg ps ++ [lastA p sf]) = datOf (ps ++ [p]) := by
  unfold datL fullImg datOf lastA full
  rw [List.map_append, List.map_append, List.map_map]
  rfl
theorem again {s : DS} {ps : List PcS} {p : PcS} (h : Up s (fullImg ps ++ [lastA p (pieceD p).length])) (hok : DOk s) {n0 : Nat} (hc : Chain n0 (ps ++ [p])) (hk : ∀ x ∈ ps ++ [p], PcOk x) (hne : ∀ x ∈ fullImg ps, x.1 ≠ walName p.num) (hs : sumL (fullImg ps ++ [lastA p (pieceD p).length]) ≤ s.room) (n : Int) :
    ∃ s', openF s n = (s', some (pcsL (limF n) ps p n0, numbered n0 (allOf (ps ++ [p]))), 0) ∧ Up s' (fullImg ps ++ [lastA p (pieceD p).length]) ∧ s'.room = s.room := by
  have hsc := scan_chain (ps ++ [p]) n0 found0 rfl (Or.inl rfl) hc hk (by simp)
  have hf : scanL (datL (fullImg ps ++ [lastA p (pieceD p).length])) = ⟨heads (ps ++ [p]), recsOf (ps ++ [p]), endOf n0 (ps ++ [p]), (pieceD p).length, true, []⟩ := by
    rw [datL_full, scanL_fold, hsc]
    simp [found0]
  have hl : lastP (foundL ⟨heads (ps ++ [p]), recsOf (ps ++ [p]), endOf n0 (ps ++ [p]), (pieceD p).length, true, []⟩ n) = (p.num, p.first) := by
    unfold lastP foundL heads
    simp
  obtain ⟨s', e, u, r⟩ := reopen h hok n hf rfl (by simp [heads]) (b := pieceD p) (by rw [hl]; exact get_last hne) rfl hs
  rw [recs_chain _ _ hc] at e
  exact ⟨s', e, u, r⟩

end Go.Proofs.Ytigdhdclfdojgaa
