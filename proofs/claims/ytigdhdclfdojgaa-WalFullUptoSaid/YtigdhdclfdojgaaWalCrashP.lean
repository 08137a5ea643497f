/-
  wal: A LOSS OF POWER that keeps nothing of what is not safe, in plain Lean.
-/
import Derived.Test.YtigdhdclfdojgaaWalAgainP
namespace Go.Proofs.Ytigdhdclfdojgaa
open Go.RowKit

theorem Up.crash {s : DS} {L : Img} (h : Up s L) (hok : DOk s) : Up (crashF s []) (L.map fun x => (x.1, cutS x.2)) ∧ DOk (crashF s []) ∧ (crashF s []).room = s.room := by
  have ok2 := crashF_ok hok []
  refine ⟨⟨⟨h.sim.srt.of_fst (by rw [List.map_map]; rfl), ok2.keys, fun k => ?_⟩, rfl, rfl⟩, ok2, (crashUp_room _ [] s _).1⟩
  rw [crashF_get hok k, alGet_map, h.sim.get]
theorem cutS_full (l : List UInt8) : cutS (full l) = full l := by
  unfold cutS full
  simp
/-- What is safe of the last piece: j of its records. -/
def tillP (p : PcS) (j : Nat) : PcS := ⟨p.num, p.first, p.recs.take j⟩
theorem till_take (p : PcS) (j : Nat) : (pieceD p).take (pieceD (tillP p j)).length = pieceD (tillP p j) := by
  have e : pieceD p = pieceD (tillP p j) ++ frames (p.recs.drop j) := by
    unfold pieceD tillP
    rw [List.append_assoc, ← frames_append, List.take_append_drop]
  rw [e]
  exact List.take_left' rfl
theorem crash_log {s : DS} {ps : List PcS} {p : PcS} {j : Nat} (h : Up s (fullImg ps ++ [lastA p (pieceD (tillP p j)).length])) (hok : DOk s) : Up (crashF s []) (fullImg ps ++ [lastA (tillP p j) (pieceD (tillP p j)).length]) ∧ DOk (crashF s []) ∧ (crashF s []).room = s.room := by
  obtain ⟨a, b, c⟩ := h.crash hok
  refine ⟨?_, b, c⟩
  have e : (fullImg ps ++ [lastA p (pieceD (tillP p j)).length]).map (fun x => (x.1, cutS x.2)) = fullImg ps ++ [lastA (tillP p j) (pieceD (tillP p j)).length] := by
    rw [List.map_append]
    congr 1
    · unfold fullImg
      rw [List.map_map]
      refine List.map_congr_left fun x _ => ?_
      show (walName x.num, cutS (full (pieceD x))) = _
      rw [cutS_full]
    · show [(walName p.num, cutS ⟨pieceD p, ((pieceD (tillP p j)).length : Int)⟩)] = [(walName p.num, ⟨pieceD (tillP p j), ((pieceD (tillP p j)).length : Int)⟩)]
      unfold cutS
      simp only [Int.toNat_natCast, till_take]
  rw [← e]
  exact a

end Go.Proofs.Ytigdhdclfdojgaa
