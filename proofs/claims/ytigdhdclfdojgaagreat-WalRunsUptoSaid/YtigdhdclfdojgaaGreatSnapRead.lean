/-
  THE WALK of snap: read, current.
-/
import Derived.Test.YtigdhdclfdojgaaGreatSnapWalk
import Derived.Deep.MidRow
import Derived.Laws.ResultCell
namespace Go.Proofs.YtigdhdclfdojgaaGreat
open Go.RowKit

def papC (p : Pap) : Array Value := #[.int .i64 (p.turn : Int), .int .i64 (p.slot : Int), .int .u64 (p.sum : Int)]
def papV (p : Pap) : Value := .agg (papC p)
def putP (w : World) (g : Nat) (p : Pap) : World := w.setCells g 0 (papC p).toList
theorem putP_kp (w : World) (g : Nat) (p : Pap) : Kp (fun j => j = g) w (putP w g p) :=
  (((Kp.refl (fun j => j = g) w).setCell (p := ⟨g, 0, none⟩) (fun _ => rfl) _).setCell (p := ⟨g, 1, none⟩) (fun _ => rfl) _).setCell (p := ⟨g, 2, none⟩) (fun _ => rfl) _
theorem putP_heap {w : World} {g e : Nat} {a0 a1 a2 : Value} (p : Pap) (h : w.heap[g]? = some (.cells #[a0, a1, a2] e (0, 0))) : (putP w g p).heap[g]? = some (.cells (papC p) e (0, 0)) :=
  (heap_set_cell (heap_set_cell (heap_set_cell h))).trans (by simp [papC])
theorem there_row3 {w : World} {g e : Nat} {cs : Array Value} (h : w.heap[g]? = some (.cells cs e (0, 0))) : w.there g 0 cs.size := by
  intro j hj
  refine ⟨?_, by simp [World.frozen?, h]⟩
  rw [Nat.zero_add, cell_of_row w g j cs e (0, 0) h, Array.getElem?_eq_getElem hj]
  rfl
/-- What read and current answer. -/
structure PapTo (w : World) (R : Pap × Nat) (e : Ending) (w' : World) : Prop where
  ex : e = .returned (.tuple #[papV R.1, .int .i64 (R.2 : Int)]) ∧ Kp Noone w w'

theorem openE_le (l : List UInt8) : 0 ≤ openE l ∧ openE l ≤ 14 := by
  unfold openE
  split
  · omega
  · split <;> omega

attribute [local irreducible] putP

theorem readF_len {s : DS} (h : DOk s) (k : ByteArray) : (readF s k).1.length ≤ 140737488355328 := by
  unfold readF
  split
  · simp
  · exact (h.get k).2.2

end Go.Proofs.YtigdhdclfdojgaaGreat
