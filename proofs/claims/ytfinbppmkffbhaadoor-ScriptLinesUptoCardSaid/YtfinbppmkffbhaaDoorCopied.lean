/-
  WALK of the laws' copied: a command whose two slices are its own.
-/
import Derived.Test.YtfinbppmkffbhaaDoorSameRef
namespace Go.Proofs.YtfinbppmkffbhaaDoor
open Go.RowKit Go.Sort

theorem ints_one (l : List Int) : ∀ u ∈ l.map (Value.int .i64), u.oneCell' = true := by
  intro u hu
  obtain ⟨_, _, rfl⟩ := List.mem_map.1 hu
  rfl
/-- What copied answers. -/
structure CopyTo (c : CmdV) (w : World) (e : Ending) (w' : World) : Prop where
  kp : Kp Noone w w'
  is : ∃ l, e = .returned (cmdV c l) ∧ CmdAt w' c l
/-- The third box behind the first store. -/
theorem copy_nums {w w1 : World} {g : Nat} {c : CmdV} {l : Loc} {ao1 : Option Addr} {cap1 : Nat} {B : Nat} (hg : w.heap.size = g) (hB : B = g + 3) (hk : Kp Noone w w1) (hr0 : w1.heap[g]? = some (.cells (cmdCs c l) 27 (0, 0))) (hr1 : w1.heap[g + 1]? = some (.cells (cmdCs cmd0 loc0) 27 (0, 0)))
    (hr2 : w1.heap[g + 2]? = some (.cells (cmdCs c l) 27 (0, 0))) (ho : Own (fun k => B ≤ k) w1 3 1 ao1 c.nums.length cap1 (c.nums.map (Value.int .i64))) :
    Kp Noone w (w1.setCell ⟨g + 2, 1, none⟩ (.slice ao1 c.nums.length cap1)) ∧ (w1.setCell ⟨g + 2, 1, none⟩ (.slice ao1 c.nums.length cap1)).heap[g]? = some (.cells (cmdCs c l) 27 (0, 0)) ∧
    (w1.setCell ⟨g + 2, 1, none⟩ (.slice ao1 c.nums.length cap1)).heap[g + 1]? = some (.cells (cmdCs cmd0 loc0) 27 (0, 0)) ∧
    (w1.setCell ⟨g + 2, 1, none⟩ (.slice ao1 c.nums.length cap1)).heap[g + 2]? = some (.cells (cmdCs c ⟨ao1, cap1, l.bo, l.bc⟩) 27 (0, 0)) ∧
    Own (fun k => B ≤ k) (w1.setCell ⟨g + 2, 1, none⟩ (.slice ao1 c.nums.length cap1)) 3 1 ao1 c.nums.length cap1 (c.nums.map (Value.int .i64)) := by
  have kq : Kp (fun x => x = g + 2) w1 (w1.setCell ⟨g + 2, 1, none⟩ (.slice ao1 c.nums.length cap1)) := (Kp.refl (fun x => x = g + 2) w1).setCell (p := ⟨g + 2, 1, none⟩) (fun _ => rfl) _
  refine ⟨kp_new hk (by omega) _ _, set_off hr0 (by omega) _ _, set_off hr1 (by omega) _ _, ?_, ho.kp kq (fun x hx e => by omega)⟩
  exact (heap_set_cell hr2).trans (by simp [cmdCs])
theorem copy_data {w w1 : World} {g : Nat} {c : CmdV} {l : Loc} {ao3 : Option Addr} {cap3 : Nat} {B : Nat} (hg : w.heap.size = g) (hB : B = g + 3) (hk : Kp Noone w w1) (hr1 : w1.heap[g + 1]? = some (.cells (cmdCs cmd0 loc0) 27 (0, 0)))
    (hr2 : w1.heap[g + 2]? = some (.cells (cmdCs c l) 27 (0, 0))) (hn : Own (fun k => B ≤ k) w1 3 1 l.no c.nums.length l.nc (c.nums.map (Value.int .i64))) (ho : Own (fun k => B ≤ k) w1 5 1 ao3 c.data.length cap3 (bv c.data)) :
    Kp Noone w (w1.setCell ⟨g + 2, 7, none⟩ (.slice ao3 c.data.length cap3)) ∧
    (w1.setCell ⟨g + 2, 7, none⟩ (.slice ao3 c.data.length cap3)).heap[g + 1]? = some (.cells (cmdCs cmd0 loc0) 27 (0, 0)) ∧
    (w1.setCell ⟨g + 2, 7, none⟩ (.slice ao3 c.data.length cap3)).heap[g + 2]? = some (.cells (cmdCs c ⟨l.no, l.nc, ao3, cap3⟩) 27 (0, 0)) ∧
    Own (fun k => B ≤ k) (w1.setCell ⟨g + 2, 7, none⟩ (.slice ao3 c.data.length cap3)) 3 1 l.no c.nums.length l.nc (c.nums.map (Value.int .i64)) ∧
    Own (fun k => B ≤ k) (w1.setCell ⟨g + 2, 7, none⟩ (.slice ao3 c.data.length cap3)) 5 1 ao3 c.data.length cap3 (bv c.data) := by
  have kq : Kp (fun x => x = g + 2) w1 (w1.setCell ⟨g + 2, 7, none⟩ (.slice ao3 c.data.length cap3)) := (Kp.refl (fun x => x = g + 2) w1).setCell (p := ⟨g + 2, 7, none⟩) (fun _ => rfl) _
  refine ⟨kp_new hk (by omega) _ _, set_off hr1 (by omega) _ _, ?_, hn.kp kq (fun x hx e => by omega), ho.kp kq (fun x hx e => by omega)⟩
  exact (heap_set_cell hr2).trans (by simp [cmdCs])
theorem copy_fin {w w1 : World} {g : Nat} {c : CmdV} {l : Loc} {B : Nat} (hg : w.heap.size = g) (hB : B = g + 3) (hk : Kp Noone w w1) (hn : Own (fun k => B ≤ k) w1 3 1 l.no c.nums.length l.nc (c.nums.map (Value.int .i64))) (ho : Own (fun k => B ≤ k) w1 5 1 l.bo c.data.length l.bc (bv c.data))
    {w9 : World} {l9 : Loc} (h9 : CmdAt w9 c l9) : CopyTo c w (.returned (cmdV c l)) (putC w1 (g + 1) c l) := by
  have kr : Kp (fun x => x = g + 1) w1 (putC w1 (g + 1) c l) :=
    ((((((((Kp.refl (fun x => x = g + 1) w1).setCell (p := ⟨g + 1, 0, none⟩) (fun _ => rfl) _).setCell (p := ⟨g + 1, 1, none⟩) (fun _ => rfl) _).setCell (p := ⟨g + 1, 2, none⟩) (fun _ => rfl) _).setCell (p := ⟨g + 1, 3, none⟩) (fun _ => rfl) _).setCell (p := ⟨g + 1, 4, none⟩) (fun _ => rfl) _).setCell (p := ⟨g + 1, 5, none⟩) (fun _ => rfl) _).setCell (p := ⟨g + 1, 6, none⟩) (fun _ => rfl) _).setCell (p := ⟨g + 1, 7, none⟩) (fun _ => rfl) _
  exact ⟨putC_kp hk (by omega) _ _, l, rfl, ⟨(hn.kp kr (fun x hx e => by omega)).is, (ho.kp kr (fun x hx e => by omega)).bs, h9.verb, h9.dlen, h9.nlen, h9.nb, h9.ob⟩⟩

end Go.Proofs.YtfinbppmkffbhaaDoor
