/-
  Slices of texts; the two boxes of script.Op (its result and the operation it builds).
-/
import Derived.Test.YtfinbppmkffbhaaDoorScriptC
namespace Go.Proofs.YtfinbppmkffbhaaDoor
open Go.RowKit Go.Sort

def sv (l : List (List UInt8)) : List Value := l.map strV
/-- A slice of texts. -/
structure SS (w : World) (ao : Option Addr) (n cap : Nat) (ls : List (List UInt8)) : Prop where
  len : ls.length = n
  le : n ≤ cap
  max : cap ≤ maxLen
  row : Row w ao (sv ls)
theorem SS.keep {w w' : World} {ao : Option Addr} {n cap : Nat} {ls : List (List UInt8)} (h : SS w ao n cap ls) (k : Kp Noone w w') : SS w' ao n cap ls :=
  ⟨h.len, h.le, h.max, h.row.keep k⟩
theorem SS.at {w : World} {ao : Option Addr} {n cap : Nat} {ls : List (List UInt8)} (h : SS w ao n cap ls) {k : Nat} (hk : k < n) :
    ∃ b off, ao = some ⟨b, off, none⟩ ∧ b < w.heap.size ∧ w.cell? ⟨b, off + k, none⟩ = some (strV (getW ls k)) := by
  have hl : k < ls.length := by rw [h.len]; exact hk
  have hg : getW ls k = ls[k] := by unfold getW; rw [List.getD_eq_getElem?_getD, List.getElem?_eq_getElem hl]; rfl
  rw [hg]
  rcases h.row with hr | ⟨b, off, rfl, hr⟩
  · have h0 : ls = [] := by simpa [sv] using hr
    subst h0
    simp at hl
  · have hc := hr k (by simpa [sv] using hl)
    have hc2 : w.cell? ⟨b, off + k, none⟩ = some (strV ls[k]) := by rw [hc]; simp [sv]
    exact ⟨b, off, rfl, World.block_lt_of_cell? w _ hc2, hc2⟩
theorem SS.sub {w : World} {ao : Option Addr} {n cap : Nat} {ls : List (List UInt8)} (h : SS w ao n cap ls) (lo hi : Nat) (h1 : lo ≤ hi) (h2 : hi ≤ n) :
    SS w (if cap = lo then ao else ao.map (·.add lo)) (hi - lo) (cap - lo) ((ls.take hi).drop lo) := by
  refine ⟨by rw [List.length_drop, List.length_take, h.len]; omega, by have := h.le; omega, by have := h.max; omega, ?_⟩
  refine h.row.sub lo cap (by rw [sv, List.length_map, h.len]; exact h.le) (sv ((ls.take hi).drop lo)) ?_
  unfold sv
  rw [← List.map_drop, List.drop_take]
  exact (List.take_prefix _ _).map _

theorem set_off {w : World} {g p : Nat} {o : Obj} (h : w.heap[p]? = some o) (hne : g ≠ p) (i : Nat) (u : Value) : (w.setCell ⟨g, i, none⟩ u).heap[p]? = some o := by
  simp [World.setCell, Array.getElem?_modify, hne, h]
theorem kp_new {w w1 : World} (k : Kp Noone w w1) {g : Nat} (hg : w.heap.size ≤ g) (i : Nat) (u : Value) : Kp Noone w (w1.setCell ⟨g, i, none⟩ u) :=
  Kp.setCell (p := ⟨g, i, none⟩) k (fun h => by have h' : g < w.heap.size := h; omega) u

def opCs (o : OpV) : Array Value := #[.int .i64 o.kind, .int .i64 o.reg, .int .i64 o.to, .int .i64 o.re, .int .i64 o.im]
/-- The two boxes of Op: its result (zero so far) and the operation. -/
structure OpSt (w : World) (r q : Nat) (o : OpV) (W : World) : Prop where
  kp : Kp Noone w W
  res : W.heap[r]? = some (.cells (opCs op0) 24 (0, 0))
  op : W.heap[q]? = some (.cells (opCs o) 24 (0, 0))
theorem OpSt.keep {w W W' : World} {r q : Nat} {o : OpV} (h : OpSt w r q o W) (k : Kp Noone W W') : OpSt w r q o W' :=
  ⟨h.kp.trans' k (fun _ _ c => c), k.heap h.res id, k.heap h.op id⟩
theorem OpSt.set {w W : World} {r q : Nat} {o o' : OpV} (h : OpSt w r q o W) (hq : w.heap.size ≤ q) (hne : q ≠ r) (i : Nat) (u : Value)
    (ho : (opCs o).set! i u = opCs o') (hi : i < 5) : OpSt w r q o' (W.setCell ⟨q, i, none⟩ u) := by
  refine ⟨kp_new h.kp hq i u, set_off h.res hne i u, ?_⟩
  rw [← ho]
  have hi2 : i < (opCs o).size := hi
  simp [World.setCell, Array.getElem?_modify, h.op, Array.set!_eq_setIfInBounds, Array.setIfInBounds, hi2]
theorem cells_2f {w : World} {p e : Nat} {a b : Value} (h : w.heap[p]? = some (.cells #[a, b] e (0, 0))) :
    w.cell? ⟨p, 0, none⟩ = some a ∧ w.cell? ⟨p, 1, none⟩ = some b ∧ w.frozen? ⟨p, 0, none⟩ = false ∧ w.frozen? ⟨p, 1, none⟩ = false := by
  refine ⟨?_, ?_, ?_, ?_⟩
  · rw [cell_of_row w p 0 _ e (0, 0) h]; rfl
  · rw [cell_of_row w p 1 _ e (0, 0) h]; rfl
  all_goals simp [World.frozen?, h]
structure Cells5 (W : World) (g : Nat) (a b c d e : Value) : Prop where
  c0 : W.cell? ⟨g, 0, none⟩ = some a
  c1 : W.cell? ⟨g, 1, none⟩ = some b
  c2 : W.cell? ⟨g, 2, none⟩ = some c
  c3 : W.cell? ⟨g, 3, none⟩ = some d
  c4 : W.cell? ⟨g, 4, none⟩ = some e
  f0 : W.frozen? ⟨g, 0, none⟩ = false
  f1 : W.frozen? ⟨g, 1, none⟩ = false
  f2 : W.frozen? ⟨g, 2, none⟩ = false
  f3 : W.frozen? ⟨g, 3, none⟩ = false
  f4 : W.frozen? ⟨g, 4, none⟩ = false
theorem cells_5f {w : World} {g : Nat} {a b c d e : Value} {T : TypeId} (h : w.heap[g]? = some (.cells #[a, b, c, d, e] T (0, 0))) : Cells5 w g a b c d e := by
  have z := cells_5 h
  exact ⟨z.1, z.2.1, z.2.2.1, z.2.2.2.1, z.2.2.2.2, by simp [World.frozen?, h], by simp [World.frozen?, h], by simp [World.frozen?, h], by simp [World.frozen?, h], by simp [World.frozen?, h]⟩
/-- The result box written whole. -/
def putOp (r : Nat) (o : OpV) (W : World) : World :=
  ((((W.setCell ⟨r, 0, none⟩ (.int .i64 o.kind)).setCell ⟨r, 1, none⟩ (.int .i64 o.reg)).setCell ⟨r, 2, none⟩ (.int .i64 o.to)).setCell ⟨r, 3, none⟩ (.int .i64 o.re)).setCell ⟨r, 4, none⟩ (.int .i64 o.im)
theorem putOp_heap {W : World} {r : Nat} {a b c d e : Value} {T : TypeId} (o : OpV) (h : W.heap[r]? = some (.cells #[a, b, c, d, e] T (0, 0))) : (putOp r o W).heap[r]? = some (.cells (opCs o) T (0, 0)) := by
  unfold putOp
  simp [World.setCell, Array.getElem?_modify, h, opCs]
theorem putOp_kp {w W : World} (k : Kp Noone w W) {r : Nat} (hr : w.heap.size ≤ r) (o : OpV) : Kp Noone w (putOp r o W) :=
  kp_new (kp_new (kp_new (kp_new (kp_new k hr _ _) hr _ _) hr _ _) hr _ _) hr _ _
/-- What Op answers. -/
structure OpTo (ws : List (List UInt8)) (w : World) (e : Ending) (w' : World) : Prop where
  is : e = .returned (.tuple #[opV (opF ws).1, .int .i64 (opF ws).2])
  kp : Kp Noone w w'
theorem OpTo.mk' {ws : List (List UInt8)} {w w' : World} {e : Ending} {o : OpV} {c : Int} (h : opF ws = (o, c)) (he : e = .returned (.tuple #[opV o, .int .i64 c])) (k : Kp Noone w w') : OpTo ws w e w' :=
  ⟨by rw [h]; exact he, k⟩

end Go.Proofs.YtfinbppmkffbhaaDoor
