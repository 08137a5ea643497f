/-
  Commands as values: slices of ints, the eight cells of a command.
-/
import Derived.Test.YtfinbppmkffbhaaDoorScriptD0
import Derived.Test.YtfinbppmkffbhaaDoorScriptC
namespace Go.Proofs.YtfinbppmkffbhaaDoor
open Go.RowKit Go.Sort

/-- A slice of ints. -/
structure IS (w : World) (ao : Option Addr) (n cap : Nat) (xs : List Int) : Prop where
  len : xs.length = n
  le : n ≤ cap
  max : cap ≤ maxLen
  row : Row w ao (xs.map (Value.int .i64))
theorem IS.keep {w w' : World} {ao : Option Addr} {n cap : Nat} {xs : List Int} (h : IS w ao n cap xs) (k : Kp Noone w w') : IS w' ao n cap xs := ⟨h.len, h.le, h.max, h.row.keep k⟩
theorem IS.at {w : World} {ao : Option Addr} {n cap : Nat} {xs : List Int} (h : IS w ao n cap xs) {k : Nat} (hk : k < n) :
    ∃ b off, ∃ hl : k < xs.length, ao = some ⟨b, off, none⟩ ∧ b < w.heap.size ∧ w.cell? ⟨b, off + k, none⟩ = some (.int .i64 xs[k]) := by
  have hl : k < xs.length := by have := h.len; omega
  rcases h.row with h0 | ⟨b, off, rfl, hr⟩
  · have := congrArg List.length h0
    simp at this
    rw [this] at hl
    simp at hl
  · have hc := hr k (by simpa using hl)
    rw [List.getElem_map] at hc
    exact ⟨b, off, hl, rfl, World.block_lt_of_cell? _ _ hc, hc⟩
theorem IS.nil (w : World) (ao : Option Addr) : IS w ao 0 0 [] := ⟨rfl, Nat.le_refl _, by simp [maxLen], Row.nil _ _⟩

/-- Where a command's two slices lie. -/
structure Loc where
  no : Option Addr
  nc : Nat
  bo : Option Addr
  bc : Nat
def cmdCs (c : CmdV) (l : Loc) : Array Value :=
  #[strV c.verb, .slice l.no c.nums.length l.nc, .int .i64 c.op.kind, .int .i64 c.op.reg, .int .i64 c.op.to, .int .i64 c.op.re, .int .i64 c.op.im, .slice l.bo c.data.length l.bc]
def cmdV (c : CmdV) (l : Loc) : Value := .agg (cmdCs c l)
/-- The command lies so, and is of the size that the laws ask for. -/
structure CmdAt (w : World) (c : CmdV) (l : Loc) : Prop where
  nums : IS w l.no c.nums.length l.nc c.nums
  data : BS w l.bo c.data.length l.bc c.data
  verb : c.verb.length ≤ 4194304
  dlen : c.data.length ≤ 4194304
  nlen : c.nums.length ≤ 4194304
  nb : ∀ n ∈ c.nums, -9223372036854775808 ≤ n ∧ n ≤ 9223372036854775807
  ob : (-9223372036854775808 ≤ c.op.kind ∧ c.op.kind ≤ 9223372036854775807) ∧ (-9223372036854775808 ≤ c.op.reg ∧ c.op.reg ≤ 9223372036854775807) ∧ (-9223372036854775808 ≤ c.op.to ∧ c.op.to ≤ 9223372036854775807) ∧ (-9223372036854775808 ≤ c.op.re ∧ c.op.re ≤ 9223372036854775807) ∧ (-9223372036854775808 ≤ c.op.im ∧ c.op.im ≤ 9223372036854775807)
theorem CmdAt.keep {w w' : World} {c : CmdV} {l : Loc} (h : CmdAt w c l) (k : Kp Noone w w') : CmdAt w' c l :=
  ⟨h.nums.keep k, h.data.keep k, h.verb, h.dlen, h.nlen, h.nb, h.ob⟩
structure Cells8 (W : World) (g : Nat) (a b c d e f h i : Value) : Prop where
  c0 : W.cell? ⟨g, 0, none⟩ = some a
  c1 : W.cell? ⟨g, 1, none⟩ = some b
  c2 : W.cell? ⟨g, 2, none⟩ = some c
  c3 : W.cell? ⟨g, 3, none⟩ = some d
  c4 : W.cell? ⟨g, 4, none⟩ = some e
  c5 : W.cell? ⟨g, 5, none⟩ = some f
  c6 : W.cell? ⟨g, 6, none⟩ = some h
  c7 : W.cell? ⟨g, 7, none⟩ = some i
theorem cells_8f {w : World} {g : Nat} {a b c d e f k i : Value} {T : TypeId} {fr : Nat × Nat} (h : w.heap[g]? = some (.cells #[a, b, c, d, e, f, k, i] T fr)) : Cells8 w g a b c d e f k i :=
  ⟨cell_of_row w g 0 _ T fr h, cell_of_row w g 1 _ T fr h, cell_of_row w g 2 _ T fr h, cell_of_row w g 3 _ T fr h, cell_of_row w g 4 _ T fr h, cell_of_row w g 5 _ T fr h, cell_of_row w g 6 _ T fr h, cell_of_row w g 7 _ T fr h⟩

end Go.Proofs.YtfinbppmkffbhaaDoor
