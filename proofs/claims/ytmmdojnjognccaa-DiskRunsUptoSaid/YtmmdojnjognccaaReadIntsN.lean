/-
  HOW AN ARGUMENT READS: a slice of ints.
-/
import Derived.Test.YtmmdojnjognccaaReadN
namespace Go.Proofs.Ytmmdojnjognccaa
open Go.ChangeShapes Go.WideShapes Go.ChangeAt Go.RowKit Go.Deep

/-- A slice of ints. -/
structure IS (w : World) (ao : Option Addr) (n cap : Nat) (xs : List Int) : Prop where
  len : xs.length = n
  le : n ≤ cap
  max : cap ≤ maxLen
  row : Row w ao (xs.map (Value.int .i64))
theorem IS.keep {w w' : World} {ao : Option Addr} {n cap : Nat} {xs : List Int} (h : IS w ao n cap xs) (k : Kp Noone w w') : IS w' ao n cap xs := ⟨h.len, h.le, h.max, h.row.keep k⟩
theorem IS.at {w : World} {ao : Option Addr} {n cap : Nat} {xs : List Int} (h : IS w ao n cap xs) {k : Nat} (hk : k < n) :
    ∃ b off, ∃ hl : k < xs.length, ao = some ⟨b, off, none⟩ ∧ b < w.heap.size ∧ w.cell? ⟨b, off + k, none⟩ = some (.int .i64 xs[k]) := by
  have hl : k < xs.length := by have := h.len; omega
  rcases h.row with h0 | ⟨b, off, rfl, hr⟩
  · have := congrArg List.length h0
    simp at this
    rw [this] at hl
    simp at hl
  · have hc := hr k (by simpa using hl)
    rw [List.getElem_map] at hc
    exact ⟨b, off, hl, rfl, World.block_lt_of_cell? _ _ hc, hc⟩

theorem cells_int : Try.prog.cellsOf 3 = 1 := by kernel_rfl
theorem read_ints {H : Type} {enc : TypeId × Value → H} {W : World} {held : Bool} {fuel : Nat} {v : Value} {x : DataW H × List MemPlace}
    (h : DataW.trod enc Try.prog W 0 (fun _ => true) held fuel 32 [v] = some x) :
    ∃ ao n cap l, v = .slice ao n cap ∧ IS W ao n cap l ∧ ((x.1 = .nil ∧ cap = 0) ∨ ∃ elems spare, x.1 = .slice elems spare ∧ elems.length + spare.length = cap) := by
  rcases open_ints Try.underlying32 Try.underlying3 cells_int h with ⟨hcs, rfl⟩ | ⟨a, len, cap, zs, hcs, _, hl, hm, hz, rfl, hcell, hwz⟩
  · simp at hcs
    subst hcs
    exact ⟨none, 0, 0, [], rfl, ⟨rfl, Nat.le_refl _, by simp [maxLen], Row.nil _ _⟩, Or.inl ⟨rfl, rfl⟩⟩
  · simp at hcs
    subst hcs
    simp only [if_true] at hz
    refine ⟨some a, len, cap, zs.take len, rfl, ⟨by rw [List.length_take]; omega, hl, hm, ?_⟩, ?_⟩
    · by_cases h0 : len = 0
      · left; simp [h0]
      · have hc0 := hcell 0 (by omega)
        have hsp : a.spot = none := by
          have := hc0
          simp only [Addr.add, if_true] at this
          cases hs : a.spot with
          | none => rfl
          | some s => exfalso; unfold World.cell? at this; rw [hs] at this; split at this <;> simp at this
        obtain ⟨b, off, sp⟩ := a
        simp at hsp
        subst hsp
        refine Or.inr ⟨b, off, rfl, fun i hi => ?_⟩
        have hi' : i < zs.length := by simp at hi; omega
        have hc := hcell i hi'
        rw [Addr.add_lit] at hc
        rw [hc]
        simp [hi']
    · exact Or.inr ⟨_, _, rfl, by simp only [lits, List.length_map, List.length_take, List.length_drop]; omega⟩
set_option maxRecDepth 100000 in
/-- An argument that is a slice of ints. -/
theorem arg_ints {H : Type} {enc : TypeId × Value → H} {W : World} {base : Nat} {v : Value} {d : DataW H} {p : List MemPlace}
    (h : DataW.Trod enc Try.prog W 0 (fun _ => true) true 32 v d p) (hv : Value.okWide Try.prog W .any base 32 v) :
    ∃ ao n cap l, v = .slice ao n cap ∧ IS W ao n cap l ∧ cap + 1 ≤ Rows.uptoBulk d := by
  obtain ⟨a0, len, cap, rfl⟩ := okWide_slice Try.underlying32 hv
  obtain ⟨fuel, hf⟩ := h
  obtain ⟨ao, n, cap, l, hv, hb, hd⟩ := read_ints (x := (d, p)) hf
  refine ⟨ao, n, cap, l, hv, hb, ?_⟩
  rcases hd with ⟨rfl, rfl⟩ | ⟨elems, spare, rfl, hs⟩
  · simp [Rows.uptoBulk]
  · have := slice_le elems spare
    omega

end Go.Proofs.Ytmmdojnjognccaa
