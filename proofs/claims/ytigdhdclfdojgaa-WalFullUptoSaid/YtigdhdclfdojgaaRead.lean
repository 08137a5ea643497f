/-
  HOW AN ARGUMENT READS: byte slices, slices of byte slices, and what the bound on their bulk gives.
-/
import Derived.Test.YtigdhdclfdojgaaRead8
import Derived.Test.YtigdhdclfdojgaaRows
import Derived.Test.YtigdhdclfdojgaaDiskBase
import Derived.ProofKit
import Derived.OpenShut
import Derived.ShutString
import Derived.ChangeOld
import Derived.JoinedCond
import Derived.Deep.Slices
import Derived.SizedLaws
namespace Go.Proofs.Ytigdhdclfdojgaa
open Go.ChangeShapes Go.WideShapes Go.ChangeAt Go.RowKit Go.Deep

/-- A slice of byte slices, as a reading opens it. -/
theorem read_bss {H : Type} {enc : TypeId × Value → H} {W : World} {held : Bool} {fuel : Nat} {v : Value} {x : DataW H × List MemPlace}
    (h : DataW.trod enc Try.prog W 0 (fun _ => true) held fuel 67 [v] = some x) :
    ∃ ao n cap ls, v = .slice ao n cap ∧ BSS W ao n cap ls ∧ ls.flatten.length + n + 1 ≤ Rows.uptoBulk x.1 := by
  rcases open_slice1 Try.underlying67 cells_bytes h with ⟨hcs, rfl⟩ | ⟨a, len, cap, m, n, V, D, Pl, hcs, _, hl, hm, hmm, rfl, hx⟩
  · simp at hcs
    subst hcs
    exact ⟨none, 0, 0, [], rfl, ⟨rfl, Nat.le_refl _, by simp [maxLen], [], rfl, Row.nil _ _, fun i h => by simp at h⟩, by simp [Rows.uptoBulk]⟩
  · simp at hcs
    subst hcs
    simp only [if_true] at hmm
    rw [hmm] at hx
    clear hmm
    have each : ∀ i, i < len → ∃ y : (Option Addr × Nat × Nat) × List UInt8, V i = .slice y.1.1 y.1.2.1 y.1.2.2 ∧ BS W y.1.1 y.1.2.1 y.1.2.2 y.2 ∧ y.2.length + 1 ≤ Rows.uptoBulk (D i) := by
      intro i hi
      obtain ⟨ao, n', cap', l, hv, hb, hd⟩ := read_bytes (hx i (by omega)).2
      refine ⟨((ao, n', cap'), l), hv, hb, ?_⟩
      show l.length + 1 ≤ _
      have h1 := hb.len
      have h2 := hb.le
      rcases hd with ⟨hd, h0⟩ | ⟨elems, spare, hd, hs⟩
      · have : D i = .nil := hd
        have e1 : Rows.uptoBulk (D i) = 1 := by rw [this]; simp [Rows.uptoBulk]
        omega
      · have : D i = .slice elems spare := hd
        rw [this]
        have := slice_le elems spare
        omega
    obtain ⟨f, hf⟩ := choose_lt each
    refine ⟨some a, len, cap, (List.range len).map fun i => (f i).2, rfl, ⟨by simp, hl, hm, (List.range len).map fun i => (f i).1, by simp, ?_, ?_⟩, ?_⟩
    · by_cases h0 : len = 0
      · left; simp [h0]
      · have hc0 := (hx 0 (by omega)).1
        have hsp : a.spot = none := by
          have := hc0
          simp only [Addr.add, if_true] at this
          cases hs : a.spot with
          | none => rfl
          | some s => exfalso; unfold World.cell? at this; rw [hs] at this; split at this <;> simp at this
        obtain ⟨b, off, sp⟩ := a
        simp at hsp
        subst hsp
        refine Or.inr ⟨b, off, rfl, fun i hi => ?_⟩
        have hi' : i < len := by simpa using hi
        have hc := (hx i (by omega)).1
        rw [Addr.add_lit] at hc
        rw [hc, (hf i hi').1]
        simp
    · intro i h1 h2
      have hi' : i < len := by simpa using h1
      simp only [List.getElem_map, List.getElem_range]
      exact (hf i hi').2.1
    · have h1 := bulk_sum D (fun i => (f i).2) (List.range len) (fun i hi => (hf i (by simpa using hi)).2.2)
      simp only [Rows.uptoBulk]
      rw [List.length_range] at h1
      omega

set_option maxRecDepth 100000 in
/-- An argument that is a slice of byte slices. -/
theorem arg_bss {H : Type} {enc : TypeId × Value → H} {W : World} {base : Nat} {v : Value} {d : DataW H} {p : List MemPlace}
    (h : DataW.Trod enc Try.prog W 0 (fun _ => true) true 67 v d p) (hv : Value.okWide Try.prog W .any base 67 v) :
    ∃ ao n cap ls, v = .slice ao n cap ∧ BSS W ao n cap ls ∧ ls.flatten.length + n + 1 ≤ Rows.uptoBulk d := by
  obtain ⟨a0, len, cap, rfl⟩ := okWide_slice Try.underlying67 hv
  obtain ⟨fuel, hf⟩ := h
  exact read_bss (x := (d, p)) hf

end Go.Proofs.Ytigdhdclfdojgaa
