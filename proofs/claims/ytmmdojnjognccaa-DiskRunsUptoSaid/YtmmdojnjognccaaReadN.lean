/-
  HOW AN ARGUMENT READS: byte slices, slices of byte slices, and what the bound on their bulk gives.
-/
import Derived.Test.YtmmdojnjognccaaRows
import Derived.Test.YtmmdojnjognccaaApp
import Derived.ProofKit
import Derived.OpenShut
import Derived.ShutString
import Derived.ChangeOld
import Derived.JoinedCond
import Derived.Deep.Slices
import Derived.SizedLaws
namespace Go.Proofs.Ytmmdojnjognccaa
open Go.ChangeShapes Go.WideShapes Go.ChangeAt Go.RowKit Go.Deep

theorem one_le {H : Type} (d : DataW H) : 1 ≤ Rows.uptoBulk d := by
  cases d with
  | lit l => cases l <;> simp [Rows.uptoBulk]
  | nil => simp [Rows.uptoBulk]
  | ptr d => simp [Rows.uptoBulk]
  | slice elems spare => simp [Rows.uptoBulk]
  | agg parts => simp [Rows.uptoBulk]
  | iface t d => simp [Rows.uptoBulk]
  | map entries => simp [Rows.uptoBulk]
  | held h => simp [Rows.uptoBulk]
theorem length_le {H : Type} (l : List (DataW H)) : l.length ≤ Rows.uptoBulkAll l := by
  induction l with
  | nil => simp [Rows.uptoBulkAll]
  | cons x r ih => have := one_le x; simp only [Rows.uptoBulkAll, List.length_cons]; omega
theorem slice_le {H : Type} (elems spare : List (DataW H)) : elems.length + spare.length + 1 ≤ Rows.uptoBulk (.slice elems spare) := by
  have h1 := length_le elems
  have h2 := length_le spare
  simp only [Rows.uptoBulk]
  omega
theorem bulk_bound {H : Type} {l : List (DataW H)} (hk : Rows.uptoSmall H l = true) : Rows.uptoBulkAll l ≤ 1048576 := of_decide_eq_true hk

theorem cells_u8 : Try.prog.cellsOf 5 = 1 := by kernel_rfl
theorem cells_bytes : Try.prog.cellsOf 22 = 1 := by kernel_rfl

/-- A byte slice, as a reading opens it. -/
theorem read_bytes {H : Type} {enc : TypeId × Value → H} {W : World} {held : Bool} {fuel : Nat} {v : Value} {x : DataW H × List MemPlace}
    (h : DataW.trod enc Try.prog W 0 (fun _ => true) held fuel 22 [v] = some x) :
    ∃ ao n cap l, v = .slice ao n cap ∧ BS W ao n cap l ∧ ((x.1 = .nil ∧ cap = 0) ∨ ∃ elems spare, x.1 = .slice elems spare ∧ elems.length + spare.length = cap) := by
  rcases open_ints Try.underlying22 Try.underlying5 cells_u8 h with ⟨hcs, rfl⟩ | ⟨a, len, cap, zs, hcs, _, hl, hm, hz, rfl, hcell, hwz⟩
  · simp at hcs
    subst hcs
    exact ⟨none, 0, 0, [], rfl, ⟨rfl, Nat.le_refl _, by simp [maxLen], Row.nil _ _⟩, Or.inl ⟨rfl, rfl⟩⟩
  · simp at hcs
    subst hcs
    simp only [if_true] at hz
    refine ⟨some a, len, cap, (zs.take len).map (fun z => UInt8.ofNat z.toNat), rfl, ⟨by rw [List.length_map, List.length_take]; omega, hl, hm, ?_⟩, ?_⟩
    · by_cases h0 : len = 0
      · left; simp [h0, bv]
      · have hc0 := hcell 0 (by omega)
        have hsp : a.spot = none := by
          have := hc0
          simp only [Addr.add, if_true] at this
          cases hs : a.spot with
          | none => rfl
          | some s => exfalso; unfold World.cell? at this; rw [hs] at this; split at this <;> simp at this
        obtain ⟨b, off, sp⟩ := a
        simp at hsp
        subst hsp
        refine Or.inr ⟨b, off, rfl, fun i hi => ?_⟩
        have hi' : i < zs.length := by simp [bv] at hi; omega
        have hc := hcell i hi'
        rw [Addr.add_lit] at hc
        rw [hc]
        have hw := hwz (zs[i]) (List.getElem_mem hi')
        have hw2 := bounds_u8 hw
        simp [bv, U8, hi']
        omega
    · exact Or.inr ⟨_, _, rfl, by simp only [lits, List.length_map, List.length_take, List.length_drop]; omega⟩

theorem bytes_u8 : Try.prog.bytesOf 5 = 1 := by kernel_rfl

set_option maxRecDepth 100000 in
/-- An argument that is a byte slice. -/
theorem arg_bytes0 {H : Type} {enc : TypeId × Value → H} {W : World} {base : Nat} {v : Value} {d : DataW H} {p : List MemPlace}
    (h : DataW.Trod enc Try.prog W 0 (fun _ => true) true 22 v d p) (hv : Value.okWide Try.prog W .any base 22 v) :
    ∃ ao n cap l, v = .slice ao n cap ∧ BS W ao n cap l ∧ ((d = .nil ∧ cap = 0) ∨ ∃ elems spare, d = .slice elems spare ∧ elems.length + spare.length = cap) := by
  obtain ⟨a0, len, cap, rfl⟩ := okWide_slice Try.underlying22 hv
  obtain ⟨fuel, hf⟩ := h
  exact read_bytes (x := (d, p)) hf
set_option maxRecDepth 100000 in
/-- .. with the bound on its bulk. -/
theorem arg_bytes {H : Type} {enc : TypeId × Value → H} {W : World} {base : Nat} {v : Value} {d : DataW H} {p : List MemPlace}
    (h : DataW.Trod enc Try.prog W 0 (fun _ => true) true 22 v d p) (hv : Value.okWide Try.prog W .any base 22 v) :
    ∃ ao n cap l, v = .slice ao n cap ∧ BS W ao n cap l ∧ cap + 1 ≤ Rows.uptoBulk d := by
  obtain ⟨ao, n, cap, l, hv, hb, hd⟩ := arg_bytes0 h hv
  refine ⟨ao, n, cap, l, hv, hb, ?_⟩
  rcases hd with ⟨rfl, rfl⟩ | ⟨elems, spare, rfl, hs⟩
  · simp [Rows.uptoBulk]
  · have := slice_le elems spare
    omega
set_option maxRecDepth 100000 in
/-- .. with the form's own reach. -/
theorem arg_bytesR {H : Type} {enc : TypeId × Value → H} {W : World} {base : Nat} {v : Value} {d : DataW H} {p : List MemPlace}
    (h : DataW.Trod enc Try.prog W 0 (fun _ => true) true 22 v d p) (hv : Value.okWide Try.prog W .any base 22 v) (hw : ∀ n ∈ d.weights Try.prog 22, n ≤ reachBytes) :
    ∃ ao n cap l, v = .slice ao n cap ∧ BS W ao n cap l ∧ cap ≤ 140737488351232 := by
  obtain ⟨ao, n, cap, l, hv, hb, hd⟩ := arg_bytes0 h hv
  refine ⟨ao, n, cap, l, hv, hb, ?_⟩
  rcases hd with ⟨rfl, rfl⟩ | ⟨elems, spare, rfl, hs⟩
  · omega
  · have := hw ((elems.length + spare.length) * Try.prog.bytesOf 5) (by simp [DataW.weights, Try.underlying22])
    rw [bytes_u8, Nat.mul_one, hs] at this
    exact this
theorem bulk_sum {H : Type} (D : Nat → DataW H) (g : Nat → List UInt8) : ∀ is : List Nat, (∀ i ∈ is, (g i).length + 1 ≤ Rows.uptoBulk (D i)) → (is.map g).flatten.length + is.length ≤ Rows.uptoBulkAll (is.map D)
  | [], _ => by simp
  | i :: is, h => by
    have h1 := h i (by simp)
    have h2 := bulk_sum D g is (fun j hj => h j (by simp [hj]))
    simp only [List.map_cons, List.flatten_cons, List.length_append, List.length_cons, Rows.uptoBulkAll]
    omega

set_option maxRecDepth 100000 in
/-- An argument that is an int. -/
theorem arg_int {H : Type} {enc : TypeId × Value → H} {W : World} {base : Nat} {v : Value} {d : DataW H} {p : List MemPlace}
    (h : DataW.Trod enc Try.prog W 0 (fun _ => true) true 3 v d p) (hv : Value.okWide Try.prog W .any base 3 v) :
    ∃ k : Int, v = .int .i64 k ∧ (Lit.int .i64 k).wf = true := by
  obtain ⟨x, rfl, rfl, rfl, wx⟩ := open_int Try.underlying3 hv h
  exact ⟨x, rfl, wx⟩
set_option maxRecDepth 100000 in
/-- An argument that is a string. -/
theorem arg_string {H : Type} {enc : TypeId × Value → H} {W : World} {base : Nat} {v : Value} {d : DataW H} {p : List MemPlace}
    (h : DataW.Trod enc Try.prog W 0 (fun _ => true) true 9 v d p) (hv : Value.okWide Try.prog W .any base 9 v) :
    ∃ s : ByteArray, v = .string s ∧ s.size ≤ 9223372036854775807 ∧ d = .lit (.string s.data.toList) := by
  obtain ⟨s, rfl, rfl, rfl, hs⟩ := Go.ChangeMaps.open_string Try.underlying9 hv h
  exact ⟨s, rfl, hs, rfl⟩
set_option maxRecDepth 100000 in
/-- An argument that is a byte. -/
theorem arg_u8 {H : Type} {enc : TypeId × Value → H} {W : World} {base : Nat} {v : Value} {d : DataW H} {p : List MemPlace}
    (h : DataW.Trod enc Try.prog W 0 (fun _ => true) true 5 v d p) (hv : Value.okWide Try.prog W .any base 5 v) :
    ∃ k : UInt8, v = .int .u8 (k.toNat : Int) := by
  obtain ⟨x, rfl, rfl, rfl, wx⟩ := open_int Try.underlying5 hv h
  have hx := bounds_u8 wx
  refine ⟨UInt8.ofNat x.toNat, ?_⟩
  simp
  omega

end Go.Proofs.Ytmmdojnjognccaa
