/-
  HOW AN ARGUMENT READS: byte slices, slices of byte slices, and what the bound on their bulk gives.
-/
import Derived.Test.YtlpdoefbjhlegaaRows
import Derived.Test.YtlpdoefbjhlegaaApp
import Derived.ProofKit
import Derived.OpenShut
import Derived.ShutString
import Derived.ChangeOld
import Derived.JoinedCond
import Derived.Deep.Slices
import Derived.SizedLaws
namespace Go.Proofs.Ytlpdoefbjhlegaa
open Go.ChangeShapes Go.WideShapes Go.ChangeAt Go.RowKit Go.Deep

theorem one_le {H : Type} (d : DataW H) : 1 ≤ Rows.uptoBulk d := by
  cases d with
  | lit l => cases l <;> simp [Rows.uptoBulk]
  | nil => simp [Rows.uptoBulk]
  | ptr d => simp [Rows.uptoBulk]
  | slice elems spare => simp [Rows.uptoBulk]
  | agg parts => simp [Rows.uptoBulk]
  | iface t d => simp [Rows.uptoBulk]
  | map entries => simp [Rows.uptoBulk]
  | held h => simp [Rows.uptoBulk]
theorem length_le {H : Type} (l : List (DataW H)) : l.length ≤ Rows.uptoBulkAll l := by
  induction l with
  | nil => simp [Rows.uptoBulkAll]
  | cons x r ih => have := one_le x; simp only [Rows.uptoBulkAll, List.length_cons]; omega
theorem slice_le {H : Type} (elems spare : List (DataW H)) : elems.length + spare.length + 1 ≤ Rows.uptoBulk (.slice elems spare) := by
  have h1 := length_le elems
  have h2 := length_le spare
  simp only [Rows.uptoBulk]
  omega
theorem bulk_bound {H : Type} {l : List (DataW H)} (hk : Rows.uptoSmall H l = true) : Rows.uptoBulkAll l ≤ 1048576 := of_decide_eq_true hk

theorem cells_u8 : Try.prog.cellsOf 5 = 1 := by kernel_rfl
theorem cells_bytes : Try.prog.cellsOf 31 = 1 := by kernel_rfl

/-- A byte slice, as a reading opens it. -/
theorem read_bytes {H : Type} {enc : TypeId × Value → H} {W : World} {held : Bool} {fuel : Nat} {v : Value} {x : DataW H × List MemPlace}
    (h : DataW.trod enc Try.prog W 0 (fun _ => true) held fuel 31 [v] = some x) :
    ∃ ao n cap l, v = .slice ao n cap ∧ BS W ao n cap l ∧ ((x.1 = .nil ∧ cap = 0) ∨ ∃ elems spare, x.1 = .slice elems spare ∧ elems.length + spare.length = cap) := by
  rcases open_ints Try.underlying31 Try.underlying5 cells_u8 h with ⟨hcs, rfl⟩ | ⟨a, len, cap, zs, hcs, _, hl, hm, hz, rfl, hcell, hwz⟩
  · simp at hcs
    subst hcs
    exact ⟨none, 0, 0, [], rfl, ⟨rfl, Nat.le_refl _, by simp [maxLen], Row.nil _ _⟩, Or.inl ⟨rfl, rfl⟩⟩
  · simp at hcs
    subst hcs
    simp only [if_true] at hz
    refine ⟨some a, len, cap, (zs.take len).map (fun z => UInt8.ofNat z.toNat), rfl, ⟨by rw [List.length_map, List.length_take]; omega, hl, hm, ?_⟩, ?_⟩
    · by_cases h0 : len = 0
      · left; simp [h0, bv]
      · have hc0 := hcell 0 (by omega)
        have hsp : a.spot = none := by
          have := hc0
          simp only [Addr.add, if_true] at this
          cases hs : a.spot with
          | none => rfl
          | some s => exfalso; unfold World.cell? at this; rw [hs] at this; split at this <;> simp at this
        obtain ⟨b, off, sp⟩ := a
        simp at hsp
        subst hsp
        refine Or.inr ⟨b, off, rfl, fun i hi => ?_⟩
        have hi' : i < zs.length := by simp [bv] at hi; omega
        have hc := hcell i hi'
        rw [Addr.add_lit] at hc
        rw [hc]
        have hw := hwz (zs[i]) (List.getElem_mem hi')
        have hw2 := bounds_u8 hw
        simp [bv, U8, hi']
        omega
    · exact Or.inr ⟨_, _, rfl, by simp only [lits, List.length_map, List.length_take, List.length_drop]; omega⟩

theorem bytes_u8 : Try.prog.bytesOf 5 = 1 := by kernel_rfl

/-- An argument that is a byte slice. -/
theorem arg_bytes0 {H : Type} {enc : TypeId × Value → H} {W : World} {base : Nat} {v : Value} {d : DataW H} {p : List MemPlace}
    (h : DataW.Trod enc Try.prog W 0 (fun _ => true) true 31 v d p) (hv : Value.okWide Try.prog W .any base 31 v) :
    ∃ ao n cap l, v = .slice ao n cap ∧ BS W ao n cap l ∧ ((d = .nil ∧ cap = 0) ∨ ∃ elems spare, d = .slice elems spare ∧ elems.length + spare.length = cap) := by
  obtain ⟨a0, len, cap, rfl⟩ := okWide_slice Try.underlying31 hv
  obtain ⟨fuel, hf⟩ := h
  exact read_bytes (x := (d, p)) hf
/-- .. with the bound on its bulk. -/
theorem arg_bytes {H : Type} {enc : TypeId × Value → H} {W : World} {base : Nat} {v : Value} {d : DataW H} {p : List MemPlace}
    (h : DataW.Trod enc Try.prog W 0 (fun _ => true) true 31 v d p) (hv : Value.okWide Try.prog W .any base 31 v) :
    ∃ ao n cap l, v = .slice ao n cap ∧ BS W ao n cap l ∧ cap + 1 ≤ Rows.uptoBulk d := by
  obtain ⟨ao, n, cap, l, hv, hb, hd⟩ := arg_bytes0 h hv
  refine ⟨ao, n, cap, l, hv, hb, ?_⟩
  rcases hd with ⟨rfl, rfl⟩ | ⟨elems, spare, rfl, hs⟩
  · simp [Rows.uptoBulk]
  · have := slice_le elems spare
    omega
/-- .. with the form's own reach. -/
theorem arg_bytesR {H : Type} {enc : TypeId × Value → H} {W : World} {base : Nat} {v : Value} {d : DataW H} {p : List MemPlace}
    (h : DataW.Trod enc Try.prog W 0 (fun _ => true) true 31 v d p) (hv : Value.okWide Try.prog W .any base 31 v) (hw : ∀ n ∈ d.weights Try.prog 31, n ≤ reachBytes) :
    ∃ ao n cap l, v = .slice ao n cap ∧ BS W ao n cap l ∧ cap ≤ 140737488351232 := by
  obtain ⟨ao, n, cap, l, hv, hb, hd⟩ := arg_bytes0 h hv
  refine ⟨ao, n, cap, l, hv, hb, ?_⟩
  rcases hd with ⟨rfl, rfl⟩ | ⟨elems, spare, rfl, hs⟩
  · omega
  · have := hw ((elems.length + spare.length) * Try.prog.bytesOf 5) (by simp [DataW.weights, Try.underlying31])
    rw [bytes_u8, Nat.mul_one, hs] at this
    exact this
theorem bulk_sum {H : Type} (D : Nat → DataW H) (g : Nat → List UInt8) : ∀ is : List Nat, (∀ i ∈ is, (g i).length + 1 ≤ Rows.uptoBulk (D i)) → (is.map g).flatten.length + is.length ≤ Rows.uptoBulkAll (is.map D)
  | [], _ => by simp
  | i :: is, h => by
    have h1 := h i (by simp)
    have h2 := bulk_sum D g is (fun j hj => h j (by simp [hj]))
    simp only [List.map_cons, List.flatten_cons, List.length_append, List.length_cons, Rows.uptoBulkAll]
    omega

/-- A slice of byte slices, as a reading opens it. -/
theorem read_bss {H : Type} {enc : TypeId × Value → H} {W : World} {held : Bool} {fuel : Nat} {v : Value} {x : DataW H × List MemPlace}
    (h : DataW.trod enc Try.prog W 0 (fun _ => true) held fuel 39 [v] = some x) :
    ∃ ao n cap ls, v = .slice ao n cap ∧ BSS W ao n cap ls ∧ ls.flatten.length + n + 1 ≤ Rows.uptoBulk x.1 := by
  rcases open_slice1 Try.underlying39 cells_bytes h with ⟨hcs, rfl⟩ | ⟨a, len, cap, m, n, V, D, Pl, hcs, _, hl, hm, hmm, rfl, hx⟩
  · simp at hcs
    subst hcs
    exact ⟨none, 0, 0, [], rfl, ⟨rfl, Nat.le_refl _, by simp [maxLen], [], rfl, Row.nil _ _, fun i h => by simp at h⟩, by simp [Rows.uptoBulk]⟩
  · simp at hcs
    subst hcs
    simp only [if_true] at hmm
    rw [hmm] at hx
    clear hmm
    have each : ∀ i, i < len → ∃ y : (Option Addr × Nat × Nat) × List UInt8, V i = .slice y.1.1 y.1.2.1 y.1.2.2 ∧ BS W y.1.1 y.1.2.1 y.1.2.2 y.2 ∧ y.2.length + 1 ≤ Rows.uptoBulk (D i) := by
      intro i hi
      obtain ⟨ao, n', cap', l, hv, hb, hd⟩ := read_bytes (hx i (by omega)).2
      refine ⟨((ao, n', cap'), l), hv, hb, ?_⟩
      show l.length + 1 ≤ _
      have h1 := hb.len
      have h2 := hb.le
      rcases hd with ⟨hd, h0⟩ | ⟨elems, spare, hd, hs⟩
      · have : D i = .nil := hd
        have e1 : Rows.uptoBulk (D i) = 1 := by rw [this]; simp [Rows.uptoBulk]
        omega
      · have : D i = .slice elems spare := hd
        rw [this]
        have := slice_le elems spare
        omega
    obtain ⟨f, hf⟩ := choose_lt each
    refine ⟨some a, len, cap, (List.range len).map fun i => (f i).2, rfl, ⟨by simp, hl, hm, (List.range len).map fun i => (f i).1, by simp, ?_, ?_⟩, ?_⟩
    · by_cases h0 : len = 0
      · left; simp [h0]
      · have hc0 := (hx 0 (by omega)).1
        have hsp : a.spot = none := by
          have := hc0
          simp only [Addr.add, if_true] at this
          cases hs : a.spot with
          | none => rfl
          | some s => exfalso; unfold World.cell? at this; rw [hs] at this; split at this <;> simp at this
        obtain ⟨b, off, sp⟩ := a
        simp at hsp
        subst hsp
        refine Or.inr ⟨b, off, rfl, fun i hi => ?_⟩
        have hi' : i < len := by simpa using hi
        have hc := (hx i (by omega)).1
        rw [Addr.add_lit] at hc
        rw [hc, (hf i hi').1]
        simp
    · intro i h1 h2
      have hi' : i < len := by simpa using h1
      simp only [List.getElem_map, List.getElem_range]
      exact (hf i hi').2.1
    · have h1 := bulk_sum D (fun i => (f i).2) (List.range len) (fun i hi => (hf i (by simpa using hi)).2.2)
      simp only [Rows.uptoBulk]
      rw [List.length_range] at h1
      omega

/-- An argument that is a slice of byte slices. -/
theorem arg_bss {H : Type} {enc : TypeId × Value → H} {W : World} {base : Nat} {v : Value} {d : DataW H} {p : List MemPlace}
    (h : DataW.Trod enc Try.prog W 0 (fun _ => true) true 39 v d p) (hv : Value.okWide Try.prog W .any base 39 v) :
    ∃ ao n cap ls, v = .slice ao n cap ∧ BSS W ao n cap ls ∧ ls.flatten.length + n + 1 ≤ Rows.uptoBulk d := by
  obtain ⟨a0, len, cap, rfl⟩ := okWide_slice Try.underlying39 hv
  obtain ⟨fuel, hf⟩ := h
  exact read_bss (x := (d, p)) hf

/-- An argument that is an int. -/
theorem arg_int {H : Type} {enc : TypeId × Value → H} {W : World} {base : Nat} {v : Value} {d : DataW H} {p : List MemPlace}
    (h : DataW.Trod enc Try.prog W 0 (fun _ => true) true 3 v d p) (hv : Value.okWide Try.prog W .any base 3 v) :
    ∃ k : Int, v = .int .i64 k ∧ (Lit.int .i64 k).wf = true := by
  obtain ⟨x, rfl, rfl, rfl, wx⟩ := open_int Try.underlying3 hv h
  exact ⟨x, rfl, wx⟩
/-- An argument that is a string. -/
theorem arg_string {H : Type} {enc : TypeId × Value → H} {W : World} {base : Nat} {v : Value} {d : DataW H} {p : List MemPlace}
    (h : DataW.Trod enc Try.prog W 0 (fun _ => true) true 9 v d p) (hv : Value.okWide Try.prog W .any base 9 v) :
    ∃ s : ByteArray, v = .string s ∧ s.size ≤ 9223372036854775807 ∧ d = .lit (.string s.data.toList) := by
  obtain ⟨s, rfl, rfl, rfl, hs⟩ := Go.ChangeMaps.open_string Try.underlying9 hv h
  exact ⟨s, rfl, hs, rfl⟩
/-- An argument that is a byte. -/
theorem arg_u8 {H : Type} {enc : TypeId × Value → H} {W : World} {base : Nat} {v : Value} {d : DataW H} {p : List MemPlace}
    (h : DataW.Trod enc Try.prog W 0 (fun _ => true) true 5 v d p) (hv : Value.okWide Try.prog W .any base 5 v) :
    ∃ k : UInt8, v = .int .u8 (k.toNat : Int) := by
  obtain ⟨x, rfl, rfl, rfl, wx⟩ := open_int Try.underlying5 hv h
  have hx := bounds_u8 wx
  refine ⟨UInt8.ofNat x.toNat, ?_⟩
  simp
  omega

end Go.Proofs.Ytlpdoefbjhlegaa
