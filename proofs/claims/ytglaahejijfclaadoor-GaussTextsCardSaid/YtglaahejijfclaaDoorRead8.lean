/-
  ReadN, ReadIntsN, ReadOpD, ReadI in one text.
-/
import Derived.Test.YtglaahejijfclaaDoorRows
import Derived.Test.YtglaahejijfclaaDoorDiskBase
import Derived.ProofKit
import Derived.OpenShut
import Derived.ShutString
import Derived.ChangeOld
import Derived.JoinedCond
import Derived.Deep.Slices
import Derived.SizedLaws
import Derived.Deep.Strs
/-
  HOW AN ARGUMENT READS: byte slices, slices of byte slices, and what the bound on their bulk gives.
-/
namespace Go.Proofs.YtglaahejijfclaaDoor
open Go.ChangeShapes Go.WideShapes Go.ChangeAt Go.RowKit Go.Deep

theorem one_le {H : Type} (d : DataW H) : 1 ≤ Rows.uptoBulk d := by
  cases d with
  | lit l => cases l <;> simp [Rows.uptoBulk]
  | nil => simp [Rows.uptoBulk]
  | ptr d => simp [Rows.uptoBulk]
  | slice elems spare => simp [Rows.uptoBulk]
  | agg parts => simp [Rows.uptoBulk]
  | iface t d => simp [Rows.uptoBulk]
  | map entries => simp [Rows.uptoBulk]
  | held h => simp [Rows.uptoBulk]
theorem length_le {H : Type} (l : List (DataW H)) : l.length ≤ Rows.uptoBulkAll l := by
  induction l with
  | nil => simp [Rows.uptoBulkAll]
  | cons x r ih => have := one_le x; simp only [Rows.uptoBulkAll, List.length_cons]; omega
theorem slice_le {H : Type} (elems spare : List (DataW H)) : elems.length + spare.length + 1 ≤ Rows.uptoBulk (.slice elems spare) := by
  have h1 := length_le elems
  have h2 := length_le spare
  simp only [Rows.uptoBulk]
  omega
theorem bulk_bound {H : Type} {l : List (DataW H)} (hk : Rows.uptoSmall H l = true) : Rows.uptoBulkAll l ≤ 1048576 := of_decide_eq_true hk

theorem cells_u8 : Tryd.prog.cellsOf 5 = 1 := by kernel_rfl
theorem cells_bytes : Tryd.prog.cellsOf 66 = 1 := by kernel_rfl

/-- A byte slice, as a reading opens it. -/
theorem read_bytes {H : Type} {enc : TypeId × Value → H} {W : World} {held : Bool} {fuel : Nat} {v : Value} {x : DataW H × List MemPlace}
    (h : DataW.trod enc Tryd.prog W 0 (fun _ => true) held fuel 66 [v] = some x) :
    ∃ ao n cap l, v = .slice ao n cap ∧ BS W ao n cap l ∧ ((x.1 = .nil ∧ cap = 0) ∨ ∃ elems spare, x.1 = .slice elems spare ∧ elems.length + spare.length = cap) := by
  rcases open_ints Tryd.underlying66 Tryd.underlying5 cells_u8 h with ⟨hcs, rfl⟩ | ⟨a, len, cap, zs, hcs, _, hl, hm, hz, rfl, hcell, hwz⟩
  · simp at hcs
    subst hcs
    exact ⟨none, 0, 0, [], rfl, ⟨rfl, Nat.le_refl _, by simp [maxLen], Row.nil _ _⟩, Or.inl ⟨rfl, rfl⟩⟩
  · simp at hcs
    subst hcs
    simp only [if_true] at hz
    refine ⟨some a, len, cap, (zs.take len).map (fun z => UInt8.ofNat z.toNat), rfl, ⟨by rw [List.length_map, List.length_take]; omega, hl, hm, ?_⟩, ?_⟩
    · by_cases h0 : len = 0
      · left; simp [h0, bv]
      · have hc0 := hcell 0 (by omega)
        have hsp : a.spot = none := by
          have := hc0
          simp only [Addr.add, if_true] at this
          cases hs : a.spot with
          | none => rfl
          | some s => exfalso; unfold World.cell? at this; rw [hs] at this; split at this <;> simp at this
        obtain ⟨b, off, sp⟩ := a
        simp at hsp
        subst hsp
        refine Or.inr ⟨b, off, rfl, fun i hi => ?_⟩
        have hi' : i < zs.length := by simp [bv] at hi; omega
        have hc := hcell i hi'
        rw [Addr.add_lit] at hc
        rw [hc]
        have hw := hwz (zs[i]) (List.getElem_mem hi')
        have hw2 := bounds_u8 hw
        simp [bv, U8, hi']
        omega
    · exact Or.inr ⟨_, _, rfl, by simp only [lits, List.length_map, List.length_take, List.length_drop]; omega⟩

theorem bytes_u8 : Tryd.prog.bytesOf 5 = 1 := by kernel_rfl

set_option maxRecDepth 100000 in
/-- An argument that is a byte slice. -/
theorem arg_bytes0 {H : Type} {enc : TypeId × Value → H} {W : World} {base : Nat} {v : Value} {d : DataW H} {p : List MemPlace}
    (h : DataW.Trod enc Tryd.prog W 0 (fun _ => true) true 66 v d p) (hv : Value.okWide Tryd.prog W .any base 66 v) :
    ∃ ao n cap l, v = .slice ao n cap ∧ BS W ao n cap l ∧ ((d = .nil ∧ cap = 0) ∨ ∃ elems spare, d = .slice elems spare ∧ elems.length + spare.length = cap) := by
  obtain ⟨a0, len, cap, rfl⟩ := okWide_slice Tryd.underlying66 hv
  obtain ⟨fuel, hf⟩ := h
  exact read_bytes (x := (d, p)) hf
set_option maxRecDepth 100000 in
/-- .. with the bound on its bulk. -/
theorem arg_bytes {H : Type} {enc : TypeId × Value → H} {W : World} {base : Nat} {v : Value} {d : DataW H} {p : List MemPlace}
    (h : DataW.Trod enc Tryd.prog W 0 (fun _ => true) true 66 v d p) (hv : Value.okWide Tryd.prog W .any base 66 v) :
    ∃ ao n cap l, v = .slice ao n cap ∧ BS W ao n cap l ∧ cap + 1 ≤ Rows.uptoBulk d := by
  obtain ⟨ao, n, cap, l, hv, hb, hd⟩ := arg_bytes0 h hv
  refine ⟨ao, n, cap, l, hv, hb, ?_⟩
  rcases hd with ⟨rfl, rfl⟩ | ⟨elems, spare, rfl, hs⟩
  · simp [Rows.uptoBulk]
  · have := slice_le elems spare
    omega
set_option maxRecDepth 100000 in
/-- .. with the form's own reach. -/
theorem arg_bytesR {H : Type} {enc : TypeId × Value → H} {W : World} {base : Nat} {v : Value} {d : DataW H} {p : List MemPlace}
    (h : DataW.Trod enc Tryd.prog W 0 (fun _ => true) true 66 v d p) (hv : Value.okWide Tryd.prog W .any base 66 v) (hw : ∀ n ∈ d.weights Tryd.prog 66, n ≤ reachBytes) :
    ∃ ao n cap l, v = .slice ao n cap ∧ BS W ao n cap l ∧ cap ≤ 140737488351232 := by
  obtain ⟨ao, n, cap, l, hv, hb, hd⟩ := arg_bytes0 h hv
  refine ⟨ao, n, cap, l, hv, hb, ?_⟩
  rcases hd with ⟨rfl, rfl⟩ | ⟨elems, spare, rfl, hs⟩
  · omega
  · have := hw ((elems.length + spare.length) * Tryd.prog.bytesOf 5) (by simp [DataW.weights, Tryd.underlying66])
    rw [bytes_u8, Nat.mul_one, hs] at this
    exact this
theorem bulk_sum {H : Type} (D : Nat → DataW H) (g : Nat → List UInt8) : ∀ is : List Nat, (∀ i ∈ is, (g i).length + 1 ≤ Rows.uptoBulk (D i)) → (is.map g).flatten.length + is.length ≤ Rows.uptoBulkAll (is.map D)
  | [], _ => by simp
  | i :: is, h => by
    have h1 := h i (by simp)
    have h2 := bulk_sum D g is (fun j hj => h j (by simp [hj]))
    simp only [List.map_cons, List.flatten_cons, List.length_append, List.length_cons, Rows.uptoBulkAll]
    omega

set_option maxRecDepth 100000 in
/-- An argument that is an int. -/
theorem arg_int {H : Type} {enc : TypeId × Value → H} {W : World} {base : Nat} {v : Value} {d : DataW H} {p : List MemPlace}
    (h : DataW.Trod enc Tryd.prog W 0 (fun _ => true) true 3 v d p) (hv : Value.okWide Tryd.prog W .any base 3 v) :
    ∃ k : Int, v = .int .i64 k ∧ (Lit.int .i64 k).wf = true := by
  obtain ⟨x, rfl, rfl, rfl, wx⟩ := open_int Tryd.underlying3 hv h
  exact ⟨x, rfl, wx⟩
set_option maxRecDepth 100000 in
/-- An argument that is a string. -/
theorem arg_string {H : Type} {enc : TypeId × Value → H} {W : World} {base : Nat} {v : Value} {d : DataW H} {p : List MemPlace}
    (h : DataW.Trod enc Tryd.prog W 0 (fun _ => true) true 9 v d p) (hv : Value.okWide Tryd.prog W .any base 9 v) :
    ∃ s : ByteArray, v = .string s ∧ s.size ≤ 9223372036854775807 ∧ d = .lit (.string s.data.toList) := by
  obtain ⟨s, rfl, rfl, rfl, hs⟩ := Go.ChangeMaps.open_string Tryd.underlying9 hv h
  exact ⟨s, rfl, hs, rfl⟩
set_option maxRecDepth 100000 in
/-- An argument that is a byte. -/
theorem arg_u8 {H : Type} {enc : TypeId × Value → H} {W : World} {base : Nat} {v : Value} {d : DataW H} {p : List MemPlace}
    (h : DataW.Trod enc Tryd.prog W 0 (fun _ => true) true 5 v d p) (hv : Value.okWide Tryd.prog W .any base 5 v) :
    ∃ k : UInt8, v = .int .u8 (k.toNat : Int) := by
  obtain ⟨x, rfl, rfl, rfl, wx⟩ := open_int Tryd.underlying5 hv h
  have hx := bounds_u8 wx
  refine ⟨UInt8.ofNat x.toNat, ?_⟩
  simp
  omega

end Go.Proofs.YtglaahejijfclaaDoor

/-
  HOW AN ARGUMENT READS: a slice of ints.
-/
namespace Go.Proofs.YtglaahejijfclaaDoor
open Go.ChangeShapes Go.WideShapes Go.ChangeAt Go.RowKit Go.Deep

/-- A slice of ints. -/
structure IS (w : World) (ao : Option Addr) (n cap : Nat) (xs : List Int) : Prop where
  len : xs.length = n
  le : n ≤ cap
  max : cap ≤ maxLen
  row : Row w ao (xs.map (Value.int .i64))
theorem IS.keep {w w' : World} {ao : Option Addr} {n cap : Nat} {xs : List Int} (h : IS w ao n cap xs) (k : Kp Noone w w') : IS w' ao n cap xs := ⟨h.len, h.le, h.max, h.row.keep k⟩
theorem IS.at {w : World} {ao : Option Addr} {n cap : Nat} {xs : List Int} (h : IS w ao n cap xs) {k : Nat} (hk : k < n) :
    ∃ b off, ∃ hl : k < xs.length, ao = some ⟨b, off, none⟩ ∧ b < w.heap.size ∧ w.cell? ⟨b, off + k, none⟩ = some (.int .i64 xs[k]) := by
  have hl : k < xs.length := by have := h.len; omega
  rcases h.row with h0 | ⟨b, off, rfl, hr⟩
  · have := congrArg List.length h0
    simp at this
    rw [this] at hl
    simp at hl
  · have hc := hr k (by simpa using hl)
    rw [List.getElem_map] at hc
    exact ⟨b, off, hl, rfl, World.block_lt_of_cell? _ _ hc, hc⟩

theorem cells_int : Tryd.prog.cellsOf 3 = 1 := by kernel_rfl
end Go.Proofs.YtglaahejijfclaaDoor

/-
  HOW A SCRIPT OF Op (of the disk's laws) READS, with its bulk.
-/
namespace Go.Proofs.YtglaahejijfclaaDoor
open Go.ChangeShapes Go.WideShapes Go.ChangeAt Go.RowKit Go.Deep

theorem i64_wf {k : Int} (h : (Lit.int .i64 k).wf = true) : -9223372036854775808 ≤ k ∧ k ≤ 9223372036854775807 := by
  simpa [Lit.wf, IntKind.min, IntKind.max, IntKind.signed, IntKind.bits] using h
theorem cell_spot {W : World} {a : Addr} {v : Value} (h : W.cell? a = some v) : a.spot = none := by
  cases hs : a.spot with
  | none => rfl
  | some s => exfalso; unfold World.cell? at h; rw [hs] at h; split at h <;> simp at h
theorem add_zero (a : Addr) : a.add 0 = a := by simp [Addr.add]
theorem trod_struct6 {H : Type} {enc : TypeId × Value → H} {P : Program} {w : World} {base : Nat} {spare : Nat → Bool} {held : Bool} {t : TypeId} {f0 f1 f2 f3 f4 f5 : Field} {fuel : Nat} {cs : List Value} {x : DataW H × List MemPlace} (ht : P.underlying t = some (.struct #[f0, f1, f2, f3, f4, f5])) (h : DataW.trod enc P w base spare held fuel t cs = some x) :
    ∃ y0 y1 y2 y3 y4 y5 n, x = (.agg [y0.1, y1.1, y2.1, y3.1, y4.1, y5.1], y0.2 ++ (y1.2 ++ (y2.2 ++ (y3.2 ++ (y4.2 ++ y5.2))))) ∧ cs.length = P.cellsOf t ∧ DataW.trod enc P w base spare held n f0.type ((cs.drop f0.offset).take (P.cellsOf f0.type)) = some y0 ∧
      DataW.trod enc P w base spare held n f1.type ((cs.drop f1.offset).take (P.cellsOf f1.type)) = some y1 ∧ DataW.trod enc P w base spare held n f2.type ((cs.drop f2.offset).take (P.cellsOf f2.type)) = some y2 ∧
      DataW.trod enc P w base spare held n f3.type ((cs.drop f3.offset).take (P.cellsOf f3.type)) = some y3 ∧ DataW.trod enc P w base spare held n f4.type ((cs.drop f4.offset).take (P.cellsOf f4.type)) = some y4 ∧
      DataW.trod enc P w base spare held n f5.type ((cs.drop f5.offset).take (P.cellsOf f5.type)) = some y5 := by
  obtain ⟨xs, n, _, rfl, hl, hlen, hf⟩ := DataW.trod_struct ht h
  match xs, hlen with
  | [y0, y1, y2, y3, y4, y5], _ => exact ⟨y0, y1, y2, y3, y4, y5, n, by simp, hl, by simpa using hf 0 f0 rfl, by simpa using hf 1 f1 rfl, by simpa using hf 2 f2 rfl, by simpa using hf 3 f3 rfl, by simpa using hf 4 f4 rfl, by simpa using hf 5 f5 rfl⟩

structure OpD where
  k : Int
  name : ByteArray
  dest : ByteArray
  b : List UInt8
  n : Int
  keep : List Int
instance : Inhabited OpD := ⟨⟨0, ByteArray.empty, ByteArray.empty, [], 0, []⟩⟩
/-- What holds of a step read from memory. -/
structure OpOk (o : OpD) (M : Nat) : Prop where
  k : -9223372036854775808 ≤ o.k ∧ o.k ≤ 9223372036854775807
  name : o.name.size ≤ maxLen
  dest : o.dest.size ≤ maxLen
  n : -9223372036854775808 ≤ o.n ∧ o.n ≤ 9223372036854775807
  b : o.b.length + 1 ≤ M
  keep : o.keep.length + 1 ≤ M

/-- A script of steps. -/
structure OS (W : World) (ao : Option Addr) (n cap : Nat) (ps : List OpD) (M : Nat) : Prop where
  len : ps.length = n
  le : n ≤ cap
  max : cap ≤ maxLen
  get : ∀ i (h : i < ps.length), OpOk ps[i] M ∧ ∃ b off bo bm bc ko km kc, ao = some ⟨b, off, none⟩ ∧ b < W.heap.size ∧ W.cell? ⟨b, off + i * 6, none⟩ = some (.int .i64 ps[i].k) ∧ W.cell? ⟨b, off + i * 6 + 1, none⟩ = some (.string ps[i].name) ∧
    W.cell? ⟨b, off + i * 6 + 2, none⟩ = some (.string ps[i].dest) ∧ W.cell? ⟨b, off + i * 6 + 3, none⟩ = some (.slice bo bm bc) ∧ W.cell? ⟨b, off + i * 6 + 4, none⟩ = some (.int .i64 ps[i].n) ∧ W.cell? ⟨b, off + i * 6 + 5, none⟩ = some (.slice ko km kc) ∧
    BS W bo bm bc ps[i].b ∧ IS W ko km kc ps[i].keep

theorem cells_strg : Tryd.prog.cellsOf 9 = 1 := by kernel_rfl
theorem bulk_mem {H : Type} {x : DataW H} : ∀ {l : List (DataW H)}, x ∈ l → Rows.uptoBulk x ≤ Rows.uptoBulkAll l
  | [], h => by simp at h
  | y :: r, h => by
    simp only [Rows.uptoBulkAll]
    rcases List.mem_cons.1 h with h | h
    · subst h; omega
    · have := bulk_mem h; omega

end Go.Proofs.YtglaahejijfclaaDoor

/-
  HOW AN ARGUMENT READS that is an int.
-/
namespace Go.Proofs.YtglaahejijfclaaDoor
open Go.ChangeShapes Go.WideShapes Go.ChangeAt Go.RowKit Go.Deep

set_option maxRecDepth 100000 in
theorem arg_i64 {H : Type} {enc : TypeId × Value → H} {W : World} {base : Nat} {v : Value} {d : DataW H} {p : List MemPlace}
    (h : DataW.Trod enc Tryd.prog W 0 (fun _ => true) true 3 v d p) (hv : Value.okWide Tryd.prog W .any base 3 v) :
    ∃ k : Int, v = .int .i64 k ∧ -9223372036854775808 ≤ k ∧ k ≤ 9223372036854775807 := by
  obtain ⟨x, rfl, rfl, rfl, wx⟩ := open_int Tryd.underlying3 hv h
  have hb : -9223372036854775808 ≤ x ∧ x ≤ 9223372036854775807 := by simpa [Lit.wf, IntKind.min, IntKind.max, IntKind.signed, IntKind.bits] using wx
  exact ⟨x, rfl, hb.1, hb.2⟩
theorem kp_same {W w' : World} (h : W = w') : Kp Noone W w' := by subst h; exact Kp.refl _ _

end Go.Proofs.YtglaahejijfclaaDoor

