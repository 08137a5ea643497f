/-
  The texts Read8, SortS in one: what the claim reaches of them.
-/
import Derived.Test.YtgbgbokcohfnpaaGreatRows
import Derived.Test.YtgbgbokcohfnpaaGreatP01
import Derived.ProofKit
import Derived.OpenShut
import Derived.ShutString
import Derived.ChangeOld
import Derived.JoinedCond
import Derived.Deep.Slices
import Derived.SizedLaws
import Derived.Deep.Strs
import Derived.Shelf.Sort.Plain
import Derived.Shelf.Slices.In.SortNone
import Derived.Test.YtgbgbokcohfnpaaGreatProg
/-
  ReadN, ReadIntsN, ReadOpD, ReadI in one text.
-/
/-
  HOW AN ARGUMENT READS: byte slices, slices of byte slices, and what the bound on their bulk gives.
-/
namespace Go.Proofs.YtgbgbokcohfnpaaGreat
open Go.ChangeShapes Go.WideShapes Go.ChangeAt Go.RowKit Go.Deep

theorem one_le {H : Type} (d : DataW H) : 1 ≤ Rows.uptoBulk d := by
  cases d with
  | lit l => cases l <;> simp [Rows.uptoBulk]
  | nil => simp [Rows.uptoBulk]
  | ptr d => simp [Rows.uptoBulk]
  | slice elems spare => simp [Rows.uptoBulk]
  | agg parts => simp [Rows.uptoBulk]
  | iface t d => simp [Rows.uptoBulk]
  | map entries => simp [Rows.uptoBulk]
  | held h => simp [Rows.uptoBulk]
theorem length_le {H : Type} (l : List (DataW H)) : l.length ≤ Rows.uptoBulkAll l := by
  induction l with
  | nil => simp [Rows.uptoBulkAll]
  | cons x r ih => have := one_le x; simp only [Rows.uptoBulkAll, List.length_cons]; omega
set_option maxRecDepth 100000 in
/-- An argument that is an int. -/
theorem arg_int {H : Type} {enc : TypeId × Value → H} {W : World} {base : Nat} {v : Value} {d : DataW H} {p : List MemPlace}
    (h : DataW.Trod enc Tryz.prog W 0 (fun _ => true) true 3 v d p) (hv : Value.okWide Tryz.prog W .any base 3 v) :
    ∃ k : Int, v = .int .i64 k ∧ (Lit.int .i64 k).wf = true := by
  obtain ⟨x, rfl, rfl, rfl, wx⟩ := open_int Tryz.underlying3 hv h
  exact ⟨x, rfl, wx⟩
end Go.Proofs.YtgbgbokcohfnpaaGreat

/-
  HOW AN ARGUMENT READS: a slice of ints.
-/
namespace Go.Proofs.YtgbgbokcohfnpaaGreat
open Go.ChangeShapes Go.WideShapes Go.ChangeAt Go.RowKit Go.Deep

/-- A slice of ints. -/
structure IS (w : World) (ao : Option Addr) (n cap : Nat) (xs : List Int) : Prop where
  len : xs.length = n
  le : n ≤ cap
  max : cap ≤ maxLen
  row : Row w ao (xs.map (Value.int .i64))
theorem IS.keep {w w' : World} {ao : Option Addr} {n cap : Nat} {xs : List Int} (h : IS w ao n cap xs) (k : Kp Noone w w') : IS w' ao n cap xs := ⟨h.len, h.le, h.max, h.row.keep k⟩
theorem IS.at {w : World} {ao : Option Addr} {n cap : Nat} {xs : List Int} (h : IS w ao n cap xs) {k : Nat} (hk : k < n) :
    ∃ b off, ∃ hl : k < xs.length, ao = some ⟨b, off, none⟩ ∧ b < w.heap.size ∧ w.cell? ⟨b, off + k, none⟩ = some (.int .i64 xs[k]) := by
  have hl : k < xs.length := by have := h.len; omega
  rcases h.row with h0 | ⟨b, off, rfl, hr⟩
  · have := congrArg List.length h0
    simp at this
    rw [this] at hl
    simp at hl
  · have hc := hr k (by simpa using hl)
    rw [List.getElem_map] at hc
    exact ⟨b, off, hl, rfl, World.block_lt_of_cell? _ _ hc, hc⟩

theorem cells_int : Tryz.prog.cellsOf 3 = 1 := by kernel_rfl
theorem read_ints {H : Type} {enc : TypeId × Value → H} {W : World} {held : Bool} {fuel : Nat} {v : Value} {x : DataW H × List MemPlace}
    (h : DataW.trod enc Tryz.prog W 0 (fun _ => true) held fuel 32 [v] = some x) :
    ∃ ao n cap l, v = .slice ao n cap ∧ IS W ao n cap l ∧ ((x.1 = .nil ∧ cap = 0) ∨ ∃ elems spare, x.1 = .slice elems spare ∧ elems.length + spare.length = cap) := by
  rcases open_ints Tryz.underlying32 Tryz.underlying3 cells_int h with ⟨hcs, rfl⟩ | ⟨a, len, cap, zs, hcs, _, hl, hm, hz, rfl, hcell, hwz⟩
  · simp at hcs
    subst hcs
    exact ⟨none, 0, 0, [], rfl, ⟨rfl, Nat.le_refl _, by simp [maxLen], Row.nil _ _⟩, Or.inl ⟨rfl, rfl⟩⟩
  · simp at hcs
    subst hcs
    simp only [if_true] at hz
    refine ⟨some a, len, cap, zs.take len, rfl, ⟨by rw [List.length_take]; omega, hl, hm, ?_⟩, ?_⟩
    · by_cases h0 : len = 0
      · left; simp [h0]
      · have hc0 := hcell 0 (by omega)
        have hsp : a.spot = none := by
          have := hc0
          simp only [Addr.add, if_true] at this
          cases hs : a.spot with
          | none => rfl
          | some s => exfalso; unfold World.cell? at this; rw [hs] at this; split at this <;> simp at this
        obtain ⟨b, off, sp⟩ := a
        simp at hsp
        subst hsp
        refine Or.inr ⟨b, off, rfl, fun i hi => ?_⟩
        have hi' : i < zs.length := by simp at hi; omega
        have hc := hcell i hi'
        rw [Addr.add_lit] at hc
        rw [hc]
        simp [hi']
    · exact Or.inr ⟨_, _, rfl, by simp only [lits, List.length_map, List.length_take, List.length_drop]; omega⟩
end Go.Proofs.YtgbgbokcohfnpaaGreat

/-
  HOW A SCRIPT OF Op (of the disk's laws) READS, with its bulk.
-/
namespace Go.Proofs.YtgbgbokcohfnpaaGreat
open Go.ChangeShapes Go.WideShapes Go.ChangeAt Go.RowKit Go.Deep

theorem i64_wf {k : Int} (h : (Lit.int .i64 k).wf = true) : -9223372036854775808 ≤ k ∧ k ≤ 9223372036854775807 := by
  simpa [Lit.wf, IntKind.min, IntKind.max, IntKind.signed, IntKind.bits] using h
theorem cell_spot {W : World} {a : Addr} {v : Value} (h : W.cell? a = some v) : a.spot = none := by
  cases hs : a.spot with
  | none => rfl
  | some s => exfalso; unfold World.cell? at h; rw [hs] at h; split at h <;> simp at h
theorem add_zero (a : Addr) : a.add 0 = a := by simp [Addr.add]
theorem trod_struct6 {H : Type} {enc : TypeId × Value → H} {P : Program} {w : World} {base : Nat} {spare : Nat → Bool} {held : Bool} {t : TypeId} {f0 f1 f2 f3 f4 f5 : Field} {fuel : Nat} {cs : List Value} {x : DataW H × List MemPlace} (ht : P.underlying t = some (.struct #[f0, f1, f2, f3, f4, f5])) (h : DataW.trod enc P w base spare held fuel t cs = some x) :
    ∃ y0 y1 y2 y3 y4 y5 n, x = (.agg [y0.1, y1.1, y2.1, y3.1, y4.1, y5.1], y0.2 ++ (y1.2 ++ (y2.2 ++ (y3.2 ++ (y4.2 ++ y5.2))))) ∧ cs.length = P.cellsOf t ∧ DataW.trod enc P w base spare held n f0.type ((cs.drop f0.offset).take (P.cellsOf f0.type)) = some y0 ∧
      DataW.trod enc P w base spare held n f1.type ((cs.drop f1.offset).take (P.cellsOf f1.type)) = some y1 ∧ DataW.trod enc P w base spare held n f2.type ((cs.drop f2.offset).take (P.cellsOf f2.type)) = some y2 ∧
      DataW.trod enc P w base spare held n f3.type ((cs.drop f3.offset).take (P.cellsOf f3.type)) = some y3 ∧ DataW.trod enc P w base spare held n f4.type ((cs.drop f4.offset).take (P.cellsOf f4.type)) = some y4 ∧
      DataW.trod enc P w base spare held n f5.type ((cs.drop f5.offset).take (P.cellsOf f5.type)) = some y5 := by
  obtain ⟨xs, n, _, rfl, hl, hlen, hf⟩ := DataW.trod_struct ht h
  match xs, hlen with
  | [y0, y1, y2, y3, y4, y5], _ => exact ⟨y0, y1, y2, y3, y4, y5, n, by simp, hl, by simpa using hf 0 f0 rfl, by simpa using hf 1 f1 rfl, by simpa using hf 2 f2 rfl, by simpa using hf 3 f3 rfl, by simpa using hf 4 f4 rfl, by simpa using hf 5 f5 rfl⟩

structure OpD where
  k : Int
  name : ByteArray
  dest : ByteArray
  b : List UInt8
  n : Int
  keep : List Int
instance : Inhabited OpD := ⟨⟨0, ByteArray.empty, ByteArray.empty, [], 0, []⟩⟩
/-- What holds of a step read from memory. -/
structure OpOk (o : OpD) (M : Nat) : Prop where
  k : -9223372036854775808 ≤ o.k ∧ o.k ≤ 9223372036854775807
  name : o.name.size ≤ maxLen
  dest : o.dest.size ≤ maxLen
  n : -9223372036854775808 ≤ o.n ∧ o.n ≤ 9223372036854775807
  b : o.b.length + 1 ≤ M
  keep : o.keep.length + 1 ≤ M

theorem cells_intsl : Tryz.prog.cellsOf 32 = 1 := by kernel_rfl
end Go.Proofs.YtgbgbokcohfnpaaGreat

/-
  HOW AN ARGUMENT READS that is an int.
-/
namespace Go.Proofs.YtgbgbokcohfnpaaGreat
open Go.ChangeShapes Go.WideShapes Go.ChangeAt Go.RowKit Go.Deep

end Go.Proofs.YtgbgbokcohfnpaaGreat

/-
  THE SHELF's CONTRACTS that the walks use, at this dump, in plain words (out of what the kit's lay-shelf.mjs and lay-plain.mjs wrote; taken out by shelf.py).
-/
namespace Go.Proofs
open Go.Shelf
def Tryz.lays190_ren : Go.Shelf.Ren := ⟨fun | 190 => 120 | 125 => 99 | 258 => 161 | 128 => 147 | 129 => 148 | 302 => 186 | 303 => 187 | 304 => 188 | 305 => 189 | 306 => 190 | 307 => 191 | 308 => 192 | 309 => 193 | 310 => 194 | 333 => 206 | 329 => 176 | 330 => 177 | 334 => 207 | 335 => 208 | 336 => 209 | 344 => 213 | n => n, fun | 31 => 144 | 9 => 9 | 3 => 3 | 46 => 185 | 0 => 0 | 51 => 238 | 53 => 227 | 4 => 4 | 183 => 232 | 182 => 231 | 131 => 192 | 5 => 5 | 218 => 273 | 222 => 276 | 228 => 295 | 229 => 296 | n => n, fun | n => n⟩
theorem Tryz.lays190 : Go.Proofs.Lays.n190 Tryz.prog Tryz.lays190_ren := {
  mixed := by kernel_rfl
  f125 := Tryz.func99.trans (congrArg some (by kernel_rfl))
  f128 := Tryz.func147.trans (congrArg some (by kernel_rfl))
  f129 := Tryz.func148.trans (congrArg some (by kernel_rfl))
  f190 := Tryz.func120.trans (congrArg some (by kernel_rfl))
  f258 := Tryz.func161.trans (congrArg some (by kernel_rfl))
  f302 := Tryz.func186.trans (congrArg some (by kernel_rfl))
  f303 := Tryz.func187.trans (congrArg some (by kernel_rfl))
  f304 := Tryz.func188.trans (congrArg some (by kernel_rfl))
  f305 := Tryz.func189.trans (congrArg some (by kernel_rfl))
  f306 := Tryz.func190.trans (congrArg some (by kernel_rfl))
  f307 := Tryz.func191.trans (congrArg some (by kernel_rfl))
  f308 := Tryz.func192.trans (congrArg some (by kernel_rfl))
  f309 := Tryz.func193.trans (congrArg some (by kernel_rfl))
  f310 := Tryz.func194.trans (congrArg some (by kernel_rfl))
  f329 := Tryz.func176.trans (congrArg some (by kernel_rfl))
  f330 := Tryz.func177.trans (congrArg some (by kernel_rfl))
  f333 := Tryz.func206.trans (congrArg some (by kernel_rfl))
  f334 := Tryz.func207.trans (congrArg some (by kernel_rfl))
  f335 := Tryz.func208.trans (congrArg some (by kernel_rfl))
  f336 := Tryz.func209.trans (congrArg some (by kernel_rfl))
  f344 := Tryz.func213.trans (congrArg some (by kernel_rfl))
  t0 := Tryz.underlying0
  a0 := Tryz.isAgg0
  z0 := Tryz.sizeOf0
  v0 := Tryz.zeroValue0
  t3 := Tryz.underlying3
  a3 := Tryz.isAgg3
  z3 := Tryz.sizeOf3
  v3 := Tryz.zeroValue3
  t4 := Tryz.underlying4
  a4 := Tryz.isAgg4
  z4 := Tryz.sizeOf4
  v4 := Tryz.zeroValue4
  t5 := Tryz.underlying5
  a5 := Tryz.isAgg5
  z5 := Tryz.sizeOf5
  v5 := Tryz.zeroValue5
  t9 := Tryz.underlying9
  a9 := Tryz.isAgg9
  z9 := Tryz.sizeOf9
  v9 := Tryz.zeroValue9
  t31 := Tryz.underlying144
  a31 := Tryz.isAgg144
  z31 := Tryz.sizeOf144
  v31 := Tryz.zeroValue144
  t46 := Tryz.underlying185
  a46 := Tryz.isAgg185
  z46 := Tryz.sizeOf185
  v46 := Tryz.zeroValue185
  t51 := Tryz.underlying238
  a51 := Tryz.isAgg238
  z51 := Tryz.sizeOf238
  v51 := Tryz.zeroValue238
  t53 := Tryz.underlying227
  a53 := Tryz.isAgg227
  z53 := Tryz.sizeOf227
  v53 := Tryz.zeroValue227
  t131 := Tryz.underlying192
  a131 := Tryz.isAgg192
  z131 := Tryz.sizeOf192
  v131 := Tryz.zeroValue192
  t182 := Tryz.underlying231
  a182 := Tryz.isAgg231
  z182 := Tryz.sizeOf231
  v182 := Tryz.zeroValue231
  t183 := Tryz.underlying232
  a183 := Tryz.isAgg232
  z183 := Tryz.sizeOf232
  v183 := Tryz.zeroValue232
  t218 := Tryz.underlying273
  a218 := Tryz.isAgg273
  z218 := Tryz.sizeOf273
  v218 := Tryz.zeroValue273
  t222 := Tryz.underlying276
  a222 := Tryz.isAgg276
  z222 := Tryz.sizeOf276
  v222 := Tryz.zeroValue276
  t228 := Tryz.underlying295
  a228 := Tryz.isAgg295
  z228 := Tryz.sizeOf295
  v228 := Tryz.zeroValue295
  t229 := Tryz.underlying296
  a229 := Tryz.isAgg296
  z229 := Tryz.sizeOf296
  v229 := Tryz.zeroValue296 }
open Go.Sort Go.RowKit in
theorem Tryz.slices_Sort_string (blk off cap : Nat) (ss : List (List UInt8)) (w : World) (hH : Holds encStr w blk off ss.toArray) (hblk : blk < w.heap.size) (hsz : ss.length < 4611686018427387904) :
    Calls Tryz.prog 120 #[.slice (some ⟨blk, off, none⟩) ss.length cap] w fun e w' =>
      e = .returned (.tuple #[]) ∧ ∃ n os, w' = grow (putRow encStr (Sort.ahead w n) blk off (ss.mergeSort fun x y => decide (x ≤ y)).toArray) os := Any.slices_Sort_string Tryz.lays190 blk off cap ss w hH hblk hsz
open Go.RowKit Go.Sort in
theorem Tryz.slices_Sort_string_none (p : Option Addr) (cap : Nat) (w : World) :
    Calls Tryz.prog 120 #[.slice p 0 cap] w fun e w' => e = .returned (.tuple #[]) ∧ w' = w := Any.slices_Sort_string_none Tryz.lays190 p cap w
end Go.Proofs
