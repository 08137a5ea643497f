/-
  HOW THE SCRIPTS READ: slices of Take and of Put.
-/
import Derived.Test.YtgbfbhkpjmgipaaRead
import Derived.Deep.Strs
namespace Go.Proofs.Ytgbfbhkpjmgipaa
open Go.ChangeShapes Go.WideShapes Go.ChangeAt Go.RowKit Go.Deep

def I64 (k : Int) : Prop := -9223372036854775808 ≤ k ∧ k ≤ 9223372036854775807
theorem I64.wf {k : Int} (h : (Lit.int .i64 k).wf = true) : I64 k := by
  unfold I64
  simpa [Lit.wf, IntKind.min, IntKind.max, IntKind.signed, IntKind.bits] using h

/-- A script of reads. -/
structure TS (W : World) (ao : Option Addr) (n cap : Nat) (ts : List (Int × Int)) : Prop where
  len : ts.length = n
  le : n ≤ cap
  max : cap ≤ maxLen
  get : ∀ i (h : i < ts.length), I64 ts[i].1 ∧ I64 ts[i].2 ∧ ∃ b off, ao = some ⟨b, off, none⟩ ∧ b < W.heap.size ∧ W.cell? ⟨b, off + i * 2, none⟩ = some (.int .i64 ts[i].1) ∧ W.cell? ⟨b, off + i * 2 + 1, none⟩ = some (.int .i64 ts[i].2)

theorem cells_take : Try.prog.cellsOf 62 = 2 := by kernel_rfl
theorem cells_int : Try.prog.cellsOf 3 = 1 := by kernel_rfl

theorem cell_spot {W : World} {a : Addr} {v : Value} (h : W.cell? a = some v) : a.spot = none := by
  cases hs : a.spot with
  | none => rfl
  | some s => exfalso; unfold World.cell? at h; rw [hs] at h; split at h <;> simp at h
theorem add_zero (a : Addr) : a.add 0 = a := by simp [Addr.add]

set_option maxHeartbeats 1000000 in
theorem read_take {H : Type} {enc : TypeId × Value → H} {W : World} {held : Bool} {fuel : Nat} {v : Value} {x : DataW H × List MemPlace}
    (h : DataW.trod enc Try.prog W 0 (fun _ => true) held fuel 58 [v] = some x) :
    ∃ ao n cap ts, v = .slice ao n cap ∧ TS W ao n cap ts := by
  rcases open_slice Try.underlying58 h with ⟨hcs, rfl⟩ | ⟨a, len, cap, m, n, D, Pl, hcs, _, hl, hm, hmm, rfl, hx⟩
  · simp at hcs
    subst hcs
    exact ⟨none, 0, 0, [], rfl, ⟨rfl, Nat.le_refl _, by simp [maxLen], fun i h => by simp at h⟩⟩
  · simp at hcs
    subst hcs
    simp only [if_true] at hmm
    rw [hmm] at hx
    clear hmm
    have each : ∀ i, i < len → ∃ y : Int × Int, I64 y.1 ∧ I64 y.2 ∧ W.cell? ((a.add (i * 2)).add 0) = some (.int .i64 y.1) ∧ W.cell? ((a.add (i * 2)).add 1) = some (.int .i64 y.2) := by
      intro i hi
      obtain ⟨cs, hc, ht⟩ := hx i (by omega)
      rw [cells_take] at hc
      obtain ⟨-, hcl, hcg⟩ := World.cells?_some hc
      obtain ⟨y0, y1, n', -, -, hy0, hy1⟩ := trod_struct2 Try.underlying62 ht
      match cs, hcl with
      | [u, v], _ =>
        rw [cells_int] at hy0 hy1
        obtain ⟨k0, e0, -, w0⟩ := DataW.trod_int Try.underlying3 hy0
        obtain ⟨k1, e1, -, w1⟩ := DataW.trod_int Try.underlying3 hy1
        simp at e0 e1
        subst e0 e1
        exact ⟨(k0, k1), I64.wf w0, I64.wf w1, hcg 0 (by omega), hcg 1 (by omega)⟩
    obtain ⟨f, hf⟩ := choose_lt each
    refine ⟨some a, len, cap, (List.range len).map f, rfl, ⟨by simp, hl, hm, fun i hi => ?_⟩⟩
    have hi' : i < len := by simpa using hi
    obtain ⟨f1, f2, f3, f4⟩ := hf i hi'
    have hsp := (hf 0 (by omega)).2.2.1
    rw [Nat.zero_mul, add_zero, add_zero] at hsp
    have hsp := cell_spot hsp
    obtain ⟨b, off, sp⟩ := a
    simp at hsp
    subst hsp
    simp only [List.getElem_map, List.getElem_range]
    rw [Addr.add_lit, Addr.add_lit] at f3 f4
    exact ⟨f1, f2, b, off, rfl, World.block_lt_of_cell? W _ f3, f3, f4⟩

theorem arg_take {H : Type} {enc : TypeId × Value → H} {W : World} {base : Nat} {v : Value} {d : DataW H} {p : List MemPlace}
    (h : DataW.Trod enc Try.prog W 0 (fun _ => true) true 58 v d p) (hv : Value.okWide Try.prog W .any base 58 v) :
    ∃ ao n cap ts, v = .slice ao n cap ∧ TS W ao n cap ts := by
  obtain ⟨a0, len, cap, rfl⟩ := okWide_slice Try.underlying58 hv
  obtain ⟨fuel, hf⟩ := h
  exact read_take (x := (d, p)) hf

theorem TS.keep {W W' : World} {ao : Option Addr} {n cap : Nat} {ts : List (Int × Int)} (h : TS W ao n cap ts) (k : Kp Noone W W') : TS W' ao n cap ts := by
  refine ⟨h.len, h.le, h.max, fun i hi => ?_⟩
  obtain ⟨h1, h2, b, off, h3, h4, h5, h6⟩ := h.get i hi
  exact ⟨h1, h2, b, off, h3, Nat.lt_of_lt_of_le h4 k.size, k.cell h5 id, k.cell h6 id⟩

end Go.Proofs.Ytgbfbhkpjmgipaa
