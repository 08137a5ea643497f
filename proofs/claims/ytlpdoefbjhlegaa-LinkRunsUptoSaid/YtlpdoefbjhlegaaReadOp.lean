/-
  HOW A SCRIPT OF Op READS, with its bulk.
-/
import Derived.Test.YtlpdoefbjhlegaaReadInts
import Derived.Deep.Strs
namespace Go.Proofs.Ytlpdoefbjhlegaa
open Go.ChangeShapes Go.WideShapes Go.ChangeAt Go.RowKit Go.Deep

def I64 (k : Int) : Prop := -9223372036854775808 ≤ k ∧ k ≤ 9223372036854775807
theorem I64.wf {k : Int} (h : (Lit.int .i64 k).wf = true) : I64 k := by
  unfold I64
  simpa [Lit.wf, IntKind.min, IntKind.max, IntKind.signed, IntKind.bits] using h
theorem cell_spot {W : World} {a : Addr} {v : Value} (h : W.cell? a = some v) : a.spot = none := by
  cases hs : a.spot with
  | none => rfl
  | some s => exfalso; unfold World.cell? at h; rw [hs] at h; split at h <;> simp at h
theorem add_zero (a : Addr) : a.add 0 = a := by simp [Addr.add]

abbrev OpL := Int × Int × List UInt8

/-- A script of steps. -/
structure OS (W : World) (ao : Option Addr) (n cap : Nat) (ps : List OpL) : Prop where
  len : ps.length = n
  le : n ≤ cap
  max : cap ≤ maxLen
  get : ∀ i (h : i < ps.length), I64 ps[i].1 ∧ I64 ps[i].2.1 ∧ ∃ b off bo m c, ao = some ⟨b, off, none⟩ ∧ b < W.heap.size ∧ W.cell? ⟨b, off + i * 3, none⟩ = some (.int .i64 ps[i].1) ∧ W.cell? ⟨b, off + i * 3 + 1, none⟩ = some (.int .i64 ps[i].2.1) ∧
    W.cell? ⟨b, off + i * 3 + 2, none⟩ = some (.slice bo m c) ∧ BS W bo m c ps[i].2.2

theorem cells_op : Try.prog.cellsOf 33 = 3 := by kernel_rfl

theorem OS.keep {W W' : World} {ao : Option Addr} {n cap : Nat} {ps : List OpL} (h : OS W ao n cap ps) (k : Kp Noone W W') : OS W' ao n cap ps := by
  refine ⟨h.len, h.le, h.max, fun i hi => ?_⟩
  obtain ⟨h1, h2, b, off, bo, m, c, h3, h4, h5, h6, h7, h8⟩ := h.get i hi
  exact ⟨h1, h2, b, off, bo, m, c, h3, Nat.lt_of_lt_of_le h4 k.size, k.cell h5 id, k.cell h6 id, k.cell h7 id, h8.keep k⟩

set_option maxHeartbeats 1000000 in
set_option maxRecDepth 100000 in
theorem read_op {H : Type} {enc : TypeId × Value → H} {W : World} {held : Bool} {fuel : Nat} {v : Value} {x : DataW H × List MemPlace}
    (h : DataW.trod enc Try.prog W 0 (fun _ => true) held fuel 22 [v] = some x) :
    ∃ ao n cap ps, v = .slice ao n cap ∧ OS W ao n cap ps ∧ (ps.map (·.2.2)).flatten.length + n + 1 ≤ Rows.uptoBulk x.1 := by
  rcases open_slice Try.underlying22 h with ⟨hcs, rfl⟩ | ⟨a, len, cap, m, n, D, Pl, hcs, _, hl, hm, hmm, rfl, hx⟩
  · simp at hcs
    subst hcs
    exact ⟨none, 0, 0, [], rfl, ⟨rfl, Nat.le_refl _, by simp [maxLen], fun i h => by simp at h⟩, by simp [Rows.uptoBulk]⟩
  · simp at hcs
    subst hcs
    simp only [if_true] at hmm
    rw [hmm] at hx
    clear hmm
    have each : ∀ i, i < len → ∃ y : OpL, I64 y.1 ∧ I64 y.2.1 ∧ W.cell? ((a.add (i * 3)).add 0) = some (.int .i64 y.1) ∧ W.cell? ((a.add (i * 3)).add 1) = some (.int .i64 y.2.1) ∧
        (∃ bo m c, W.cell? ((a.add (i * 3)).add 2) = some (.slice bo m c) ∧ BS W bo m c y.2.2) ∧ y.2.2.length + 1 ≤ Rows.uptoBulk (D i) := by
      intro i hi
      obtain ⟨cs, hc, ht⟩ := hx i (by omega)
      rw [cells_op] at hc
      obtain ⟨-, hcl, hcg⟩ := World.cells?_some hc
      obtain ⟨y0, y1, y2, n', hD, -, hy0, hy1, hy2⟩ := trod_struct3 Try.underlying33 ht
      have hD1 : D i = .agg [y0.1, y1.1, y2.1] := congrArg Prod.fst hD
      match cs, hcl with
      | [u, v, z], _ =>
        rw [cells_int] at hy0 hy1
        rw [cells_bytes] at hy2
        obtain ⟨k0, e0, -, w0⟩ := DataW.trod_int Try.underlying3 hy0
        obtain ⟨k1, e1, -, w1⟩ := DataW.trod_int Try.underlying3 hy1
        simp at e0 e1
        subst e0 e1
        have hy2' : DataW.trod enc Try.prog W 0 (fun _ => true) held n' 31 [z] = some y2 := by simpa using hy2
        obtain ⟨bo, m', c', l, rfl, hb, hd⟩ := read_bytes hy2'
        refine ⟨(k0, k1, l), I64.wf w0, I64.wf w1, hcg 0 (by omega), hcg 1 (by omega), ⟨bo, m', c', hcg 2 (by omega), hb⟩, ?_⟩
        show l.length + 1 ≤ _
        have h1 := hb.len
        have h2 := hb.le
        rw [hD1]
        simp only [Rows.uptoBulk, Rows.uptoBulkAll]
        rcases hd with ⟨hd, h0⟩ | ⟨elems, spare, hd, hs⟩
        · have := one_le y2.1
          omega
        · rw [hd]
          have := slice_le elems spare
          omega
    obtain ⟨f, hf⟩ := choose_lt each
    refine ⟨some a, len, cap, (List.range len).map f, rfl, ⟨by simp, hl, hm, fun i hi => ?_⟩, ?_⟩
    · have hi' : i < len := by simpa using hi
      obtain ⟨f1, f2, f3, f4, ⟨bo, m', c', f5, f6⟩, -⟩ := hf i hi'
      have hsp := (hf 0 (by omega)).2.2.1
      rw [Nat.zero_mul, add_zero, add_zero] at hsp
      have hsp := cell_spot hsp
      obtain ⟨b, off, sp⟩ := a
      simp at hsp
      subst hsp
      simp only [List.getElem_map, List.getElem_range]
      rw [Addr.add_lit, Addr.add_lit] at f3 f4 f5
      exact ⟨f1, f2, b, off, bo, m', c', rfl, World.block_lt_of_cell? W _ f3, f3, f4, f5, f6⟩
    · have h1 := bulk_sum D (fun i => (f i).2.2) (List.range len) (fun i hi => (hf i (by simpa using hi)).2.2.2.2.2)
      simp only [Rows.uptoBulk]
      rw [List.length_range] at h1
      rw [List.map_map]
      have e : (List.map ((fun y : OpL => y.2.2) ∘ f) (List.range len)) = List.map (fun i => (f i).2.2) (List.range len) := rfl
      rw [e]
      omega

theorem arg_op {H : Type} {enc : TypeId × Value → H} {W : World} {base : Nat} {v : Value} {d : DataW H} {p : List MemPlace}
    (h : DataW.Trod enc Try.prog W 0 (fun _ => true) true 22 v d p) (hv : Value.okWide Try.prog W .any base 22 v) :
    ∃ ao n cap ps, v = .slice ao n cap ∧ OS W ao n cap ps ∧ (ps.map (·.2.2)).flatten.length + n + 1 ≤ Rows.uptoBulk d := by
  obtain ⟨a0, len, cap, rfl⟩ := okWide_slice Try.underlying22 hv
  obtain ⟨fuel, hf⟩ := h
  exact read_op (x := (d, p)) hf

end Go.Proofs.Ytlpdoefbjhlegaa
