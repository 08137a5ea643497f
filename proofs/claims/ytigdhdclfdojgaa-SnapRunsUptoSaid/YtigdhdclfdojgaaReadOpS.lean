/-
  HOW A SCRIPT OF synodlaw10.Op READS, with its bulk (printed by readop.py).
-/
import Derived.Test.YtigdhdclfdojgaaRead8
namespace Go.Proofs.Ytigdhdclfdojgaa
open Go.ChangeShapes Go.WideShapes Go.ChangeAt Go.RowKit Go.Deep

theorem trod_opS {H : Type} {enc : TypeId × Value → H} {P : Program} {w : World} {base : Nat} {spare : Nat → Bool} {held : Bool} {t : TypeId} {f0 f1 f2 f3 : Field} {fuel : Nat} {cs : List Value} {x : DataW H × List MemPlace} (ht : P.underlying t = some (.struct #[f0, f1, f2, f3])) (h : DataW.trod enc P w base spare held fuel t cs = some x) :
    ∃ y0 y1 y2 y3 n, x = (.agg [y0.1, y1.1, y2.1, y3.1], y0.2 ++ (y1.2 ++ (y2.2 ++ (y3.2)))) ∧ cs.length = P.cellsOf t ∧ DataW.trod enc P w base spare held n f0.type ((cs.drop f0.offset).take (P.cellsOf f0.type)) = some y0 ∧ DataW.trod enc P w base spare held n f1.type ((cs.drop f1.offset).take (P.cellsOf f1.type)) = some y1 ∧ DataW.trod enc P w base spare held n f2.type ((cs.drop f2.offset).take (P.cellsOf f2.type)) = some y2 ∧ DataW.trod enc P w base spare held n f3.type ((cs.drop f3.offset).take (P.cellsOf f3.type)) = some y3 := by
  obtain ⟨xs, n, _, rfl, hl, hlen, hf⟩ := DataW.trod_struct ht h
  match xs, hlen with
  | [y0, y1, y2, y3], _ => exact ⟨y0, y1, y2, y3, n, by simp, hl, by simpa using hf 0 f0 rfl, by simpa using hf 1 f1 rfl, by simpa using hf 2 f2 rfl, by simpa using hf 3 f3 rfl⟩

structure OpS where
  k : Int
  n : Int
  b : List UInt8
  keep : List Int
instance : Inhabited OpS := ⟨⟨0, 0, [], []⟩⟩
/-- What holds of a step read from memory. -/
structure OpSOk (o : OpS) (M : Nat) : Prop where
  k : -9223372036854775808 ≤ o.k ∧ o.k ≤ 9223372036854775807
  n : -9223372036854775808 ≤ o.n ∧ o.n ≤ 9223372036854775807
  b : o.b.length + 1 ≤ M
  keep : o.keep.length + 1 ≤ M
theorem OpSOk.mono {o : OpS} {M N : Nat} (h : OpSOk o M) (hn : M ≤ N) : OpSOk o N := ⟨h.k, h.n, by have := h.b; omega, by have := h.keep; omega⟩
/-- A script of steps. -/
structure OpSS (W : World) (ao : Option Addr) (n cap : Nat) (ps : List OpS) (M : Nat) : Prop where
  len : ps.length = n
  le : n ≤ cap
  max : cap ≤ maxLen
  get : ∀ i (h : i < ps.length), OpSOk ps[i] M ∧ ∃ b off o2 m2 c2 o3 m3 c3, ao = some ⟨b, off, none⟩ ∧ b < W.heap.size ∧ W.cell? ⟨b, off + i * 4, none⟩ = some (.int .i64 ps[i].k) ∧ W.cell? ⟨b, off + i * 4 + 1, none⟩ = some (.int .i64 ps[i].n) ∧ W.cell? ⟨b, off + i * 4 + 2, none⟩ = some (.slice o2 m2 c2) ∧ W.cell? ⟨b, off + i * 4 + 3, none⟩ = some (.slice o3 m3 c3) ∧ BS W o2 m2 c2 ps[i].b ∧ IS W o3 m3 c3 ps[i].keep
theorem OpSS.mono {W : World} {ao : Option Addr} {n cap : Nat} {ps : List OpS} {M N : Nat} (h : OpSS W ao n cap ps M) (hn : M ≤ N) : OpSS W ao n cap ps N := ⟨h.len, h.le, h.max, fun i hi => ⟨(h.get i hi).1.mono hn, (h.get i hi).2⟩⟩

theorem cells_opS : Try.prog.cellsOf 56 = 4 := by kernel_rfl
set_option maxHeartbeats 1000000 in
set_option maxRecDepth 100000 in
theorem read_opS {H : Type} {enc : TypeId × Value → H} {W : World} {held : Bool} {fuel : Nat} {v : Value} {x : DataW H × List MemPlace}
    (h : DataW.trod enc Try.prog W 0 (fun _ => true) held fuel 49 [v] = some x) :
    ∃ ao n cap ps, v = .slice ao n cap ∧ OpSS W ao n cap ps (Rows.uptoBulk x.1) ∧ n + 1 ≤ Rows.uptoBulk x.1 := by
  rcases open_slice Try.underlying49 h with ⟨hcs, rfl⟩ | ⟨a, len, cap, m, n, D, Pl, hcs, _, hl, hm, hmm, rfl, hx⟩
  · simp at hcs
    subst hcs
    exact ⟨none, 0, 0, [], rfl, ⟨rfl, Nat.le_refl _, by simp [maxLen], fun i h => by simp at h⟩, by simp [Rows.uptoBulk]⟩
  · simp at hcs
    subst hcs
    simp only [if_true] at hmm
    rw [hmm] at hx
    clear hmm
    have each : ∀ i, i < len → ∃ y : OpS, OpSOk y (Rows.uptoBulk (D i)) ∧ W.cell? ((a.add (i * 4)).add 0) = some (.int .i64 y.k) ∧ W.cell? ((a.add (i * 4)).add 1) = some (.int .i64 y.n) ∧ (∃ o m c, W.cell? ((a.add (i * 4)).add 2) = some (.slice o m c) ∧ BS W o m c y.b) ∧ (∃ o m c, W.cell? ((a.add (i * 4)).add 3) = some (.slice o m c) ∧ IS W o m c y.keep) := by
      intro i hi
      obtain ⟨cs, hc, ht⟩ := hx i (by omega)
      rw [cells_opS] at hc
      obtain ⟨-, hcl, hcg⟩ := World.cells?_some hc
      obtain ⟨y0, y1, y2, y3, n', hD, -, hy0, hy1, hy2, hy3⟩ := trod_opS Try.underlying56 ht
      have hD1 : D i = .agg [y0.1, y1.1, y2.1, y3.1] := congrArg Prod.fst hD
      match cs, hcl with
      | [u0, u1, u2, u3], _ =>
        rw [cells_int] at hy0
        rw [cells_int] at hy1
        rw [cells_bytes] at hy2
        rw [cells_intsl] at hy3
        obtain ⟨k0, e0, -, w0⟩ := DataW.trod_int Try.underlying3 hy0
        simp at e0
        subst e0
        obtain ⟨k1, e1, -, w1⟩ := DataW.trod_int Try.underlying3 hy1
        simp at e1
        subst e1
        have hz2 : DataW.trod enc Try.prog W 0 (fun _ => true) held n' 22 [u2] = some y2 := by simpa using hy2
        obtain ⟨o2, m2, c2, l2, rfl, hb2, hd2⟩ := read_bytes hz2
        have hbb2 : l2.length + 1 ≤ Rows.uptoBulk y2.1 := by
          have h1 := hb2.len
          have h2 := hb2.le
          rcases hd2 with ⟨hd, h0⟩ | ⟨elems, sp, hd, hs⟩
          · have := one_le y2.1; omega
          · rw [hd]; have := slice_le elems sp; omega
        have hz3 : DataW.trod enc Try.prog W 0 (fun _ => true) held n' 45 [u3] = some y3 := by simpa using hy3
        obtain ⟨o3, m3, c3, l3, rfl, hb3, hd3⟩ := read_ints hz3
        have hbb3 : l3.length + 1 ≤ Rows.uptoBulk y3.1 := by
          have h1 := hb3.len
          have h2 := hb3.le
          rcases hd3 with ⟨hd, h0⟩ | ⟨elems, sp, hd, hs⟩
          · have := one_le y3.1; omega
          · rw [hd]; have := slice_le elems sp; omega
        refine ⟨⟨k0, k1, l2, l3⟩, ⟨i64_wf w0, i64_wf w1, ?_, ?_⟩, hcg 0 (by omega), hcg 1 (by omega), ⟨o2, m2, c2, hcg 2 (by omega), hb2⟩, ⟨o3, m3, c3, hcg 3 (by omega), hb3⟩⟩
        · show l2.length + 1 ≤ _
          rw [hD1]
          simp only [Rows.uptoBulk, Rows.uptoBulkAll]
          omega
        · show l3.length + 1 ≤ _
          rw [hD1]
          simp only [Rows.uptoBulk, Rows.uptoBulkAll]
          omega
    obtain ⟨f, hf⟩ := choose_lt each
    refine ⟨some a, len, cap, (List.range len).map f, rfl, ⟨by simp, hl, hm, fun i hi => ?_⟩, ?_⟩
    · have hi' : i < len := by simpa using hi
      obtain ⟨q, g0, g1, ⟨o2, m2, c2, g2, h2⟩, ⟨o3, m3, c3, g3, h3⟩⟩ := hf i hi'
      have hsp := (hf 0 (by omega)).2.1
      rw [Nat.zero_mul, add_zero, add_zero] at hsp
      have hsp := cell_spot hsp
      obtain ⟨b, off, sp⟩ := a
      simp at hsp
      subst hsp
      simp only [List.getElem_map, List.getElem_range]
      rw [Addr.add_lit, Addr.add_lit] at g0 g1 g2 g3
      have hbu : Rows.uptoBulk (D i) ≤ Rows.uptoBulkAll ((List.range len).map D) := bulk_mem (List.mem_map_of_mem (f := D) (List.mem_range.2 hi'))
      refine ⟨q.mono (by simp only [Rows.uptoBulk]; omega), b, off, o2, m2, c2, o3, m3, c3, rfl, World.block_lt_of_cell? W _ g0, g0, g1, g2, g3, h2, h3⟩
    · simp only [Rows.uptoBulk]
      have := length_le ((List.range len).map D)
      rw [List.length_map, List.length_range] at this
      omega

set_option maxRecDepth 100000 in
theorem arg_opS {H : Type} {enc : TypeId × Value → H} {W : World} {base : Nat} {v : Value} {d : DataW H} {p : List MemPlace}
    (h : DataW.Trod enc Try.prog W 0 (fun _ => true) true 49 v d p) (hv : Value.okWide Try.prog W .any base 49 v) :
    ∃ ao n cap ps, v = .slice ao n cap ∧ OpSS W ao n cap ps (Rows.uptoBulk d) ∧ n + 1 ≤ Rows.uptoBulk d := by
  obtain ⟨a0, len, cap, rfl⟩ := okWide_slice Try.underlying49 hv
  obtain ⟨fuel, hf⟩ := h
  exact read_opS (x := (d, p)) hf

end Go.Proofs.Ytigdhdclfdojgaa
