/-
  HOW A LIST OF AREAS READS, with its bulk.
-/
import Derived.Test.YtmmdojnjognccaaRefPlain
import Derived.Test.YtmmdojnjognccaaReadN
import Derived.Test.YtmmdojnjognccaaApartLaw
namespace Go.Proofs.Ytmmdojnjognccaa
open Go.ChangeShapes Go.WideShapes Go.ChangeAt Go.RowKit Go.Deep

theorem trod_struct3 {H : Type} {enc : TypeId × Value → H} {P : Program} {w : World} {base : Nat} {spare : Nat → Bool} {held : Bool} {t : TypeId} {f0 f1 f2 : Field} {fuel : Nat} {cs : List Value} {x : DataW H × List MemPlace} (ht : P.underlying t = some (.struct #[f0, f1, f2])) (h : DataW.trod enc P w base spare held fuel t cs = some x) :
    ∃ y0 y1 y2 n, x = (.agg [y0.1, y1.1, y2.1], y0.2 ++ (y1.2 ++ y2.2)) ∧ cs.length = P.cellsOf t ∧ DataW.trod enc P w base spare held n f0.type ((cs.drop f0.offset).take (P.cellsOf f0.type)) = some y0 ∧
      DataW.trod enc P w base spare held n f1.type ((cs.drop f1.offset).take (P.cellsOf f1.type)) = some y1 ∧ DataW.trod enc P w base spare held n f2.type ((cs.drop f2.offset).take (P.cellsOf f2.type)) = some y2 := by
  obtain ⟨xs, n, _, rfl, hl, hlen, hf⟩ := DataW.trod_struct ht h
  match xs, hlen with
  | [y0, y1, y2], _ => exact ⟨y0, y1, y2, n, by simp, hl, by simpa using hf 0 f0 rfl, by simpa using hf 1 f1 rfl, by simpa using hf 2 f2 rfl⟩
theorem cells_area : Try.prog.cellsOf 46 = 3 := by kernel_rfl

set_option maxHeartbeats 1000000 in
set_option maxRecDepth 100000 in
theorem read_as {H : Type} {enc : TypeId × Value → H} {W : World} {held : Bool} {fuel : Nat} {v : Value} {x : DataW H × List MemPlace}
    (h : DataW.trod enc Try.prog W 0 (fun _ => true) held fuel 38 [v] = some x) :
    ∃ ao n cap L, v = .slice ao n cap ∧ AS W ao n cap L ∧ n + 1 ≤ Rows.uptoBulk x.1 ∧ ∀ y ∈ L, y.1.size ≤ maxLen ∧ y.2.data.length + 1 ≤ Rows.uptoBulk x.1 := by
  rcases open_slice Try.underlying38 h with ⟨hcs, rfl⟩ | ⟨a, len, cap, m, n, D, Pl, hcs, _, hl, hm, hmm, rfl, hx⟩
  · simp at hcs
    subst hcs
    exact ⟨none, 0, 0, [], rfl, ⟨rfl, Nat.le_refl _, by simp [maxLen], fun i h => by simp at h⟩, by simp [Rows.uptoBulk], fun y hy => by simp at hy⟩
  · simp at hcs
    subst hcs
    simp only [if_true] at hmm
    rw [hmm] at hx
    clear hmm
    have each : ∀ i, i < len → ∃ y : ByteArray × AreaP, (y.1.size ≤ maxLen ∧ y.2.data.length + 1 ≤ Rows.uptoBulk (D i)) ∧ W.cell? ((a.add (i * 3)).add 0) = some (.string y.1) ∧ W.cell? ((a.add (i * 3)).add 2) = some (.int .i64 y.2.safe) ∧
        (∃ bo bm bc, W.cell? ((a.add (i * 3)).add 1) = some (.slice bo bm bc) ∧ BS W bo bm bc y.2.data) := by
      intro i hi
      obtain ⟨cs, hc, ht⟩ := hx i (by omega)
      rw [cells_area] at hc
      obtain ⟨-, hcl, hcg⟩ := World.cells?_some hc
      obtain ⟨y0, y1, y2, n', hD, -, hy0, hy1, hy2⟩ := trod_struct3 Try.underlying46 ht
      have hD1 : D i = .agg [y0.1, y1.1, y2.1] := congrArg Prod.fst hD
      match cs, hcl with
      | [u0, u1, u2], _ =>
        rw [cells_strg] at hy0
        rw [cells_bytes] at hy1
        rw [cells_int] at hy2
        obtain ⟨s0, e0, -, w0⟩ := DataW.trod_string Try.underlying9 hy0
        obtain ⟨k2, e2, -, w2⟩ := DataW.trod_int Try.underlying3 hy2
        simp at e0 e2
        subst e0 e2
        have hy1' : DataW.trod enc Try.prog W 0 (fun _ => true) held n' 22 [u1] = some y1 := by simpa using hy1
        obtain ⟨bo, bm, bc, l, rfl, hb, hd⟩ := read_bytes hy1'
        have hbb : l.length + 1 ≤ Rows.uptoBulk y1.1 := by
          have h1 := hb.len
          have h2 := hb.le
          rcases hd with ⟨hd, h0⟩ | ⟨elems, sp, hd, hs⟩
          · have := one_le y1.1; omega
          · rw [hd]; have := slice_le elems sp; omega
        refine ⟨(s0, ⟨l, k2⟩), ⟨w0, ?_⟩, hcg 0 (by omega), hcg 2 (by omega), ⟨bo, bm, bc, hcg 1 (by omega), hb⟩⟩
        show l.length + 1 ≤ _
        rw [hD1]
        simp only [Rows.uptoBulk, Rows.uptoBulkAll]
        omega
    obtain ⟨f, hf⟩ : ∃ f : Nat → ByteArray × AreaP, ∀ i, i < len → ((f i).1.size ≤ maxLen ∧ (f i).2.data.length + 1 ≤ Rows.uptoBulk (D i)) ∧ W.cell? ((a.add (i * 3)).add 0) = some (.string (f i).1) ∧ W.cell? ((a.add (i * 3)).add 2) = some (.int .i64 (f i).2.safe) ∧
        (∃ bo bm bc, W.cell? ((a.add (i * 3)).add 1) = some (.slice bo bm bc) ∧ BS W bo bm bc (f i).2.data) :=
      ⟨fun i => if hi : i < len then Classical.choose (each i hi) else (ByteArray.empty, ⟨[], 0⟩), fun i hi => by simp only [dif_pos hi]; exact Classical.choose_spec (each i hi)⟩
    refine ⟨some a, len, cap, (List.range len).map f, rfl, ⟨by simp, hl, hm, fun i hi => ?_⟩, ?_, fun y hy => ?_⟩
    · have hi' : i < len := by simpa using hi
      obtain ⟨f1, f2, f3, ⟨bo, bm, bc, f6, f7⟩⟩ := hf i hi'
      have hsp := (hf 0 (by omega)).2.1
      rw [Nat.zero_mul, add_zero, add_zero] at hsp
      have hsp := cell_spot hsp
      obtain ⟨b, off, sp⟩ := a
      simp at hsp
      subst hsp
      simp only [List.getElem_map, List.getElem_range]
      rw [Addr.add_lit, Addr.add_lit] at f2 f3 f6
      exact ⟨b, off, bo, bm, bc, rfl, World.block_lt_of_cell? W _ f2, f2, f6, f3, f7⟩
    · simp only [Rows.uptoBulk]
      have := length_le ((List.range len).map D)
      rw [List.length_map, List.length_range] at this
      omega
    · obtain ⟨i, hi, rfl⟩ := List.mem_map.1 hy
      have hi' : i < len := by simpa using hi
      obtain ⟨f1, -⟩ := hf i hi'
      have hbu : Rows.uptoBulk (D i) ≤ Rows.uptoBulkAll ((List.range len).map D) := bulk_mem (List.mem_map_of_mem (f := D) (List.mem_range.2 hi'))
      refine ⟨f1.1, ?_⟩
      have := f1.2
      simp only [Rows.uptoBulk]
      omega

set_option maxRecDepth 100000 in
theorem arg_as {H : Type} {enc : TypeId × Value → H} {W : World} {base : Nat} {v : Value} {d : DataW H} {p : List MemPlace}
    (h : DataW.Trod enc Try.prog W 0 (fun _ => true) true 38 v d p) (hv : Value.okWide Try.prog W .any base 38 v) :
    ∃ ao n cap L, v = .slice ao n cap ∧ AS W ao n cap L ∧ n + 1 ≤ Rows.uptoBulk d ∧ ∀ y ∈ L, y.1.size ≤ maxLen ∧ y.2.data.length + 1 ≤ Rows.uptoBulk d := by
  obtain ⟨a0, len, cap, rfl⟩ := okWide_slice Try.underlying38 hv
  obtain ⟨fuel, hf⟩ := h
  exact read_as (x := (d, p)) hf

end Go.Proofs.Ytmmdojnjognccaa
