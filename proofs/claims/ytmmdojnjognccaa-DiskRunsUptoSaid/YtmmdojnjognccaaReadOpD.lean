/-
  HOW A SCRIPT OF Op (of the disk's laws) READS, with its bulk.
-/
import Derived.Test.YtmmdojnjognccaaReadIntsN
import Derived.Deep.Strs
namespace Go.Proofs.Ytmmdojnjognccaa
open Go.ChangeShapes Go.WideShapes Go.ChangeAt Go.RowKit Go.Deep

theorem i64_wf {k : Int} (h : (Lit.int .i64 k).wf = true) : -9223372036854775808 ≤ k ∧ k ≤ 9223372036854775807 := by
  simpa [Lit.wf, IntKind.min, IntKind.max, IntKind.signed, IntKind.bits] using h
theorem cell_spot {W : World} {a : Addr} {v : Value} (h : W.cell? a = some v) : a.spot = none := by
  cases hs : a.spot with
  | none => rfl
  | some s => exfalso; unfold World.cell? at h; rw [hs] at h; split at h <;> simp at h
theorem add_zero (a : Addr) : a.add 0 = a := by simp [Addr.add]
theorem trod_struct6 {H : Type} {enc : TypeId × Value → H} {P : Program} {w : World} {base : Nat} {spare : Nat → Bool} {held : Bool} {t : TypeId} {f0 f1 f2 f3 f4 f5 : Field} {fuel : Nat} {cs : List Value} {x : DataW H × List MemPlace} (ht : P.underlying t = some (.struct #[f0, f1, f2, f3, f4, f5])) (h : DataW.trod enc P w base spare held fuel t cs = some x) :
    ∃ y0 y1 y2 y3 y4 y5 n, x = (.agg [y0.1, y1.1, y2.1, y3.1, y4.1, y5.1], y0.2 ++ (y1.2 ++ (y2.2 ++ (y3.2 ++ (y4.2 ++ y5.2))))) ∧ cs.length = P.cellsOf t ∧ DataW.trod enc P w base spare held n f0.type ((cs.drop f0.offset).take (P.cellsOf f0.type)) = some y0 ∧
      DataW.trod enc P w base spare held n f1.type ((cs.drop f1.offset).take (P.cellsOf f1.type)) = some y1 ∧ DataW.trod enc P w base spare held n f2.type ((cs.drop f2.offset).take (P.cellsOf f2.type)) = some y2 ∧
      DataW.trod enc P w base spare held n f3.type ((cs.drop f3.offset).take (P.cellsOf f3.type)) = some y3 ∧ DataW.trod enc P w base spare held n f4.type ((cs.drop f4.offset).take (P.cellsOf f4.type)) = some y4 ∧
      DataW.trod enc P w base spare held n f5.type ((cs.drop f5.offset).take (P.cellsOf f5.type)) = some y5 := by
  obtain ⟨xs, n, _, rfl, hl, hlen, hf⟩ := DataW.trod_struct ht h
  match xs, hlen with
  | [y0, y1, y2, y3, y4, y5], _ => exact ⟨y0, y1, y2, y3, y4, y5, n, by simp, hl, by simpa using hf 0 f0 rfl, by simpa using hf 1 f1 rfl, by simpa using hf 2 f2 rfl, by simpa using hf 3 f3 rfl, by simpa using hf 4 f4 rfl, by simpa using hf 5 f5 rfl⟩

structure OpD where
  k : Int
  name : ByteArray
  dest : ByteArray
  b : List UInt8
  n : Int
  keep : List Int
instance : Inhabited OpD := ⟨⟨0, ByteArray.empty, ByteArray.empty, [], 0, []⟩⟩
/-- What holds of a step read from memory. -/
structure OpOk (o : OpD) (M : Nat) : Prop where
  k : -9223372036854775808 ≤ o.k ∧ o.k ≤ 9223372036854775807
  name : o.name.size ≤ maxLen
  dest : o.dest.size ≤ maxLen
  n : -9223372036854775808 ≤ o.n ∧ o.n ≤ 9223372036854775807
  b : o.b.length + 1 ≤ M
  keep : o.keep.length + 1 ≤ M

/-- A script of steps. -/
structure OS (W : World) (ao : Option Addr) (n cap : Nat) (ps : List OpD) (M : Nat) : Prop where
  len : ps.length = n
  le : n ≤ cap
  max : cap ≤ maxLen
  get : ∀ i (h : i < ps.length), OpOk ps[i] M ∧ ∃ b off bo bm bc ko km kc, ao = some ⟨b, off, none⟩ ∧ b < W.heap.size ∧ W.cell? ⟨b, off + i * 6, none⟩ = some (.int .i64 ps[i].k) ∧ W.cell? ⟨b, off + i * 6 + 1, none⟩ = some (.string ps[i].name) ∧
    W.cell? ⟨b, off + i * 6 + 2, none⟩ = some (.string ps[i].dest) ∧ W.cell? ⟨b, off + i * 6 + 3, none⟩ = some (.slice bo bm bc) ∧ W.cell? ⟨b, off + i * 6 + 4, none⟩ = some (.int .i64 ps[i].n) ∧ W.cell? ⟨b, off + i * 6 + 5, none⟩ = some (.slice ko km kc) ∧
    BS W bo bm bc ps[i].b ∧ IS W ko km kc ps[i].keep

theorem cells_opd : Try.prog.cellsOf 52 = 6 := by kernel_rfl
theorem cells_intsl : Try.prog.cellsOf 32 = 1 := by kernel_rfl
theorem cells_strg : Try.prog.cellsOf 9 = 1 := by kernel_rfl
theorem bulk_mem {H : Type} {x : DataW H} : ∀ {l : List (DataW H)}, x ∈ l → Rows.uptoBulk x ≤ Rows.uptoBulkAll l
  | [], h => by simp at h
  | y :: r, h => by
    simp only [Rows.uptoBulkAll]
    rcases List.mem_cons.1 h with h | h
    · subst h; omega
    · have := bulk_mem h; omega

set_option maxHeartbeats 1000000 in
set_option maxRecDepth 100000 in
theorem read_opd {H : Type} {enc : TypeId × Value → H} {W : World} {held : Bool} {fuel : Nat} {v : Value} {x : DataW H × List MemPlace}
    (h : DataW.trod enc Try.prog W 0 (fun _ => true) held fuel 50 [v] = some x) :
    ∃ ao n cap ps, v = .slice ao n cap ∧ OS W ao n cap ps (Rows.uptoBulk x.1) ∧ n + 1 ≤ Rows.uptoBulk x.1 := by
  rcases open_slice Try.underlying50 h with ⟨hcs, rfl⟩ | ⟨a, len, cap, m, n, D, Pl, hcs, _, hl, hm, hmm, rfl, hx⟩
  · simp at hcs
    subst hcs
    exact ⟨none, 0, 0, [], rfl, ⟨rfl, Nat.le_refl _, by simp [maxLen], fun i h => by simp at h⟩, by simp [Rows.uptoBulk]⟩
  · simp at hcs
    subst hcs
    simp only [if_true] at hmm
    rw [hmm] at hx
    clear hmm
    have each : ∀ i, i < len → ∃ y : OpD, OpOk y (Rows.uptoBulk (D i)) ∧ W.cell? ((a.add (i * 6)).add 0) = some (.int .i64 y.k) ∧ W.cell? ((a.add (i * 6)).add 1) = some (.string y.name) ∧ W.cell? ((a.add (i * 6)).add 2) = some (.string y.dest) ∧
        W.cell? ((a.add (i * 6)).add 4) = some (.int .i64 y.n) ∧ (∃ bo bm bc, W.cell? ((a.add (i * 6)).add 3) = some (.slice bo bm bc) ∧ BS W bo bm bc y.b) ∧ (∃ ko km kc, W.cell? ((a.add (i * 6)).add 5) = some (.slice ko km kc) ∧ IS W ko km kc y.keep) := by
      intro i hi
      obtain ⟨cs, hc, ht⟩ := hx i (by omega)
      rw [cells_opd] at hc
      obtain ⟨-, hcl, hcg⟩ := World.cells?_some hc
      obtain ⟨y0, y1, y2, y3, y4, y5, n', hD, -, hy0, hy1, hy2, hy3, hy4, hy5⟩ := trod_struct6 Try.underlying52 ht
      have hD1 : D i = .agg [y0.1, y1.1, y2.1, y3.1, y4.1, y5.1] := congrArg Prod.fst hD
      match cs, hcl with
      | [u0, u1, u2, u3, u4, u5], _ =>
        rw [cells_int] at hy0 hy4
        rw [cells_strg] at hy1 hy2
        rw [cells_bytes] at hy3
        rw [cells_intsl] at hy5
        obtain ⟨k0, e0, -, w0⟩ := DataW.trod_int Try.underlying3 hy0
        obtain ⟨s1, e1, -, w1⟩ := DataW.trod_string Try.underlying9 hy1
        obtain ⟨s2, e2, -, w2⟩ := DataW.trod_string Try.underlying9 hy2
        obtain ⟨k4, e4, -, w4⟩ := DataW.trod_int Try.underlying3 hy4
        simp at e0 e1 e2 e4
        subst e0 e1 e2 e4
        have hy3' : DataW.trod enc Try.prog W 0 (fun _ => true) held n' 22 [u3] = some y3 := by simpa using hy3
        have hy5' : DataW.trod enc Try.prog W 0 (fun _ => true) held n' 32 [u5] = some y5 := by simpa using hy5
        obtain ⟨bo, bm, bc, l, rfl, hb, hd⟩ := read_bytes hy3'
        obtain ⟨ko, km, kc, kl, rfl, hk, hkd⟩ := read_ints hy5'
        have hbb : l.length + 1 ≤ Rows.uptoBulk y3.1 := by
          have h1 := hb.len
          have h2 := hb.le
          rcases hd with ⟨hd, h0⟩ | ⟨elems, sp, hd, hs⟩
          · have := one_le y3.1; omega
          · rw [hd]; have := slice_le elems sp; omega
        have hkb : kl.length + 1 ≤ Rows.uptoBulk y5.1 := by
          have h1 := hk.len
          have h2 := hk.le
          rcases hkd with ⟨hd, h0⟩ | ⟨elems, sp, hd, hs⟩
          · have := one_le y5.1; omega
          · rw [hd]; have := slice_le elems sp; omega
        refine ⟨⟨k0, s1, s2, l, k4, kl⟩, ⟨i64_wf w0, w1, w2, i64_wf w4, ?_, ?_⟩, hcg 0 (by omega), hcg 1 (by omega), hcg 2 (by omega), hcg 4 (by omega), ⟨bo, bm, bc, hcg 3 (by omega), hb⟩, ⟨ko, km, kc, hcg 5 (by omega), hk⟩⟩
        · show l.length + 1 ≤ _
          rw [hD1]
          simp only [Rows.uptoBulk, Rows.uptoBulkAll]
          omega
        · show kl.length + 1 ≤ _
          rw [hD1]
          simp only [Rows.uptoBulk, Rows.uptoBulkAll]
          omega
    obtain ⟨f, hf⟩ := choose_lt each
    refine ⟨some a, len, cap, (List.range len).map f, rfl, ⟨by simp, hl, hm, fun i hi => ?_⟩, ?_⟩
    · have hi' : i < len := by simpa using hi
      obtain ⟨f1, f2, f3, f4, f5, ⟨bo, bm, bc, f6, f7⟩, ⟨ko, km, kc, f8, f9⟩⟩ := hf i hi'
      have hsp := (hf 0 (by omega)).2.1
      rw [Nat.zero_mul, add_zero, add_zero] at hsp
      have hsp := cell_spot hsp
      obtain ⟨b, off, sp⟩ := a
      simp at hsp
      subst hsp
      simp only [List.getElem_map, List.getElem_range]
      rw [Addr.add_lit, Addr.add_lit] at f2 f3 f4 f5 f6 f8
      have hbu : Rows.uptoBulk (D i) ≤ Rows.uptoBulkAll ((List.range len).map D) := bulk_mem (List.mem_map_of_mem (f := D) (List.mem_range.2 hi'))
      refine ⟨⟨f1.k, f1.name, f1.dest, f1.n, ?_, ?_⟩, b, off, bo, bm, bc, ko, km, kc, rfl, World.block_lt_of_cell? W _ f2, f2, f3, f4, f6, f5, f8, f7, f9⟩
      · have := f1.b
        simp only [Rows.uptoBulk]
        omega
      · have := f1.keep
        simp only [Rows.uptoBulk]
        omega
    · simp only [Rows.uptoBulk]
      have := length_le ((List.range len).map D)
      rw [List.length_map, List.length_range] at this
      omega

set_option maxRecDepth 100000 in
theorem arg_opd {H : Type} {enc : TypeId × Value → H} {W : World} {base : Nat} {v : Value} {d : DataW H} {p : List MemPlace}
    (h : DataW.Trod enc Try.prog W 0 (fun _ => true) true 50 v d p) (hv : Value.okWide Try.prog W .any base 50 v) :
    ∃ ao n cap ps, v = .slice ao n cap ∧ OS W ao n cap ps (Rows.uptoBulk d) ∧ n + 1 ≤ Rows.uptoBulk d := by
  obtain ⟨a0, len, cap, rfl⟩ := okWide_slice Try.underlying50 hv
  obtain ⟨fuel, hf⟩ := h
  exact read_opd (x := (d, p)) hf

end Go.Proofs.Ytmmdojnjognccaa
