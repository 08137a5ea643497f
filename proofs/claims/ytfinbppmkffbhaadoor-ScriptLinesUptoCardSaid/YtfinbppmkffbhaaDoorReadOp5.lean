/-
  HOW AN ARGUMENT READS that is an operation; a slice of texts with its bulk.
-/
import Derived.Test.YtfinbppmkffbhaaDoorReadSS
namespace Go.Proofs.YtfinbppmkffbhaaDoor
open Go.ChangeShapes Go.WideShapes Go.ChangeAt Go.RowKit Go.Deep

theorem cells_i : Tryd.prog.cellsOf 3 = 1 := by kernel_rfl
theorem cells_op5 : Tryd.prog.cellsOf 24 = 5 := by kernel_rfl
theorem trod_struct5 {H : Type} {enc : TypeId × Value → H} {P : Program} {w : World} {base : Nat} {spare : Nat → Bool} {held : Bool} {t : TypeId} {f0 f1 f2 f3 f4 : Field} {fuel : Nat} {cs : List Value} {x : DataW H × List MemPlace} (ht : P.underlying t = some (.struct #[f0, f1, f2, f3, f4])) (h : DataW.trod enc P w base spare held fuel t cs = some x) :
    ∃ y0 y1 y2 y3 y4 n, x = (.agg [y0.1, y1.1, y2.1, y3.1, y4.1], y0.2 ++ (y1.2 ++ (y2.2 ++ (y3.2 ++ y4.2)))) ∧ cs.length = P.cellsOf t ∧ DataW.trod enc P w base spare held n f0.type ((cs.drop f0.offset).take (P.cellsOf f0.type)) = some y0 ∧
      DataW.trod enc P w base spare held n f1.type ((cs.drop f1.offset).take (P.cellsOf f1.type)) = some y1 ∧ DataW.trod enc P w base spare held n f2.type ((cs.drop f2.offset).take (P.cellsOf f2.type)) = some y2 ∧
      DataW.trod enc P w base spare held n f3.type ((cs.drop f3.offset).take (P.cellsOf f3.type)) = some y3 ∧ DataW.trod enc P w base spare held n f4.type ((cs.drop f4.offset).take (P.cellsOf f4.type)) = some y4 := by
  obtain ⟨xs, n, _, rfl, hl, hlen, hf⟩ := DataW.trod_struct ht h
  match xs, hlen with
  | [y0, y1, y2, y3, y4], _ => exact ⟨y0, y1, y2, y3, y4, n, by simp, hl, by simpa using hf 0 f0 rfl, by simpa using hf 1 f1 rfl, by simpa using hf 2 f2 rfl, by simpa using hf 3 f3 rfl, by simpa using hf 4 f4 rfl⟩
theorem wf_i64 {x : Int} (wx : (Lit.int .i64 x).wf = true) : -9223372036854775808 ≤ x ∧ x ≤ 9223372036854775807 := by
  simpa [Lit.wf, IntKind.min, IntKind.max, IntKind.signed, IntKind.bits] using wx
/-- The bounds of a word of 64 bits. -/
def OpB (o : OpV) : Prop := (-9223372036854775808 ≤ o.kind ∧ o.kind ≤ 9223372036854775807) ∧ (-9223372036854775808 ≤ o.reg ∧ o.reg ≤ 9223372036854775807) ∧ (-9223372036854775808 ≤ o.to ∧ o.to ≤ 9223372036854775807) ∧ (-9223372036854775808 ≤ o.re ∧ o.re ≤ 9223372036854775807) ∧ (-9223372036854775808 ≤ o.im ∧ o.im ≤ 9223372036854775807)
set_option maxRecDepth 100000 in
set_option maxHeartbeats 1000000 in
theorem read_op5 {H : Type} {enc : TypeId × Value → H} {W : World} {held : Bool} {fuel : Nat} {cs : List Value} {x : DataW H × List MemPlace}
    (h : DataW.trod enc Tryd.prog W 0 (fun _ => true) held fuel 24 cs = some x) : ∃ o : OpV, cs = [.int .i64 o.kind, .int .i64 o.reg, .int .i64 o.to, .int .i64 o.re, .int .i64 o.im] ∧ OpB o := by
  obtain ⟨y0, y1, y2, y3, y4, n, -, hl, h0, h1, h2, h3, h4⟩ := trod_struct5 Tryd.underlying24 h
  rw [cells_op5] at hl
  match cs, hl with
  | [u0, u1, u2, u3, u4], _ =>
    obtain ⟨k0, e0, -, w0⟩ := DataW.trod_int Tryd.underlying3 h0
    obtain ⟨k1, e1, -, w1⟩ := DataW.trod_int Tryd.underlying3 h1
    obtain ⟨k2, e2, -, w2⟩ := DataW.trod_int Tryd.underlying3 h2
    obtain ⟨k3, e3, -, w3⟩ := DataW.trod_int Tryd.underlying3 h3
    obtain ⟨k4, e4, -, w4⟩ := DataW.trod_int Tryd.underlying3 h4
    rw [cells_i] at e0 e1 e2 e3 e4
    simp at e0 e1 e2 e3 e4
    subst e0 e1 e2 e3 e4
    exact ⟨⟨k0, k1, k2, k3, k4⟩, rfl, wf_i64 w0, wf_i64 w1, wf_i64 w2, wf_i64 w3, wf_i64 w4⟩
set_option maxRecDepth 100000 in
/-- An argument that is an operation. -/
theorem arg_op5 {H : Type} {enc : TypeId × Value → H} {W : World} {base : Nat} {v : Value} {d : DataW H} {p : List MemPlace}
    (h : DataW.Trod enc Tryd.prog W 0 (fun _ => true) true 24 v d p) (hv : Value.okWide Tryd.prog W .any base 24 v) : ∃ o : OpV, v = opV o ∧ OpB o := by
  obtain ⟨cs, rfl, -⟩ := okWide_struct Tryd.underlying24 hv
  obtain ⟨fuel, hf⟩ := h
  obtain ⟨o, hc, hb⟩ := read_op5 hf
  refine ⟨o, ?_, hb⟩
  unfold opV
  congr 1
  apply Array.ext'
  simpa [Value.cells] using hc
theorem mem_bulkAll {H : Type} {d : DataW H} {l : List (DataW H)} (h : d ∈ l) : Rows.uptoBulk d ≤ Rows.uptoBulkAll l := by
  induction l with
  | nil => cases h
  | cons a r ih =>
    rcases List.mem_cons.1 h with rfl | h
    · simp only [Rows.uptoBulkAll]; omega
    · have := ih h
      simp only [Rows.uptoBulkAll]; omega
theorem one_bulk {H : Type} (d : DataW H) : 1 ≤ Rows.uptoBulk d := by
  cases d with
  | lit l => cases l <;> simp [Rows.uptoBulk]
  | nil => simp [Rows.uptoBulk]
  | ptr d => simp [Rows.uptoBulk]
  | slice elems spare => simp [Rows.uptoBulk]
  | agg parts => simp [Rows.uptoBulk]
  | iface t d => simp [Rows.uptoBulk]
  | map entries => simp [Rows.uptoBulk]
  | held t => simp [Rows.uptoBulk]
theorem len_bulkAll {H : Type} (l : List (DataW H)) : l.length ≤ Rows.uptoBulkAll l := by
  induction l with
  | nil => exact Nat.le_refl _
  | cons a r ih =>
    have := one_bulk a
    simp only [Rows.uptoBulkAll, List.length_cons]
    omega
set_option maxRecDepth 100000 in
theorem read_ssU {H : Type} {enc : TypeId × Value → H} {W : World} {held : Bool} {fuel : Nat} {v : Value} {x : DataW H × List MemPlace}
    (h : DataW.trod enc Tryd.prog W 0 (fun _ => true) held fuel 41 [v] = some x) :
    ∃ ao n cap ls, v = .slice ao n cap ∧ SS W ao n cap ls ∧ n + 1 ≤ Rows.uptoBulk x.1 ∧ ∀ l ∈ ls, l.length + 1 ≤ Rows.uptoBulk x.1 := by
  rcases open_slice1 Tryd.underlying41 cells_strg h with ⟨hcs, rfl⟩ | ⟨a, len, cap, m, n, V, D, Pl, hcs, _, hl, hm, hmm, rfl, hx⟩
  · simp at hcs
    subst hcs
    exact ⟨none, 0, 0, [], rfl, ⟨rfl, Nat.le_refl _, by simp [maxLen], Row.nil _ _⟩, one_bulk _, fun l hl => by cases hl⟩
  · simp at hcs
    subst hcs
    simp only [if_true] at hmm
    rw [hmm] at hx
    clear hmm
    have hlb := len_bulkAll ((List.range len).map D)
    rw [List.length_map, List.length_range] at hlb
    have each : ∀ i, i < len → ∃ l : List UInt8, V i = strV l ∧ l.length + 1 ≤ Rows.uptoBulkAll ((List.range len).map D) + 1 := by
      intro i hi
      obtain ⟨s, e, he, -⟩ := DataW.trod_string Tryd.underlying9 (hx i (by omega)).2
      simp at e
      have hD : D i = .lit (.string s.data.toList) := congrArg Prod.fst he
      have hm2 := mem_bulkAll (List.mem_map_of_mem (f := D) (List.mem_range.2 hi))
      rw [hD] at hm2
      simp only [Rows.uptoBulk] at hm2
      exact ⟨s.data.toList, by rw [e]; unfold strV; simp, by omega⟩
    obtain ⟨f, hf⟩ : ∃ f : Nat → List UInt8, ∀ i, i < len → V i = strV (f i) ∧ (f i).length + 1 ≤ Rows.uptoBulkAll ((List.range len).map D) + 1 :=
      ⟨fun i => if hi : i < len then Classical.choose (each i hi) else [], fun i hi => by simp only [dif_pos hi]; exact Classical.choose_spec (each i hi)⟩
    refine ⟨some a, len, cap, (List.range len).map f, rfl, ⟨by simp, hl, hm, ?_⟩, by simp only [Rows.uptoBulk]; omega, ?_⟩
    · by_cases h0 : len = 0
      · left; simp [h0, sv]
      · have hc0 := (hx 0 (by omega)).1
        have hsp : a.spot = none := by
          have := hc0
          simp only [Addr.add, if_true] at this
          cases hs : a.spot with
          | none => rfl
          | some s => exfalso; unfold World.cell? at this; rw [hs] at this; split at this <;> simp at this
        obtain ⟨b, off, sp⟩ := a
        simp at hsp
        subst hsp
        refine Or.inr ⟨b, off, rfl, fun i hi => ?_⟩
        have hi' : i < len := by simpa [sv] using hi
        have hc := (hx i (by omega)).1
        rw [Addr.add_lit] at hc
        rw [hc, (hf i hi').1]
        simp [sv]
    · intro l hl2
      obtain ⟨i, hi, rfl⟩ := List.mem_map.1 hl2
      have := (hf i (by simpa using hi)).2
      simp only [Rows.uptoBulk]
      omega
set_option maxRecDepth 100000 in
theorem arg_ssU {H : Type} {enc : TypeId × Value → H} {W : World} {base : Nat} {v : Value} {d : DataW H} {p : List MemPlace}
    (h : DataW.Trod enc Tryd.prog W 0 (fun _ => true) true 41 v d p) (hv : Value.okWide Tryd.prog W .any base 41 v) :
    ∃ ao n cap ls, v = .slice ao n cap ∧ SS W ao n cap ls ∧ n + 1 ≤ Rows.uptoBulk d ∧ ∀ l ∈ ls, l.length + 1 ≤ Rows.uptoBulk d := by
  obtain ⟨a0, len, cap, rfl⟩ := okWide_slice Tryd.underlying41 hv
  obtain ⟨fuel, hf⟩ := h
  exact read_ssU (x := (d, p)) hf

end Go.Proofs.YtfinbppmkffbhaaDoor
