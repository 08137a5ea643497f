/-
  HOW AN ARGUMENT READS that is a command.
-/
import Derived.Test.YtfinbppmkffbhaaDoorReadOp5
import Derived.Test.YtfinbppmkffbhaaDoorScriptH0
namespace Go.Proofs.YtfinbppmkffbhaaDoor
open Go.ChangeShapes Go.WideShapes Go.ChangeAt Go.RowKit Go.Deep

theorem slice_bulk {H : Type} (elems spare : List (DataW H)) : elems.length + spare.length + 1 ≤ Rows.uptoBulk (.slice elems spare) := by
  have h1 := len_bulkAll elems
  have h2 := len_bulkAll spare
  simp only [Rows.uptoBulk]
  omega
theorem cells_u8c : Tryd.prog.cellsOf 5 = 1 := by kernel_rfl
theorem cells_cmd : Tryd.prog.cellsOf 27 = 8 := by kernel_rfl
theorem cells_slb : Tryd.prog.cellsOf 25 = 1 := by kernel_rfl
theorem cells_sli : Tryd.prog.cellsOf 22 = 1 := by kernel_rfl
theorem spot_none {w : World} {a : Addr} {v : Value} (h : w.cell? (a.add 0) = some v) : a.spot = none := by
  simp only [Addr.add, if_true] at h
  cases hs : a.spot with
  | none => rfl
  | some s => exfalso; unfold World.cell? at h; rw [hs] at h; split at h <;> simp at h
theorem read_is {H : Type} {enc : TypeId × Value → H} {W : World} {held : Bool} {fuel : Nat} {v : Value} {x : DataW H × List MemPlace}
    (h : DataW.trod enc Tryd.prog W 0 (fun _ => true) held fuel 22 [v] = some x) :
    ∃ ao n cap l, v = .slice ao n cap ∧ IS W ao n cap l ∧ n + 1 ≤ Rows.uptoBulk x.1 ∧ ∀ z ∈ l, -9223372036854775808 ≤ z ∧ z ≤ 9223372036854775807 := by
  rcases open_ints Tryd.underlying22 Tryd.underlying3 cells_i h with ⟨hcs, rfl⟩ | ⟨a, len, cap, zs, hcs, _, hl, hm, hz, rfl, hcell, hwz⟩
  · simp at hcs
    subst hcs
    exact ⟨none, 0, 0, [], rfl, IS.nil _ _, one_bulk _, fun z hz => by cases hz⟩
  · simp at hcs
    subst hcs
    simp only [if_true] at hz
    refine ⟨some a, len, cap, zs.take len, rfl, ⟨by rw [List.length_take]; omega, hl, hm, ?_⟩, ?_, fun z hz2 => wf_i64 (hwz z (List.mem_of_mem_take hz2))⟩
    · by_cases h0 : len = 0
      · left; simp [h0]
      · have hsp := spot_none (hcell 0 (by omega))
        obtain ⟨b, off, sp⟩ := a
        simp at hsp
        subst hsp
        refine Or.inr ⟨b, off, rfl, fun i hi => ?_⟩
        have hi' : i < zs.length := by simp at hi; omega
        have hc := hcell i hi'
        rw [Addr.add_lit] at hc
        rw [hc]
        simp [hi']
    · refine Nat.le_trans ?_ (slice_bulk _ _)
      simp only [lits, List.length_map, List.length_take, List.length_drop]
      omega
theorem read_bs {H : Type} {enc : TypeId × Value → H} {W : World} {held : Bool} {fuel : Nat} {v : Value} {x : DataW H × List MemPlace}
    (h : DataW.trod enc Tryd.prog W 0 (fun _ => true) held fuel 25 [v] = some x) :
    ∃ ao n cap l, v = .slice ao n cap ∧ BS W ao n cap l ∧ n + 1 ≤ Rows.uptoBulk x.1 := by
  rcases open_ints Tryd.underlying25 Tryd.underlying5 cells_u8c h with ⟨hcs, rfl⟩ | ⟨a, len, cap, zs, hcs, _, hl, hm, hz, rfl, hcell, hwz⟩
  · simp at hcs
    subst hcs
    exact ⟨none, 0, 0, [], rfl, ⟨rfl, Nat.le_refl _, by simp [maxLen], Row.nil _ _⟩, one_bulk _⟩
  · simp at hcs
    subst hcs
    simp only [if_true] at hz
    refine ⟨some a, len, cap, (zs.take len).map (fun z => UInt8.ofNat z.toNat), rfl, ⟨by rw [List.length_map, List.length_take]; omega, hl, hm, ?_⟩, ?_⟩
    · by_cases h0 : len = 0
      · left; simp [h0, bv]
      · have hsp := spot_none (hcell 0 (by omega))
        obtain ⟨b, off, sp⟩ := a
        simp at hsp
        subst hsp
        refine Or.inr ⟨b, off, rfl, fun i hi => ?_⟩
        have hi' : i < zs.length := by simp [bv] at hi; omega
        have hc := hcell i hi'
        rw [Addr.add_lit] at hc
        rw [hc]
        have hw := hwz (zs[i]) (List.getElem_mem hi')
        have hw2 := bounds_u8 hw
        simp [bv, U8, hi']
        omega
    · refine Nat.le_trans ?_ (slice_bulk _ _)
      simp only [lits, List.length_map, List.length_take, List.length_drop]
      omega
theorem trod_struct4 {H : Type} {enc : TypeId × Value → H} {P : Program} {w : World} {base : Nat} {spare : Nat → Bool} {held : Bool} {t : TypeId} {f0 f1 f2 f3 : Field} {fuel : Nat} {cs : List Value} {x : DataW H × List MemPlace} (ht : P.underlying t = some (.struct #[f0, f1, f2, f3])) (h : DataW.trod enc P w base spare held fuel t cs = some x) :
    ∃ y0 y1 y2 y3 n, x = (.agg [y0.1, y1.1, y2.1, y3.1], y0.2 ++ (y1.2 ++ (y2.2 ++ y3.2))) ∧ cs.length = P.cellsOf t ∧ DataW.trod enc P w base spare held n f0.type ((cs.drop f0.offset).take (P.cellsOf f0.type)) = some y0 ∧
      DataW.trod enc P w base spare held n f1.type ((cs.drop f1.offset).take (P.cellsOf f1.type)) = some y1 ∧ DataW.trod enc P w base spare held n f2.type ((cs.drop f2.offset).take (P.cellsOf f2.type)) = some y2 ∧
      DataW.trod enc P w base spare held n f3.type ((cs.drop f3.offset).take (P.cellsOf f3.type)) = some y3 := by
  obtain ⟨xs, n, _, rfl, hl, hlen, hf⟩ := DataW.trod_struct ht h
  match xs, hlen with
  | [y0, y1, y2, y3], _ => exact ⟨y0, y1, y2, y3, n, by simp, hl, by simpa using hf 0 f0 rfl, by simpa using hf 1 f1 rfl, by simpa using hf 2 f2 rfl, by simpa using hf 3 f3 rfl⟩
set_option maxRecDepth 100000 in
set_option maxHeartbeats 1000000 in
/-- An argument that is a command. -/
theorem arg_cmd {H : Type} {enc : TypeId × Value → H} {W : World} {base : Nat} {v : Value} {d : DataW H} {p : List MemPlace}
    (h : DataW.Trod enc Tryd.prog W 0 (fun _ => true) true 27 v d p) (hv : Value.okWide Tryd.prog W .any base 27 v) (hb : Rows.uptoBulk d ≤ 1048576) : ∃ c l, v = cmdV c l ∧ CmdAt W c l ∧ c.verb.length ≤ 1048576 ∧ c.data.length ≤ 1048576 := by
  obtain ⟨cs, rfl, -⟩ := okWide_struct Tryd.underlying27 hv
  obtain ⟨fuel, hf⟩ := h
  obtain ⟨y0, y1, y2, y3, n, hD, hl, h0, h1, h2, h3⟩ := trod_struct4 Tryd.underlying27 hf
  obtain rfl : d = .agg [y0.1, y1.1, y2.1, y3.1] := congrArg Prod.fst hD
  simp only [Rows.uptoBulk, Rows.uptoBulkAll] at hb
  rw [cells_cmd] at hl
  obtain ⟨cl, hcl⟩ : ∃ cl, (Value.agg cs).cells.toList = cl := ⟨_, rfl⟩
  rw [hcl] at hl h0 h1 h2 h3
  have hcs : cs.toList = cl := by simpa [Value.cells] using hcl
  match cl, hl with
  | [u0, u1, u2, u3, u4, u5, u6, u7], _ =>
    rw [cells_strg] at h0
    rw [cells_sli] at h1
    rw [cells_op5] at h2
    rw [cells_slb] at h3
    obtain ⟨s, e0, he0, -⟩ := DataW.trod_string Tryd.underlying9 h0
    obtain ⟨ao, m, cap, ns, e1, hi, hbi, hzs⟩ := read_is (v := u1) (by simpa using h1)
    obtain ⟨o, e2, ho⟩ := read_op5 h2
    obtain ⟨bo, k, bc, ds, e3, hbs, hbb⟩ := read_bs (v := u7) (by simpa using h3)
    simp at e0 e2
    have hy0 : y0.1 = .lit (.string s.data.toList) := congrArg Prod.fst he0
    rw [hy0] at hb
    simp only [Rows.uptoBulk] at hb
    obtain ⟨rfl, rfl, rfl, rfl, rfl⟩ := e2
    subst e0 e1 e3
    have l1 := hi.len
    have l2 := hbs.len
    subst l1 l2
    refine ⟨⟨s.data.toList, ns, o, ds⟩, ⟨ao, cap, bo, bc⟩, ?_, ⟨hi, hbs, by show s.data.toList.length ≤ _; omega, by show ds.length ≤ _; omega, by show ns.length ≤ _; omega, hzs, ho⟩, by show s.data.toList.length ≤ _; omega, by show ds.length ≤ _; omega⟩
    unfold cmdV cmdCs strV
    congr 1
    apply Array.ext'
    rw [hcs]

end Go.Proofs.YtfinbppmkffbhaaDoor
