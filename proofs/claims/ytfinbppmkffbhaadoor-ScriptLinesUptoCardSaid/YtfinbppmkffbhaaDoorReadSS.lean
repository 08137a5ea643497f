/-
  HOW AN ARGUMENT READS that is a slice of texts.
-/
import Derived.Test.YtfinbppmkffbhaaDoorReadI
import Derived.Test.YtfinbppmkffbhaaDoorScriptD0
namespace Go.Proofs.YtfinbppmkffbhaaDoor
open Go.ChangeShapes Go.WideShapes Go.ChangeAt Go.RowKit Go.Deep

theorem cells_strg : Tryd.prog.cellsOf 9 = 1 := by kernel_rfl
theorem bytes_strg : Tryd.prog.bytesOf 9 = 16 := by kernel_rfl
theorem weightsAll_mem {H : Type} {P : Program} {e : TypeId} {d : DataW H} {n : Nat} : ∀ (l : List (DataW H)), d ∈ l → n ∈ d.weights P e → n ∈ DataW.weightsAll P e l
  | [], h, _ => by cases h
  | a :: r, h, hn => by
    rw [DataW.weightsAll, List.mem_append]
    rcases List.mem_cons.1 h with rfl | h
    · exact Or.inl hn
    · exact Or.inr (weightsAll_mem r h hn)
set_option maxRecDepth 100000 in
theorem read_ss {H : Type} {enc : TypeId × Value → H} {W : World} {held : Bool} {fuel : Nat} {v : Value} {x : DataW H × List MemPlace}
    (h : DataW.trod enc Tryd.prog W 0 (fun _ => true) held fuel 41 [v] = some x) (hw : ∀ n ∈ x.1.weights Tryd.prog 41, n ≤ reachBytes) :
    ∃ ao n cap ls, v = .slice ao n cap ∧ SS W ao n cap ls ∧ n ≤ 140737488351232 ∧ ∀ l ∈ ls, l.length ≤ 140737488351232 := by
  rcases open_slice1 Tryd.underlying41 cells_strg h with ⟨hcs, rfl⟩ | ⟨a, len, cap, m, n, V, D, Pl, hcs, _, hl, hm, hmm, rfl, hx⟩
  · simp at hcs
    subst hcs
    exact ⟨none, 0, 0, [], rfl, ⟨rfl, Nat.le_refl _, by simp [maxLen], Row.nil _ _⟩, by omega, fun l hl => by cases hl⟩
  · simp at hcs
    subst hcs
    simp only [if_true] at hmm
    rw [hmm] at hx
    clear hmm
    simp only [DataW.weights, Tryd.underlying41] at hw
    have hr : reachBytes = 140737488351232 := rfl
    have hw0 := hw _ (List.mem_cons_self ..)
    rw [bytes_strg] at hw0
    simp at hw0
    have each : ∀ i, i < len → ∃ l : List UInt8, V i = strV l ∧ l.length ≤ 140737488351232 := by
      intro i hi
      obtain ⟨s, e, he, -⟩ := DataW.trod_string Tryd.underlying9 (hx i (by omega)).2
      simp at e
      have hD : D i = .lit (.string s.data.toList) := congrArg Prod.fst he
      have hm2 := hw s.data.toList.length (List.mem_cons_of_mem _ (List.mem_append_left _ (weightsAll_mem (d := D i) _ (List.mem_map_of_mem (f := D) (List.mem_range.2 hi)) (by rw [hD]; simp [DataW.weights]))))
      exact ⟨s.data.toList, by rw [e]; unfold strV; simp, by rw [← hr]; exact hm2⟩
    obtain ⟨f, hf⟩ : ∃ f : Nat → List UInt8, ∀ i, i < len → V i = strV (f i) ∧ (f i).length ≤ 140737488351232 :=
      ⟨fun i => if hi : i < len then Classical.choose (each i hi) else [], fun i hi => by simp only [dif_pos hi]; exact Classical.choose_spec (each i hi)⟩
    refine ⟨some a, len, cap, (List.range len).map f, rfl, ⟨by simp, hl, hm, ?_⟩, by omega, ?_⟩
    · by_cases h0 : len = 0
      · left; simp [h0, sv]
      · have hc0 := (hx 0 (by omega)).1
        have hsp : a.spot = none := by
          have := hc0
          simp only [Addr.add, if_true] at this
          cases hs : a.spot with
          | none => rfl
          | some s => exfalso; unfold World.cell? at this; rw [hs] at this; split at this <;> simp at this
        obtain ⟨b, off, sp⟩ := a
        simp at hsp
        subst hsp
        refine Or.inr ⟨b, off, rfl, fun i hi => ?_⟩
        have hi' : i < len := by simpa [sv] using hi
        have hc := (hx i (by omega)).1
        rw [Addr.add_lit] at hc
        rw [hc, (hf i hi').1]
        simp [sv]
    · intro l hl2
      obtain ⟨i, hi, rfl⟩ := List.mem_map.1 hl2
      exact (hf i (by simpa using hi)).2
set_option maxRecDepth 100000 in
/-- An argument that is a slice of texts. -/
theorem arg_ss {H : Type} {enc : TypeId × Value → H} {W : World} {base : Nat} {v : Value} {d : DataW H} {p : List MemPlace}
    (h : DataW.Trod enc Tryd.prog W 0 (fun _ => true) true 41 v d p) (hv : Value.okWide Tryd.prog W .any base 41 v) (hw : ∀ n ∈ d.weights Tryd.prog 41, n ≤ reachBytes) :
    ∃ ao n cap ls, v = .slice ao n cap ∧ SS W ao n cap ls ∧ n ≤ 140737488351232 ∧ ∀ l ∈ ls, l.length ≤ 140737488351232 := by
  obtain ⟨a0, len, cap, rfl⟩ := okWide_slice Tryd.underlying41 hv
  obtain ⟨fuel, hf⟩ := h
  exact read_ss (x := (d, p)) hf hw
set_option maxRecDepth 100000 in
/-- An argument that is a truth. -/
theorem arg_bool {H : Type} {enc : TypeId × Value → H} {W : World} {base : Nat} {v : Value} {d : DataW H} {p : List MemPlace}
    (h : DataW.Trod enc Tryd.prog W 0 (fun _ => true) true 4 v d p) (hv : Value.okWide Tryd.prog W .any base 4 v) :
    ∃ b : Bool, v = .bool b := by
  obtain ⟨x, rfl, -⟩ := open_bool Tryd.underlying4 hv h
  exact ⟨x, rfl⟩

end Go.Proofs.YtfinbppmkffbhaaDoor
