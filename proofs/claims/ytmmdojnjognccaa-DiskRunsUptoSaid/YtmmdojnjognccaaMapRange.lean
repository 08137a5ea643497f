/-
  PLAIN LEMMAS, NO PROGRAM: a walk over a map that only loses entries meanwhile; the laws at the operations.
-/
import Derived.Test.YtmmdojnjognccaaMap
import Derived.Maps.RangeRun
namespace Go.Proofs.Ytmmdojnjognccaa
open Go.RowKit

section
variable {K : Type} [DecidableEq K] {P : Program} {t : TypeId} {enc : K → Value}

/-- Block r is an iterator over the map of block b, which holds l; todo is to come. -/
def Iter (enc : K → Value) (w : World) (r b : Nat) (l todo : List (K × Value)) : Prop :=
  ∃ es clock seen, w.heap[b]? = some (.map es clock) ∧ Ent enc es clock l ∧ w.heap[r]? = some (.mapIter (some b) clock seen clock) ∧
    (leftOf es seen).toList.map (fun e => (e.key, e.val)) = todo.map (fun p => (enc p.1, p.2))

omit [DecidableEq K] in
theorem Iter.map {w : World} {r b : Nat} {l todo : List (K × Value)} (h : Iter enc w r b l todo) : MapIs enc w b l := by
  obtain ⟨es, clock, seen, h1, h2, -⟩ := h
  exact ⟨es, clock, h1, h2⟩
omit [DecidableEq K] in
theorem Iter.kp {w w' : World} {S : Nat → Prop} {r b : Nat} {l todo : List (K × Value)} (h : Iter enc w r b l todo) (k : Kp S w w') (hr : ¬ S r) (hb : ¬ S b) : Iter enc w' r b l todo := by
  obtain ⟨es, clock, seen, h1, h2, h3, h4⟩ := h
  exact ⟨es, clock, seen, k.heap h1 hb, h2, k.heap h3 hr, h4⟩
omit [DecidableEq K] in
theorem Iter.lt {w : World} {r b : Nat} {l todo : List (K × Value)} (h : Iter enc w r b l todo) : r < w.heap.size := by
  obtain ⟨es, clock, seen, h1, h2, h3, h4⟩ := h
  exact (Array.getElem?_eq_some_iff.1 h3).1

omit [DecidableEq K] in
theorem MapIs.range {w : World} {b : Nat} {l : List (K × Value)} (h : MapIs enc w b l) {m e : TypeId} (hm : P.underlying m = some (.map t e)) :
    ∃ w', (Instr.range m (.map (some b))).run P w = .ok (.pointer (some ⟨w.heap.size, 0, none⟩)) w' ∧ Iter enc w' w.heap.size b l l ∧ Kp Noone w w' ∧ w'.heap.size = w.heap.size + 1 := by
  obtain ⟨es, clock, hh, he⟩ := h
  have hg := MapKept.run_getObj_map (P := P) hh
  refine ⟨w.alloc (.mapIter (some b) clock #[] clock), ?_, ?_, (Kp.refl _ _).alloc _, by simp⟩
  · simp [Instr.range, run_underlying hm, hg]
  · refine ⟨es, clock, #[], ((Kp.refl Noone w).alloc _).heap hh id, he, heap_alloc_new w _, ?_⟩
    unfold leftOf
    rw [Array.filter_eq_self.2 (by simp)]
    exact he.kv

theorem nodup_of_map {α β : Type} (f : α → β) {l : List α} (h : (l.map f).Nodup) : l.Nodup := by
  induction l with
  | nil => simp
  | cons a l ih =>
    rw [List.map_cons, List.nodup_cons] at h
    rw [List.nodup_cons]
    exact ⟨fun c => h.1 (List.mem_map_of_mem (f := f) c), ih h.2⟩

theorem strike {e : MapEntry} {k : K} (hinj : ∀ a c, enc a = enc c → a = c) (hk : e.key = enc k) : ∀ (L : List MapEntry) (todo : List (K × Value)), L.map (fun e => (e.key, e.val)) = todo.map (fun p => (enc p.1, p.2)) → e ∈ L → (L.map (·.born)).Nodup → (todo.map (·.1)).Nodup →
    (L.filter (fun x => !decide (x.born = e.born))).map (fun e => (e.key, e.val)) = (alDel k todo).map (fun p => (enc p.1, p.2)) := by
  intro L
  induction L with
  | nil => intro todo _ he; simp at he
  | cons x L ih =>
    intro todo h he hb hn
    cases todo with
    | nil => simp at h
    | cons p todo =>
      simp only [List.map_cons, List.cons.injEq, Prod.mk.injEq] at h
      obtain ⟨⟨h1, h2⟩, h3⟩ := h
      rw [List.map_cons, List.nodup_cons] at hb hn
      unfold alDel
      rcases List.mem_cons.1 he with he | he
      · subst he
        have hp : k = p.1 := hinj _ _ (by rw [← hk, h1])
        rw [if_pos hp, List.filter_cons_of_neg (by simp), List.filter_eq_self.2]
        · exact h3
        · intro y hy
          simp only [Bool.not_eq_true', decide_eq_false_iff_not]
          intro c
          exact hb.1 (by rw [← c]; exact List.mem_map_of_mem (f := (·.born)) hy)
      · have hx : ¬ x.born = e.born := fun c => hb.1 (by rw [c]; exact List.mem_map_of_mem (f := (·.born)) he)
        have hp : ¬ k = p.1 := by
          intro c
          have h4 : (e.key, e.val) ∈ todo.map (fun p => (enc p.1, p.2)) := by rw [← h3]; exact List.mem_map_of_mem (f := fun e => (e.key, e.val)) he
          obtain ⟨q, hq, h5⟩ := List.mem_map.1 h4
          simp only [Prod.mk.injEq] at h5
          have h6 : q.1 = k := hinj _ _ (by rw [h5.1, hk])
          exact hn.1 (by rw [← c, ← h6]; exact List.mem_map_of_mem (f := (·.1)) hq)
        rw [if_neg hp, List.filter_cons_of_pos (by simp [hx]), List.map_cons, List.map_cons, ih todo h3 he hb.2 hn.2]
        simp [h1, h2]

theorem left_push (es : Array MapEntry) (seen : Array Nat) (b : Nat) : (leftOf es (seen.push b)).toList = (leftOf es seen).toList.filter (fun x => !decide (x.born = b)) := by
  unfold leftOf
  simp only [Array.toList_filter, List.filter_filter]
  congr 1
  funext x
  simp [Bool.and_comm]

omit [DecidableEq K] in
theorem Iter.nodup {w : World} {r b : Nat} {l todo : List (K × Value)} (h : Iter enc w r b l todo) (hinj : ∀ a c, enc a = enc c → a = c) : (todo.map (·.1)).Nodup := by
  obtain ⟨es, clock, seen, h1, h2, h3, h4⟩ := h
  have hsub : (leftOf es seen).toList.Sublist es.toList := by unfold leftOf; rw [Array.toList_filter]; exact List.filter_sublist
  have hne : (es.toList.map (·.key)).Nodup := by
    have h5 : es.toList.map (·.key) = l.map (fun p => enc p.1) := by
      have := congrArg (List.map Prod.fst) h2.kv
      simpa [List.map_map, Function.comp_def] using this
    rw [h5]
    have h6 := h2.keys
    clear h5
    generalize l = l' at h6
    induction l' with
    | nil => simp
    | cons q r ih =>
      rw [List.map_cons, List.nodup_cons] at h6 ⊢
      refine ⟨fun c => ?_, ih h6.2⟩
      obtain ⟨q', hq', e'⟩ := List.mem_map.1 c
      exact h6.1 (by rw [← hinj _ _ e']; exact List.mem_map_of_mem (f := (·.1)) hq')
  have h5 : (todo.map (fun p => enc p.1)).Nodup := by
    have : (leftOf es seen).toList.map (·.key) = todo.map (fun p => enc p.1) := by
      have := congrArg (List.map Prod.fst) h4
      simpa [List.map_map, Function.comp_def] using this
    rw [← this]
    exact hne.sublist (hsub.map _)
  have h6 : todo.map (fun p => enc p.1) = (todo.map (·.1)).map enc := by simp [List.map_map, Function.comp_def]
  rw [h6] at h5
  exact nodup_of_map enc h5

/-- The step. -/
theorem Iter.next {w : World} {r b : Nat} {l todo : List (K × Value)} (h : Iter enc w r b l todo) (hinj : ∀ a c, enc a = enc c → a = c) (ty : TypeId) :
    (todo = [] ∧ (Instr.next (.pointer (some ⟨r, 0, none⟩)) false ty).run P w = .ok (.tuple #[.bool false]) w) ∨
    ∃ k v w', (k, v) ∈ todo ∧ (Instr.next (.pointer (some ⟨r, 0, none⟩)) false ty).run P w = .ok (.tuple #[.bool true, enc k, v]) w' ∧ Iter enc w' r b l (alDel k todo) ∧ Kp (fun j => j = r) w w' ∧ w'.heap.size = w.heap.size ∧
      (Instr.entry (.pointer (some ⟨r, 0, none⟩))).run P w' = .ok (.tuple #[enc k, v]) w' := by
  obtain ⟨es, clock, seen, h1, h2, h3, h4⟩ := h
  rcases run_next_at (P := P) w ty r b clock clock seen es clock h3 h1 h2.born (Nat.le_refl _) with ⟨h0, hrun⟩ | ⟨e, he, w1, hw1, hrun⟩
  · left
    refine ⟨?_, hrun⟩
    have := congrArg List.length h4
    simp [h0] at this
    exact List.eq_nil_of_length_eq_zero this.symm
  · right
    have hmem : (e.key, e.val) ∈ todo.map (fun p => (enc p.1, p.2)) := by rw [← h4]; exact List.mem_map_of_mem (f := fun e => (e.key, e.val)) he
    obtain ⟨p, hp, hpe⟩ := List.mem_map.1 hmem
    obtain ⟨k, v⟩ := p
    simp only [Prod.mk.injEq] at hpe
    have hsub : (leftOf es seen).toList.Sublist es.toList := by unfold leftOf; rw [Array.toList_filter]; exact List.filter_sublist
    have hne : (es.toList.map (·.key)).Nodup := by
      have h5 : es.toList.map (·.key) = l.map (fun p => enc p.1) := by
        have := congrArg (List.map Prod.fst) h2.kv
        simpa [List.map_map, Function.comp_def] using this
      rw [h5]
      have h6 := h2.keys
      clear h5
      generalize l = l' at h6
      induction l' with
      | nil => simp
      | cons q r ih =>
        rw [List.map_cons, List.nodup_cons] at h6 ⊢
        refine ⟨fun c => ?_, ih h6.2⟩
        obtain ⟨q', hq', e'⟩ := List.mem_map.1 c
        exact h6.1 (by rw [← hinj _ _ e']; exact List.mem_map_of_mem (f := (·.1)) hq')
    have hnt : (todo.map (·.1)).Nodup := by
      have h5 : (todo.map (fun p => enc p.1)).Nodup := by
        have : (leftOf es seen).toList.map (·.key) = todo.map (fun p => enc p.1) := by
          have := congrArg (List.map Prod.fst) h4
          simpa [List.map_map, Function.comp_def] using this
        rw [← this]
        exact hne.sublist (hsub.map _)
      have h6 : todo.map (fun p => enc p.1) = (todo.map (·.1)).map enc := by simp [List.map_map, Function.comp_def]
      rw [h6] at h5
      exact nodup_of_map enc h5
    have hr1 : w1.heap[r]? = some (.mapIter (some b) clock seen clock) := by rcases hw1 with rfl | rfl <;> exact h3
    have hb1 : w1.heap[b]? = some (.map es clock) := by rcases hw1 with rfl | rfl <;> exact h1
    obtain ⟨g1, g2⟩ := set_heap (o' := .mapIter (some b) clock (seen.push e.born) clock) hr1
    have hrb : b ≠ r := fun c => by subst c; rw [h1] at h3; cases h3
    have hb2 := g2.heap hb1 (fun c => hrb c)
    have kw : Kp (fun j => j = r) w w1 := by
      rcases hw1 with rfl | rfl
      · exact Kp.refl _ _
      · exact (Kp.refl _ _).drew
    have hsz : w1.heap.size = w.heap.size := by rcases hw1 with rfl | rfl <;> rfl
    refine ⟨k, v, ChangeMaps.setBlock w1 r (.mapIter (some b) clock (seen.push e.born) clock), hp, ?_, ⟨es, clock, seen.push e.born, hb2, h2, g1, ?_⟩, kw.trans g2, ?_, ?_⟩
    · rw [hrun, hpe.1, hpe.2]
    · rw [left_push]
      exact strike hinj hpe.1.symm _ _ h4 he (h2.once.sublist (hsub.map _)) hnt
    · show (w1.heap.setIfInBounds r _).size = _
      simp [hsz]
    · have := run_entry_at (P := P) (ChangeMaps.setBlock w1 r (.mapIter (some b) clock (seen.push e.born) clock)) r b clock seen es clock e g1 hb2 (hsub.subset he) h2.once
      rw [this, hpe.1, hpe.2]

theorem filter_eraseIdx {α : Type} (p : α → Bool) : ∀ (l : List α) (j : Nat), (∀ x, l[j]? = some x → p x = false) → (l.eraseIdx j).filter p = l.filter p := by
  intro l
  induction l with
  | nil => intro j _; rfl
  | cons a l ih =>
    intro j h
    cases j with
    | zero => rw [List.eraseIdx_cons_zero, List.filter_cons_of_neg (by simp [h a rfl])]
    | succ j =>
      rw [List.eraseIdx_cons_succ, List.filter_cons, List.filter_cons, ih j (fun x hx => h x (by simpa using hx))]

theorem alFind_key (k : K) (l : List (K × Value)) : ∀ i j y, alFind k l i = some (j, y) → l[j - i]?.map (·.1) = some k := by
  induction l with
  | nil => intro i j y h; simp [alFind] at h
  | cons p r ih =>
    intro i j y h
    unfold alFind at h
    split at h
    · rename_i hk; cases h; simp [hk]
    · have h3 := alFind_lt k r _ _ _ h
      have := ih _ _ _ h
      rw [show j - i = (j - (i + 1)) + 1 by omega]
      simpa using this

/-- A deletion meanwhile. -/
theorem Iter.delete {w : World} {r b : Nat} {l todo : List (K × Value)} (h : Iter enc w r b l todo) (hinj : ∀ a c, enc a = enc c → a = c) (kk : KeyKind P t enc) {m e : TypeId} (hm : P.underlying m = some (.map t e)) (k : K) (hk : k ∉ todo.map (·.1)) (ty : TypeId) :
    ∃ w', (Builtin.delete_ #[m, t] ty #[.map (some b), enc k]).run P w = .ok (.tuple #[]) w' ∧ Iter enc w' r b (alDel k l) todo ∧ Kp (fun j => j = b) w w' ∧ w'.heap.size = w.heap.size := by
  obtain ⟨es, clock, seen, hh, he, h3, h4⟩ := h
  have hf := run_findKey kk he k w
  have hg := MapKept.run_getObj_map (P := P) hh
  have hc := kk.check es.isEmpty k w
  have hlen : es.size = l.length := by have := congrArg List.length he.kv; simpa using this
  have hrb : r ≠ b := fun c => by subst c; rw [hh] at h3; cases h3
  cases hx : alFind k l 0 with
  | none =>
    rw [hx] at hf
    obtain ⟨h1, h2⟩ := set_heap (o' := .map es clock) hh
    refine ⟨{ w with heap := w.heap.setIfInBounds b (.map es clock) }, ?_, ⟨es, clock, seen, h1, by rw [alDel_none k l 0 hx]; exact he, h2.heap h3 (fun c => hrb c), h4⟩, h2, by simp⟩
    simp [Builtin.delete_, run_underlying hm, hg, hc, hf, MapKept.run_setObj_map _ hh]
  | some x =>
    obtain ⟨j, y⟩ := x
    rw [hx] at hf
    have hj := alFind_lt k l 0 j y hx
    obtain ⟨h1, h2⟩ := set_heap (o' := .map (es.eraseIdxIfInBounds j) clock) hh
    have hto : (es.eraseIdxIfInBounds j).toList = es.toList.eraseIdx j := by
      unfold Array.eraseIdxIfInBounds
      rw [dif_pos (by omega)]
      simp
    have hsub : (es.toList.eraseIdx j).Sublist es.toList := List.eraseIdx_sublist ..
    refine ⟨{ w with heap := w.heap.setIfInBounds b (.map (es.eraseIdxIfInBounds j) clock) }, ?_, ⟨_, _, seen, h1, ⟨?_, alDel_keys k l he.keys, ?_, ?_⟩, h2.heap h3 (fun c => hrb c), ?_⟩, h2, by simp⟩
    · simp [Builtin.delete_, run_underlying hm, hg, hc, hf, MapKept.run_setObj_map _ hh]
    · rw [hto, alDel_some k l 0 j y hx, Nat.sub_zero, ChangeMaps.map_eraseIdx, he.kv, ChangeMaps.map_eraseIdx]
    · rw [hto]; exact fun e' h' => he.born e' (hsub.subset h')
    · rw [hto]; exact he.once.sublist (hsub.map _)
    · rw [← h4]
      congr 1
      unfold leftOf
      rw [Array.toList_filter, Array.toList_filter, hto]
      refine filter_eraseIdx _ _ _ (fun e1 he1 => ?_)
      cases hp : (!seen.contains e1.born) with
      | false => rfl
      | true =>
        exfalso
        have hmem : e1 ∈ (leftOf es seen).toList := by
          unfold leftOf
          rw [Array.toList_filter, List.mem_filter]
          exact ⟨List.mem_of_getElem? he1, hp⟩
        have hkey := alFind_key k l 0 j y hx
        have hkv := congrArg (fun z => z[j]?) he.kv
        simp only [List.getElem?_map, he1, Option.map_some, Nat.sub_zero] at hkv hkey
        cases hl1 : l[j]? with
        | none => rw [hl1] at hkv; cases hkv
        | some q =>
          rw [hl1] at hkv hkey
          simp at hkv hkey
          have hm2 : (e1.key, e1.val) ∈ todo.map (fun p => (enc p.1, p.2)) := by rw [← h4]; exact List.mem_map_of_mem (f := fun e => (e.key, e.val)) hmem
          obtain ⟨p, hp1, hp2⟩ := List.mem_map.1 hm2
          simp only [Prod.mk.injEq] at hp2
          apply hk
          have : p.1 = k := hinj _ _ (by rw [hp2.1, hkv.1, hkey])
          rw [← this]
          exact List.mem_map_of_mem (f := (·.1)) hp1

end

/-! ### At the operations -/
section
variable {K : Type} [DecidableEq K] {P : Program} {t : TypeId} {enc : K → Value}
variable (w : World) {ops : Array Oper} {rest : List Oper} {o : Oper} {a : Act} {Q : Exit → Act → World → Prop}

theorem wpList_mapUpdate_is (hg : o.guard = none) (m x v : Operand) (mt : TypeId) (hop : o.op = Op.mapUpdate mt m x v) (e : TypeId) (kk : KeyKind P t enc) (ht : P.underlying mt = some (.map t e)) (b : Nat) (l : List (K × Value))
    (hm : a.eval m = .map (some b)) (h : MapIs enc w b l) (k : K) (val : Value) (hx : a.eval x = enc k) (hv : a.eval v = val)
    (hK : ∀ w', MapTo enc w w' b (alPut k val l) → wpList P ops Q rest (a.put o.dst undef) w') : wpList P ops Q (o :: rest) a w := by
  refine wpList_plain hg fun K' hK' => ?_
  obtain ⟨w', hrun, r1⟩ := h.update kk ht k val
  unfold Oper.wp
  simp [execOp, hop, hm, hx, hv, hrun, Result.andThen]
  exact hK' _ _ (hK w' r1)

theorem wpList_delete_is (hg : o.guard = none) (m x : Operand) (mt : TypeId) (hop : o.op = Op.call { callee := Callee.builtin Builtin.delete, args := #[m, x], argTypes := #[mt, t] }) (e : TypeId) (kk : KeyKind P t enc) (ht : P.underlying mt = some (.map t e)) (b : Nat) (l : List (K × Value))
    (hm : a.eval m = .map (some b)) (h : MapIs enc w b l) (k : K) (hx : a.eval x = enc k)
    (hK : ∀ w', MapTo enc w w' b (alDel k l) → wpList P ops Q rest (a.put o.dst (.tuple #[])) w') : wpList P ops Q (o :: rest) a w := by
  refine wpList_plain hg fun K' hK' => ?_
  obtain ⟨w', hrun, r1⟩ := h.delete kk ht k o.type
  unfold Oper.wp
  simp [execOp, hop, resolve, invoke, builtin, hm, hx, hrun, Result.andThen]
  exact hK' _ _ (hK w' r1)

theorem wpList_delete_iter (hg : o.guard = none) (m x : Operand) (mt : TypeId) (hop : o.op = Op.call { callee := Callee.builtin Builtin.delete, args := #[m, x], argTypes := #[mt, t] }) (e : TypeId) (hinj : ∀ a c, enc a = enc c → a = c) (kk : KeyKind P t enc) (ht : P.underlying mt = some (.map t e)) (r b : Nat) (l todo : List (K × Value))
    (hm : a.eval m = .map (some b)) (h : Iter enc w r b l todo) (k : K) (hk : k ∉ todo.map (·.1)) (hx : a.eval x = enc k)
    (hK : ∀ w', Iter enc w' r b (alDel k l) todo → Kp (fun j => j = b) w w' → wpList P ops Q rest (a.put o.dst (.tuple #[])) w') : wpList P ops Q (o :: rest) a w := by
  refine wpList_plain hg fun K' hK' => ?_
  obtain ⟨w', hrun, r1, r2, -⟩ := h.delete hinj kk ht k hk o.type
  unfold Oper.wp
  simp [execOp, hop, resolve, invoke, builtin, hm, hx, hrun, Result.andThen]
  exact hK' _ _ (hK w' r1 r2)

omit [DecidableEq K] in
theorem wpList_clear_is (hg : o.guard = none) (m : Operand) (mt : TypeId) (hop : o.op = Op.call { callee := Callee.builtin Builtin.clear, args := #[m], argTypes := #[mt] }) (e : TypeId) (ht : P.underlying mt = some (.map t e)) (b : Nat) (l : List (K × Value))
    (hm : a.eval m = .map (some b)) (h : MapIs enc w b l)
    (hK : ∀ w', MapTo enc w w' b [] → wpList P ops Q rest (a.put o.dst (.tuple #[])) w') : wpList P ops Q (o :: rest) a w := by
  refine wpList_plain hg fun K' hK' => ?_
  obtain ⟨w', hrun, r1⟩ := h.clear ht o.type
  unfold Oper.wp
  simp [execOp, hop, resolve, invoke, builtin, hm, hrun, Result.andThen]
  exact hK' _ _ (hK w' r1)

omit [DecidableEq K] in
theorem wpList_range_is (hg : o.guard = none) (m : Operand) (mt : TypeId) (hop : o.op = Op.range mt m) (e : TypeId) (ht : P.underlying mt = some (.map t e)) (b : Nat) (l : List (K × Value))
    (hm : a.eval m = .map (some b)) (h : MapIs enc w b l)
    (hK : ∀ w', Iter enc w' w.heap.size b l l → Kp Noone w w' → w'.heap.size = w.heap.size + 1 → wpList P ops Q rest (a.put o.dst (.pointer (some ⟨w.heap.size, 0, none⟩))) w') : wpList P ops Q (o :: rest) a w := by
  refine wpList_plain hg fun K' hK' => ?_
  obtain ⟨w', hrun, r1, r2, r3⟩ := h.range (P := P) ht
  unfold Oper.wp
  simp [execOp, hop, hm, hrun, Result.andThen]
  exact hK' _ _ (hK w' r1 r2 r3)

theorem wpList_next_is (hg : o.guard = none) (it : Operand) (hop : o.op = Op.next it false) (hinj : ∀ a c, enc a = enc c → a = c) (r b : Nat) (l todo : List (K × Value))
    (hit : a.eval it = .pointer (some ⟨r, 0, none⟩)) (h : Iter enc w r b l todo)
    (hDone : todo = [] → wpList P ops Q rest (a.put o.dst (.tuple #[.bool false])) w)
    (hMore : ∀ k v w', (k, v) ∈ todo → Iter enc w' r b l (alDel k todo) → Kp (fun j => j = r) w w' → w'.heap.size = w.heap.size → (Instr.entry (.pointer (some ⟨r, 0, none⟩))).run P w' = .ok (.tuple #[enc k, v]) w' →
      wpList P ops Q rest (a.put o.dst (.tuple #[.bool true, enc k, v])) w') : wpList P ops Q (o :: rest) a w := by
  refine wpList_plain hg fun K' hK' => ?_
  unfold Oper.wp
  rcases h.next (P := P) hinj o.type with ⟨h0, hrun⟩ | ⟨k, v, w', hm, hrun, hi, hkp, hsz, hen⟩
  · simp [execOp, hop, hit, hrun, Result.andThen]
    exact hK' _ _ (hDone h0)
  · simp [execOp, hop, hit, hrun, Result.andThen]
    exact hK' _ _ (hMore k v w' hm hi hkp hsz hen)

theorem step_mapUpdate_is {K' : Act → World → Prop} {E : Prop} (hg : o.guard = none) (m x v : Operand) (mt : TypeId) (hop : o.op = Op.mapUpdate mt m x v) (e : TypeId) (kk : KeyKind P t enc) (ht : P.underlying mt = some (.map t e)) (b : Nat) (l : List (K × Value))
    (hm : a.eval m = .map (some b)) (h : MapIs enc w b l) (k : K) (val : Value) (hx : a.eval x = enc k) (hv : a.eval v = val)
    (hK : ∀ w', MapTo enc w w' b (alPut k val l) → K' (a.put o.dst undef) w') : if Region.wanted o (yielded ops a.tmps) = true then Oper.wp P o a w K' Q else E := by
  have hw : Region.wanted o (yielded ops a.tmps) = true := by simp [Region.wanted, hg]
  rw [if_pos hw]
  obtain ⟨w', hrun, r1⟩ := h.update kk ht k val
  unfold Oper.wp
  simp [execOp, hop, hm, hx, hv, hrun, Result.andThen]
  exact hK w' r1

end

end Go.Proofs.Ytmmdojnjognccaa
