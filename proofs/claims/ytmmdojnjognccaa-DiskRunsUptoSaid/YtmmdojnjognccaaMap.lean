/-
  PLAIN LEMMAS, NO PROGRAM: a map in memory as a list of keys and values, in the order in which they came: look-up, store, delete, clear, length.
-/
import Derived.Test.YtmmdojnjognccaaApp
import Derived.MapKept
import Derived.ChangeMaps4
import Derived.Carry
namespace Go.Proofs.Ytmmdojnjognccaa
open Go.RowKit

/-! ### Lists of keys and values -/
section
variable {K V : Type} [DecidableEq K]

def alFind (k : K) : List (K × V) → Nat → Option (Nat × V)
  | [], _ => none
  | p :: r, i => if k = p.1 then some (i, p.2) else alFind k r (i + 1)
def alGet (k : K) (l : List (K × V)) : Option V := (alFind k l 0).map (·.2)
def alPut (k : K) (v : V) : List (K × V) → List (K × V)
  | [] => [(k, v)]
  | p :: r => if k = p.1 then (k, v) :: r else p :: alPut k v r
def alDel (k : K) : List (K × V) → List (K × V)
  | [] => []
  | p :: r => if k = p.1 then r else p :: alDel k r

theorem alFind_shift (k : K) (l : List (K × V)) : ∀ i j, alFind k l (i + j) = (alFind k l i).map (fun x => (x.1 + j, x.2)) := by
  induction l with
  | nil => intros; rfl
  | cons p r ih =>
    intro i j
    unfold alFind
    split
    · rfl
    · rw [show i + j + 1 = (i + 1) + j by omega, ih]
theorem alGet_cons (k : K) (p : K × V) (r : List (K × V)) : alGet k (p :: r) = if k = p.1 then some p.2 else alGet k r := by
  unfold alGet
  rw [alFind]
  split
  · rfl
  · rw [show 0 + 1 = 0 + 1 from rfl, alFind_shift k r 0 1]
    cases alFind k r 0 <;> rfl
theorem alGet_nil (k : K) : alGet k ([] : List (K × V)) = none := rfl
theorem alGet_put (k k' : K) (v : V) (l : List (K × V)) : alGet k' (alPut k v l) = if k' = k then some v else alGet k' l := by
  induction l with
  | nil => simp [alPut, alGet_cons, alGet_nil]
  | cons p r ih =>
    unfold alPut
    split
    · rename_i h
      rw [alGet_cons, alGet_cons]
      subst h
      split <;> rfl
    · rename_i h
      rw [alGet_cons, alGet_cons, ih]
      by_cases h1 : k' = p.1
      · rw [if_pos h1, if_pos h1, if_neg (fun c => h (by rw [← c, h1]))]
      · rw [if_neg h1, if_neg h1]
theorem alGet_none (k : K) (l : List (K × V)) : alGet k l = none ↔ k ∉ l.map (·.1) := by
  induction l with
  | nil => simp [alGet_nil]
  | cons p r ih =>
    rw [alGet_cons]
    split
    · rename_i h; simp [h]
    · rename_i h
      rw [ih]
      simp only [List.map_cons, List.mem_cons, not_or]
      exact ⟨fun a => ⟨h, a⟩, fun a => a.2⟩
theorem alGet_mem {k : K} {v : V} {l : List (K × V)} (h : alGet k l = some v) : (k, v) ∈ l := by
  induction l with
  | nil => simp [alGet_nil] at h
  | cons p r ih =>
    rw [alGet_cons] at h
    split at h
    · rename_i hk
      cases h
      subst hk
      simp
    · exact List.mem_cons_of_mem _ (ih h)
theorem alGet_of_mem {k : K} {v : V} {l : List (K × V)} (hn : (l.map (·.1)).Nodup) (h : (k, v) ∈ l) : alGet k l = some v := by
  induction l with
  | nil => simp at h
  | cons p r ih =>
    rw [List.map_cons, List.nodup_cons] at hn
    rw [alGet_cons]
    rcases List.mem_cons.1 h with h | h
    · subst h; simp
    · rw [if_neg (fun c => hn.1 (by rw [← c]; exact List.mem_map_of_mem (f := (·.1)) h))]
      exact ih hn.2 h
theorem alDel_eq (k : K) (l : List (K × V)) (hn : (l.map (·.1)).Nodup) : alDel k l = l.filter (fun p => !decide (k = p.1)) := by
  induction l with
  | nil => rfl
  | cons p r ih =>
    rw [List.map_cons, List.nodup_cons] at hn
    unfold alDel
    by_cases h : k = p.1
    · rw [if_pos h, List.filter_cons_of_neg (by simp [h])]
      rw [List.filter_eq_self.2]
      intro a ha
      simp only [Bool.not_eq_true', decide_eq_false_iff_not]
      intro c
      exact hn.1 (by rw [← h, c]; exact List.mem_map_of_mem (f := (·.1)) ha)
    · rw [if_neg h, List.filter_cons_of_pos (by simp [h]), ih hn.2]
theorem alGet_del (k k' : K) (l : List (K × V)) (hn : (l.map (·.1)).Nodup) : alGet k' (alDel k l) = if k' = k then none else alGet k' l := by
  induction l with
  | nil => simp [alDel, alGet_nil]
  | cons p r ih =>
    rw [List.map_cons, List.nodup_cons] at hn
    unfold alDel
    by_cases h : k = p.1
    · rw [if_pos h]
      by_cases h1 : k' = k
      · rw [if_pos h1, alGet_none]
        rw [h1, h]; exact hn.1
      · rw [if_neg h1, alGet_cons, if_neg (fun c => h1 (by rw [c, h]))]
    · rw [if_neg h, alGet_cons, alGet_cons, ih hn.2]
      by_cases h1 : k' = p.1
      · rw [if_pos h1, if_pos h1, if_neg (fun c => h (by rw [← c, h1]))]
      · rw [if_neg h1, if_neg h1]
theorem alPut_keys (k : K) (v : V) (l : List (K × V)) (hn : (l.map (·.1)).Nodup) : ((alPut k v l).map (·.1)).Nodup := by
  induction l with
  | nil => simp [alPut]
  | cons p r ih =>
    rw [List.map_cons, List.nodup_cons] at hn
    unfold alPut
    by_cases h : k = p.1
    · rw [if_pos h, List.map_cons, List.nodup_cons]
      exact ⟨by rw [show ((k, v) : K × V).1 = p.1 from h]; exact hn.1, hn.2⟩
    · rw [if_neg h, List.map_cons, List.nodup_cons]
      refine ⟨fun c => ?_, ih hn.2⟩
      have h2 : alGet p.1 (alPut k v r) ≠ none := fun e => (alGet_none _ _).1 e c
      rw [alGet_put, if_neg (fun e => h e.symm)] at h2
      exact h2 ((alGet_none _ _).2 hn.1)
theorem alDel_keys (k : K) (l : List (K × V)) (hn : (l.map (·.1)).Nodup) : ((alDel k l).map (·.1)).Nodup := by
  rw [alDel_eq k l hn]
  exact hn.sublist (List.Sublist.map _ List.filter_sublist)
theorem alPut_length (k : K) (v : V) (l : List (K × V)) : (alPut k v l).length ≤ l.length + 1 := by
  induction l with
  | nil => simp [alPut]
  | cons p r ih => unfold alPut; split <;> simp <;> omega
theorem alDel_length (k : K) (l : List (K × V)) : (alDel k l).length ≤ l.length := by
  induction l with
  | nil => simp [alDel]
  | cons p r ih => unfold alDel; split <;> simp <;> omega
theorem alFind_map {U : Type} (f : V → U) (k : K) (l : List (K × V)) : ∀ i, alFind k (l.map fun x => (x.1, f x.2)) i = (alFind k l i).map (fun x => (x.1, f x.2)) := by
  induction l with
  | nil => intro i; rfl
  | cons p r ih => intro i; simp only [List.map_cons, alFind]; split <;> simp [ih]
theorem alGet_map {U : Type} (f : V → U) (k : K) (l : List (K × V)) : alGet k (l.map fun x => (x.1, f x.2)) = (alGet k l).map f := by
  unfold alGet
  rw [alFind_map]
  cases alFind k l 0 <;> rfl
theorem alPut_map {U : Type} (f : V → U) (k : K) (v : V) (l : List (K × V)) : alPut k (f v) (l.map fun x => (x.1, f x.2)) = (alPut k v l).map fun x => (x.1, f x.2) := by
  induction l with
  | nil => rfl
  | cons p r ih => simp only [List.map_cons, alPut]; split <;> simp [ih]
theorem alDel_map {U : Type} (f : V → U) (k : K) (l : List (K × V)) : alDel k (l.map fun x => (x.1, f x.2)) = (alDel k l).map fun x => (x.1, f x.2) := by
  induction l with
  | nil => rfl
  | cons p r ih => simp only [List.map_cons, alDel]; split <;> simp [ih]
end

/-! ### A map's block -/

/-- How a type's values are keys: P's type t, the keys written by enc. -/
structure KeyKind {K : Type} [DecidableEq K] (P : Program) (t : TypeId) (enc : K → Value) : Prop where
  desc : ∃ d, P.underlying t = some d ∧ ∀ a b, Instr.sameNow d (enc a) (enc b) = some (decide (a = b))
  check : ∀ (em : Bool) (k : K) (w : World), (Instr.checkKey em 10000 t (enc k)).run P w = .ok () w
  bits : ∀ k, Instr.sameBits 10000 (enc k) (enc k) = true

def encI (k : Int) : Value := .int .i64 k
theorem keyKind_int {P : Program} {t : TypeId} (ht : P.underlying t = some (.int .i64)) : KeyKind P t encI := by
  have h : ∀ (n : Nat) (em : Bool) (k : Int) (w : World), (Instr.checkKey em (n + 1) t (encI k)).run P w = .ok () w := fun n em k w => by simp [Instr.checkKey, encI, run_underlying ht]
  refine ⟨⟨_, ht, fun a b => ?_⟩, h 9999, fun k => ?_⟩
  · simp [Instr.sameNow, encI]; rfl
  · simp [Instr.sameBits, encI]
def encS (s : ByteArray) : Value := .string s
theorem ba_beq (a b : ByteArray) : (a == b) = decide (a = b) := by
  rw [Bool.eq_iff_iff]
  show (a.data == b.data) = true ↔ _
  rw [beq_iff_eq, decide_eq_true_eq]
  exact ⟨fun h => ByteArray.ext h, fun h => by rw [h]⟩
theorem keyKind_string {P : Program} {t : TypeId} (ht : P.underlying t = some .string) : KeyKind P t encS := by
  have h : ∀ (n : Nat) (em : Bool) (k : ByteArray) (w : World), (Instr.checkKey em (n + 1) t (encS k)).run P w = .ok () w := fun n em k w => by simp [Instr.checkKey, encS, run_underlying ht]
  refine ⟨⟨_, ht, fun a b => ?_⟩, h 9999, fun k => ?_⟩
  · simp only [Instr.sameNow, encS, ba_beq]
  · simp only [Instr.sameBits, encS, ba_beq, decide_true]

section
variable {K : Type} [DecidableEq K] {P : Program} {t : TypeId} {enc : K → Value}

/-- The entries of a map hold l. -/
structure Ent (enc : K → Value) (es : Array MapEntry) (clock : Nat) (l : List (K × Value)) : Prop where
  kv : es.toList.map (fun e => (e.key, e.val)) = l.map (fun p => (enc p.1, p.2))
  keys : (l.map (·.1)).Nodup
  born : ∀ e ∈ es.toList, e.born < clock
  once : (es.toList.map (·.born)).Nodup

/-- Block b is a map that holds l. -/
def MapIs (enc : K → Value) (w : World) (b : Nat) (l : List (K × Value)) : Prop := ∃ es clock, w.heap[b]? = some (.map es clock) ∧ Ent enc es clock l

theorem findNow_eq {d : TypeDesc} (hd : ∀ a b : K, Instr.sameNow d (enc a) (enc b) = some (decide (a = b))) (k : K) :
    ∀ (es : List MapEntry) (l : List (K × Value)) (i : Nat), es.map (fun e => (e.key, e.val)) = l.map (fun p => (enc p.1, p.2)) → Instr.findNow d (enc k) es i = some (alFind k l i) := by
  intro es
  induction es with
  | nil => intro l i h; cases l with | nil => rfl | cons p r => simp at h
  | cons e es ih =>
    intro l i h
    cases l with
    | nil => simp at h
    | cons p r =>
      simp only [List.map_cons, List.cons.injEq, Prod.mk.injEq] at h
      obtain ⟨⟨h1, h2⟩, h3⟩ := h
      unfold Instr.findNow alFind
      rw [h1, hd]
      by_cases hk : k = p.1
      · rw [if_pos hk]; simp [hk, h2]
      · rw [if_neg hk]; simp [hk]; exact ih r (i + 1) h3

theorem run_findKey (kk : KeyKind P t enc) {es : Array MapEntry} {clock : Nat} {l : List (K × Value)} (h : Ent enc es clock l) (k : K) (w : World) :
    (Instr.findKey t (enc k) es.toList).run P w = .ok (alFind k l 0) w := by
  obtain ⟨d, hd, hs⟩ := kk.desc
  have := findNow_eq hs k es.toList l 0 h.kv
  simp [Instr.findKey, run_underlying hd, this]

theorem alFind_lt (k : K) (l : List (K × Value)) : ∀ i j v, alFind k l i = some (j, v) → i ≤ j ∧ j < i + l.length := by
  induction l with
  | nil => intro i j v h; simp [alFind] at h
  | cons p r ih =>
    intro i j v h
    unfold alFind at h
    split at h
    · cases h; simp
    · have := ih _ _ _ h; simp; omega

theorem alPut_some (k : K) (v : Value) (l : List (K × Value)) : ∀ i j x, alFind k l i = some (j, x) → alPut k v l = l.set (j - i) (k, v) := by
  induction l with
  | nil => intro i j x h; simp [alFind] at h
  | cons p r ih =>
    intro i j x h
    unfold alFind at h
    unfold alPut
    split at h
    · rename_i hk
      cases h
      rw [if_pos hk]; simp
    · rename_i hk
      have h2 := alFind_lt k r _ _ _ h
      rw [if_neg hk, ih _ _ _ h, show j - i = (j - (i + 1)) + 1 by omega]
      rfl
theorem alPut_none (k : K) (v : Value) (l : List (K × Value)) : ∀ i, alFind k l i = none → alPut k v l = l ++ [(k, v)] := by
  induction l with
  | nil => intro i _; rfl
  | cons p r ih =>
    intro i h
    unfold alFind at h
    unfold alPut
    split at h
    · cases h
    · rename_i hk
      rw [if_neg hk, ih _ h]; rfl
theorem alDel_some (k : K) (l : List (K × Value)) : ∀ i j x, alFind k l i = some (j, x) → alDel k l = l.eraseIdx (j - i) := by
  induction l with
  | nil => intro i j x h; simp [alFind] at h
  | cons p r ih =>
    intro i j x h
    unfold alFind at h
    unfold alDel
    split at h
    · rename_i hk
      cases h
      rw [if_pos hk]; simp
    · rename_i hk
      have h2 := alFind_lt k r _ _ _ h
      rw [if_neg hk, ih _ _ _ h, show j - i = (j - (i + 1)) + 1 by omega]
      rfl
theorem alDel_none (k : K) (l : List (K × Value)) : ∀ i, alFind k l i = none → alDel k l = l := by
  induction l with
  | nil => intro i _; rfl
  | cons p r ih =>
    intro i h
    unfold alFind at h
    unfold alDel
    split at h
    · cases h
    · rename_i hk
      rw [if_neg hk, ih _ h]

/-- What a step on a map leaves: block b turned into a map that holds l', all else as it was. -/
def MapTo (enc : K → Value) (w w' : World) (b : Nat) (l' : List (K × Value)) : Prop := MapIs enc w' b l' ∧ Kp (fun j => j = b) w w'

theorem set_heap {w : World} {b : Nat} {o o' : Obj} (h : w.heap[b]? = some o) : ({ w with heap := w.heap.setIfInBounds b o' } : World).heap[b]? = some o' ∧ Kp (fun j => j = b) w { w with heap := w.heap.setIfInBounds b o' } := by
  have hb := (Array.getElem?_eq_some_iff.1 h).1
  refine ⟨by simp [hb], ⟨rfl, rfl, rfl, by simp, fun k hk hn => ?_⟩⟩
  show (w.heap.setIfInBounds b o')[k]? = _
  rw [Array.getElem?_setIfInBounds, if_neg (fun c => hn c.symm)]

omit [DecidableEq K] in
theorem MapIs.lt {w : World} {b : Nat} {l : List (K × Value)} (h : MapIs enc w b l) : b < w.heap.size := by
  obtain ⟨es, clock, hh, -⟩ := h
  exact (Array.getElem?_eq_some_iff.1 hh).1
omit [DecidableEq K] in
theorem MapIs.kp {w w' : World} {S : Nat → Prop} {b : Nat} {l : List (K × Value)} (h : MapIs enc w b l) (k : Kp S w w') (hs : ¬ S b) : MapIs enc w' b l := by
  obtain ⟨es, clock, hh, e⟩ := h
  exact ⟨es, clock, k.heap hh hs, e⟩
omit [DecidableEq K] in
theorem MapIs.keys {w : World} {b : Nat} {l : List (K × Value)} (h : MapIs enc w b l) : (l.map (·.1)).Nodup := by
  obtain ⟨es, clock, hh, e⟩ := h
  exact e.keys

theorem MapIs.lookup {w : World} {b : Nat} {l : List (K × Value)} (h : MapIs enc w b l) (kk : KeyKind P t enc) {m e : TypeId} (hm : P.underlying m = some (.map t e)) {z : Value} (hz : (zeroValue e).run P w = .ok z w) (k : K) (c : Bool) :
    (Instr.lookup m (.map (some b)) (enc k) c).run P w = .ok (if c then .tuple #[(alGet k l).getD z, .bool (alGet k l).isSome] else (alGet k l).getD z) w := by
  obtain ⟨es, clock, hh, he⟩ := h
  have hf := run_findKey kk he k w
  have hg := MapKept.run_getObj_map (P := P) hh
  have hc := kk.check es.isEmpty k w
  simp only [Instr.lookup, Sem.run_bind, run_underlying hm, Result.andThen_ok, hg, hc, hf, Sem.run_pure]
  unfold alGet
  cases hx : alFind k l 0 with
  | none => cases c <;> simp [hz]
  | some x => cases c <;> simp

theorem MapIs.update {w : World} {b : Nat} {l : List (K × Value)} (h : MapIs enc w b l) (kk : KeyKind P t enc) {m e : TypeId} (hm : P.underlying m = some (.map t e)) (k : K) (v : Value) :
    ∃ w', (Instr.mapUpdate m (.map (some b)) (enc k) v).run P w = .ok () w' ∧ MapTo enc w w' b (alPut k v l) := by
  obtain ⟨es, clock, hh, he⟩ := h
  have hf := run_findKey kk he k w
  have hg := MapKept.run_getObj_map (P := P) hh
  have hc := kk.check false k w
  have hlen : es.size = l.length := by have := congrArg List.length he.kv; simpa using this
  cases hx : alFind k l 0 with
  | none =>
    rw [hx] at hf
    refine ⟨{ w with heap := w.heap.setIfInBounds b (.map (es.push { key := enc k, val := v, born := clock }) (clock + 1)) }, ?_, ?_⟩
    · simp only [Instr.mapUpdate, Sem.run_bind, run_underlying hm, Result.andThen_ok, hg, hc, hf, MapKept.run_setObj_map _ hh]
    · obtain ⟨h1, h2⟩ := set_heap (o' := .map (es.push { key := enc k, val := v, born := clock }) (clock + 1)) hh
      refine ⟨⟨_, _, h1, ?_, alPut_keys k v l he.keys, ?_, ?_⟩, h2⟩
      · rw [alPut_none k v l 0 hx]; simp [he.kv]
      · intro e' h'
        simp at h'
        rcases h' with h' | h'
        · have := he.born e' (by simpa using h'); omega
        · subst h'; simp
      · simp only [Array.toList_push, List.map_append, List.map_cons, List.map_nil]
        rw [List.nodup_append]
        refine ⟨he.once, by simp, ?_⟩
        intro a ha c hc'
        simp at hc'
        subst hc'
        obtain ⟨e', h3, rfl⟩ := List.mem_map.1 ha
        have := he.born e' h3; omega
  | some x =>
    obtain ⟨j, y⟩ := x
    rw [hx] at hf
    have hj := alFind_lt k l 0 j y hx
    have hkey : es[j]?.map (·.key) = some (enc k) := by
      have h1 : (es.toList.map (fun e => (e.key, e.val)))[j]? = (l.map (fun p => (enc p.1, p.2)))[j]? := by rw [he.kv]
      have h2 : ∀ (l : List (K × Value)) i j y, alFind k l i = some (j, y) → l[j - i]?.map (·.1) = some k := by
        intro l
        induction l with
        | nil => intro i j y h; simp [alFind] at h
        | cons p r ih =>
          intro i j y h
          unfold alFind at h
          split at h
          · rename_i hk; cases h; simp [hk]
          · have h3 := alFind_lt k r _ _ _ h
            have := ih _ _ _ h
            rw [show j - i = (j - (i + 1)) + 1 by omega]
            simpa using this
      have h3 := h2 l 0 j y hx
      simp only [List.getElem?_map, Nat.sub_zero, Array.getElem?_toList] at h1 h3
      cases he1 : es[j]? with
      | none => rw [he1] at h1; rw [Array.getElem?_eq_none_iff] at he1; omega
      | some e1 =>
        rw [he1] at h1
        cases hl1 : l[j]? with
        | none => rw [hl1] at h3; cases h3
        | some p =>
          rw [hl1] at h1 h3
          simp at h1 h3
          simp [h1.1, h3]
    refine ⟨{ w with heap := w.heap.setIfInBounds b (.map (es.modify j fun e => { e with key := enc k, val := v }) clock) }, ?_, ?_⟩
    · simp only [Instr.mapUpdate, Sem.run_bind, run_underlying hm, Result.andThen_ok, hg, hc, hf, hkey, Option.getD_some, Instr.keyThatStays, kk.bits, if_true, Sem.run_pure, MapKept.run_setObj_map _ hh]
    · obtain ⟨h1, h2⟩ := set_heap (o' := .map (es.modify j fun e => { e with key := enc k, val := v }) clock) hh
      have hmod : (es.modify j fun e => { e with key := enc k, val := v }).toList = es.toList.modify j fun e => { e with key := enc k, val := v } := Array.toList_modify
      have hb : ((es.modify j fun e => { e with key := enc k, val := v }).toList.map (·.born)) = es.toList.map (·.born) := by
        rw [hmod]
        apply List.ext_getElem?
        intro i
        simp only [List.getElem?_map, List.getElem?_modify]
        cases es.toList[i]? with
        | none => rfl
        | some e => simp only [Option.map_some, Option.map_eq_map]; split <;> rfl
      refine ⟨⟨_, _, h1, ?_, alPut_keys k v l he.keys, ?_, by rw [hb]; exact he.once⟩, h2⟩
      · rw [alPut_some k v l 0 j y hx, hmod, Nat.sub_zero]
        apply List.ext_getElem?
        intro i
        have h4 := congrArg (fun z => z[i]?) he.kv
        simp only [List.getElem?_map] at h4
        simp only [List.getElem?_map, List.getElem?_modify, List.getElem?_set]
        by_cases hij : j = i
        · subst hij
          have : j < es.toList.length := by simpa using (show j < es.size by omega)
          rw [List.getElem?_eq_getElem this]
          simp [show j < l.length by omega]
        · simp only [if_neg hij, Option.map_eq_map]
          rw [← h4]
          cases es.toList[i]? <;> rfl
      · intro e' h'
        have : e'.born ∈ es.toList.map (·.born) := by rw [← hb]; exact List.mem_map_of_mem (f := (·.born)) h'
        obtain ⟨e2, h3, h4⟩ := List.mem_map.1 this
        rw [← h4]; exact he.born e2 h3

theorem MapIs.delete {w : World} {b : Nat} {l : List (K × Value)} (h : MapIs enc w b l) (kk : KeyKind P t enc) {m e : TypeId} (hm : P.underlying m = some (.map t e)) (k : K) (ty : TypeId) :
    ∃ w', (Builtin.delete_ #[m, t] ty #[.map (some b), enc k]).run P w = .ok (.tuple #[]) w' ∧ MapTo enc w w' b (alDel k l) := by
  obtain ⟨es, clock, hh, he⟩ := h
  have hf := run_findKey kk he k w
  have hg := MapKept.run_getObj_map (P := P) hh
  have hc := kk.check es.isEmpty k w
  have hlen : es.size = l.length := by have := congrArg List.length he.kv; simpa using this
  cases hx : alFind k l 0 with
  | none =>
    rw [hx] at hf
    refine ⟨{ w with heap := w.heap.setIfInBounds b (.map es clock) }, ?_, ?_⟩
    · simp [Builtin.delete_, run_underlying hm, hg, hc, hf, MapKept.run_setObj_map _ hh]
    · obtain ⟨h1, h2⟩ := set_heap (o' := .map es clock) hh
      exact ⟨⟨_, _, h1, by rw [alDel_none k l 0 hx]; exact he⟩, h2⟩
  | some x =>
    obtain ⟨j, y⟩ := x
    rw [hx] at hf
    have hj := alFind_lt k l 0 j y hx
    refine ⟨{ w with heap := w.heap.setIfInBounds b (.map (es.eraseIdxIfInBounds j) clock) }, ?_, ?_⟩
    · simp [Builtin.delete_, run_underlying hm, hg, hc, hf, MapKept.run_setObj_map _ hh]
    · obtain ⟨h1, h2⟩ := set_heap (o' := .map (es.eraseIdxIfInBounds j) clock) hh
      have hto : (es.eraseIdxIfInBounds j).toList = es.toList.eraseIdx j := by
        unfold Array.eraseIdxIfInBounds
        rw [dif_pos (by omega)]
        simp
      have hsub : (es.toList.eraseIdx j).Sublist es.toList := List.eraseIdx_sublist ..
      refine ⟨⟨_, _, h1, ?_, alDel_keys k l he.keys, ?_, ?_⟩, h2⟩
      · rw [hto, alDel_some k l 0 j y hx, Nat.sub_zero, ChangeMaps.map_eraseIdx, he.kv, ChangeMaps.map_eraseIdx]
      · rw [hto]; exact fun e' h' => he.born e' (hsub.subset h')
      · rw [hto]; exact he.once.sublist (hsub.map _)

omit [DecidableEq K] in
theorem MapIs.clear {w : World} {b : Nat} {l : List (K × Value)} (h : MapIs enc w b l) {m e : TypeId} (hm : P.underlying m = some (.map t e)) (ty : TypeId) :
    ∃ w', (Builtin.clear_ #[m] ty #[.map (some b)]).run P w = .ok (.tuple #[]) w' ∧ MapTo enc w w' b [] := by
  obtain ⟨es, clock, hh, he⟩ := h
  have hg := MapKept.run_getObj_map (P := P) hh
  refine ⟨{ w with heap := w.heap.setIfInBounds b (.map #[] clock) }, ?_, ?_⟩
  · simp [Builtin.clear_, run_underlying hm, hg, MapKept.run_setObj_map _ hh]
  · obtain ⟨h1, h2⟩ := set_heap (o' := .map #[] clock) hh
    exact ⟨⟨_, _, h1, by simp, by simp, by simp, by simp⟩, h2⟩

omit [DecidableEq K] in
theorem MapIs.len {w : World} {b : Nat} {l : List (K × Value)} (h : MapIs enc w b l) {m e : TypeId} (hm : P.underlying m = some (.map t e)) (ty : TypeId) :
    (Builtin.len_ #[m] ty #[.map (some b)]).run P w = .ok (.int .i64 (l.length : Int)) w := by
  obtain ⟨es, clock, hh, he⟩ := h
  have hg := MapKept.run_getObj_map (P := P) hh
  have hlen : es.size = l.length := by have := congrArg List.length he.kv; simpa using this
  simp [Builtin.len_, run_underlying hm, hg, hlen, goInt]

end

end Go.Proofs.Ytmmdojnjognccaa
