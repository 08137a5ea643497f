/-
  A DISK: in plain Lean, and where it lies in memory.
-/
import Derived.Test.YtmmdojnjognccaaMapRange
import Derived.Test.YtmmdojnjognccaaRightN
import Derived.Test.YtmmdojnjognccaaCol
namespace Go.Proofs.Ytmmdojnjognccaa
open Go.RowKit

/-! ### In plain Lean -/

structure AreaP where
  data : List UInt8
  safe : Int
abbrev Areas := List (ByteArray × AreaP)
structure DS where
  areas : Areas
  room : Int
  steps : Int
  fuse : Int
  down : Bool
def sumF : Areas → Int
  | [] => 0
  | p :: r => p.2.safe + sumF r
def nameOk (k : ByteArray) : Bool := rightL k.data.toList
def get0 (k : ByteArray) (l : Areas) : AreaP := (alGet k l).getD ⟨[], 0⟩
def barsF (s : DS) (k : ByteArray) (there : Bool) : Nat := if s.down = true then 2 else if nameOk k = false then 40 else if there = true ∧ alGet k s.areas = none then 41 else 0
def stepF (s : DS) : DS × Bool := if s.fuse = 1 then ({ s with fuse := 0, down := true }, false) else ({ s with fuse := max 0 (s.fuse - 1), steps := s.steps + 1 }, true)
def doneN (b : Bool) : Nat := if b = true then 0 else 2
def putF (s : DS) (k : ByteArray) (a : AreaP) : DS := { s with areas := alPut k a s.areas }
def newF (room : Int) : DS := ⟨[], max 0 (min room 4194304), 0, 0, false⟩
def appendF (s : DS) (k : ByteArray) (d : List UInt8) : DS × Nat :=
  if barsF s k false ≠ 0 then (s, barsF s k false)
  else if alGet k s.areas = none ∧ 64 ≤ s.areas.length then (s, 43)
  else if 4194304 - ((get0 k s.areas).data.length : Int) < d.length then (s, 12)
  else ((stepF (putF s k ⟨(get0 k s.areas).data ++ d, (get0 k s.areas).safe⟩)).1, doneN (stepF s).2)
def syncF (s : DS) (k : ByteArray) : DS × Nat :=
  if barsF s k true ≠ 0 then (s, barsF s k true)
  else if s.room < sumF s.areas - (get0 k s.areas).safe + (get0 k s.areas).data.length then (s, 42)
  else if (stepF s).2 = false then ((stepF s).1, 2)
  else (putF (stepF s).1 k ⟨(get0 k s.areas).data, (get0 k s.areas).data.length⟩, 0)
def cutA (a : AreaP) (n : Int) : AreaP := ⟨a.data.take n.toNat, min a.safe n⟩
def cutF (s : DS) (k : ByteArray) (n : Int) : DS × Nat :=
  if barsF s k true ≠ 0 then (s, barsF s k true)
  else if n < 0 ∨ ((get0 k s.areas).data.length : Int) < n then (s, 1)
  else if (stepF s).2 = false then ((stepF s).1, 2)
  else (putF (stepF s).1 k (cutA (get0 k s.areas) n), 0)
def moveF (s : DS) (f t : ByteArray) : DS × Nat :=
  if barsF s f true ≠ 0 then (s, barsF s f true)
  else if nameOk t = false then (s, 40)
  else if (stepF s).2 = false then ((stepF s).1, 2)
  else ({ (stepF s).1 with areas := alPut t (get0 f s.areas) (alDel f s.areas) }, 0)
def dropF (s : DS) (k : ByteArray) : DS × Nat :=
  if barsF s k true ≠ 0 then (s, barsF s k true)
  else if (stepF s).2 = false then ((stepF s).1, 2)
  else ({ (stepF s).1 with areas := alDel k s.areas }, 0)
def readF (s : DS) (k : ByteArray) : List UInt8 × Nat := if barsF s k true ≠ 0 then ([], barsF s k true) else ((get0 k s.areas).data, 0)
def fuseF (s : DS) (n : Int) : DS := { s with fuse := max 0 n }
def keepN (a : AreaP) (k : Option Int) : Int := a.safe + (match k with
  | some v => max 0 (min v ((a.data.length : Int) - a.safe))
  | none => 0)
def crashA (s : DS) (a : AreaP) (k : Option Int) : Int := max a.safe (min (keepN a k) (s.room - sumF s.areas + a.safe))
def crash1 (s : DS) (n : ByteArray) (k : Option Int) : DS := putF s n ⟨(get0 n s.areas).data.take (crashA s (get0 n s.areas) k).toNat, crashA s (get0 n s.areas) k⟩
def crashUp (ns : List ByteArray) (keep : List Int) (s : DS) : Nat → DS
  | 0 => s
  | i + 1 => crash1 (crashUp ns keep s i) (ns[i]?.getD ByteArray.empty) keep[i]?
def ofL (l : List UInt8) : ByteArray := ⟨l.toArray⟩
def toL (k : ByteArray) : List UInt8 := k.data.toList
theorem ofL_toL (k : ByteArray) : ofL (toL k) = k := by unfold ofL toL; simp
def sortN (ns : List ByteArray) : List ByteArray := ((ns.map toL).mergeSort fun x y => decide (x ≤ y)).map ofL
def namesF (s : DS) : List ByteArray := sortN (s.areas.map (·.1))
def crashF (s : DS) (keep : List Int) : DS := { crashUp (namesF s) keep s (namesF s).length with fuse := 0, down := false }
def imageF (s : DS) : List (ByteArray × AreaP) := (namesF s).map fun k => (k, get0 k s.areas)

/-- What holds of every disk. -/
structure DOk (s : DS) : Prop where
  room : 0 ≤ s.room ∧ s.room ≤ 4194304
  keys : (s.areas.map (·.1)).Nodup
  len : s.areas.length ≤ 64
  each : ∀ x ∈ s.areas, 0 ≤ x.2.safe ∧ x.2.safe ≤ x.2.data.length ∧ x.2.data.length ≤ 140737488355328
  names : ∀ x ∈ s.areas, nameOk x.1 = true
  steps : 0 ≤ s.steps ∧ s.steps ≤ 4611686018427387904
  fuse : 0 ≤ s.fuse ∧ s.fuse ≤ 9223372036854775807

theorem sumF_put (k : ByteArray) (a : AreaP) (l : Areas) : sumF (alPut k a l) = sumF l - (get0 k l).safe + a.safe := by
  induction l with
  | nil => simp [alPut, sumF, get0, alGet_nil]
  | cons p r ih =>
    unfold alPut get0
    rw [alGet_cons]
    by_cases h : k = p.1
    · rw [if_pos h, if_pos h]; simp [sumF]; omega
    · rw [if_neg h, if_neg h]; unfold sumF; rw [ih]; unfold get0; omega
theorem sumF_del (k : ByteArray) (l : Areas) : sumF (alDel k l) = sumF l - (get0 k l).safe := by
  induction l with
  | nil => simp [alDel, sumF, get0, alGet_nil]
  | cons p r ih =>
    unfold alDel get0
    rw [alGet_cons]
    by_cases h : k = p.1
    · rw [if_pos h, if_pos h]; simp [sumF]; omega
    · rw [if_neg h, if_neg h]; unfold sumF; rw [ih]; unfold get0; omega
theorem sumF_bound : ∀ (l : Areas) (B : Int), (∀ x ∈ l, 0 ≤ x.2.safe ∧ x.2.safe ≤ B) → 0 ≤ sumF l ∧ sumF l ≤ l.length * B
  | [], B, _ => by simp [sumF]
  | p :: r, B, h => by
    have h1 := h p (by simp)
    have h2 := sumF_bound r B (fun x hx => h x (by simp [hx]))
    have e : ((p :: r).length : Int) * B = r.length * B + B := by rw [List.length_cons, Int.natCast_add, Int.add_mul]; omega
    rw [e]
    unfold sumF
    omega
theorem DOk.sum {s : DS} (h : DOk s) : 0 ≤ sumF s.areas ∧ sumF s.areas ≤ 9007199254740992 := by
  have h1 := sumF_bound s.areas 140737488355328 (fun x hx => by have := h.each x hx; omega)
  have h2 := h.len
  have h3 : (s.areas.length : Int) * 140737488355328 ≤ 64 * 140737488355328 := Int.mul_le_mul_of_nonneg_right (by omega) (by omega)
  omega
theorem DOk.get {s : DS} (h : DOk s) (k : ByteArray) : 0 ≤ (get0 k s.areas).safe ∧ (get0 k s.areas).safe ≤ (get0 k s.areas).data.length ∧ (get0 k s.areas).data.length ≤ 140737488355328 := by
  unfold get0
  cases hg : alGet k s.areas with
  | none => simp
  | some a => exact h.each _ (alGet_mem hg)
theorem mem_alPut {k : ByteArray} {a : AreaP} {l : Areas} {x : ByteArray × AreaP} (h : x ∈ alPut k a l) : x = (k, a) ∨ x ∈ l := by
  induction l with
  | nil => simpa [alPut] using h
  | cons p r ih =>
    unfold alPut at h
    split at h
    · rcases List.mem_cons.1 h with h | h
      · exact Or.inl h
      · exact Or.inr (List.mem_cons_of_mem _ h)
    · rcases List.mem_cons.1 h with h | h
      · exact Or.inr (by rw [h]; simp)
      · rcases ih h with h | h
        · exact Or.inl h
        · exact Or.inr (List.mem_cons_of_mem _ h)
theorem mem_alDel {k : ByteArray} {l : Areas} {x : ByteArray × AreaP} (h : x ∈ alDel k l) : x ∈ l := by
  induction l with
  | nil => simp [alDel] at h
  | cons p r ih =>
    unfold alDel at h
    split at h
    · exact List.mem_cons_of_mem _ h
    · rcases List.mem_cons.1 h with h | h
      · rw [h]; simp
      · exact List.mem_cons_of_mem _ (ih h)
theorem alPut_length' (k : ByteArray) (a : AreaP) (l : Areas) (h : alGet k l ≠ none) : (alPut k a l).length = l.length := by
  induction l with
  | nil => simp [alGet_nil] at h
  | cons p r ih =>
    rw [alGet_cons] at h
    unfold alPut
    split
    · rfl
    · rename_i hk
      rw [if_neg hk] at h
      simp [ih h]

theorem alDelS_lt' (k : ByteArray) (l : Areas) (h : alGet k l ≠ none) : (alDel k l).length < l.length := by
  induction l with
  | nil => simp [alGet_nil] at h
  | cons p r ih =>
    rw [alGet_cons] at h
    unfold alDel
    split
    · simp
    · rename_i hk
      rw [if_neg hk] at h
      have := ih h
      simp; omega

/-! ### Where it lies -/

/-- An area and the place of its bytes. -/
structure Ar where
  data : List UInt8
  safe : Int
  ao : Option Addr
  cap : Nat
def Ar.val (e : Ar) : Value := .agg #[.slice e.ao e.data.length e.cap, .int .i64 e.safe]
def Ar.abs (e : Ar) : AreaP := ⟨e.data, e.safe⟩
abbrev ArM := List (ByteArray × Ar)
def mapV (M : ArM) : List (ByteArray × Value) := M.map fun x => (x.1, x.2.val)
def absL (M : ArM) : Areas := M.map fun x => (x.1, x.2.abs)
structure DR where
  b : Nat
  G : ByteArray → Nat → Prop
  M : ArM
def zArea : Value := .agg #[.slice none 0 0, .int .i64 0]
def S3 (i : Nat) (c : Nat) : Prop := i < c ∧ c ≤ i + 3

structure DskAt (col : Nat → Nat) (i : Nat) (w : World) (p : Nat) (s : DS) (r : DR) : Prop where
  box : w.heap[p]? = some (.cells #[.map (some r.b), .int .i64 s.room, .int .i64 s.steps, .int .i64 s.fuse, .bool s.down] 66 (0, 0))
  pc : col p = i + 1
  map : MapIs encS w r.b (mapV r.M)
  bc : col r.b = i + 2
  abs : s.areas = absL r.M
  own : ∀ x ∈ r.M, Own (r.G x.1) w 5 1 x.2.ao x.2.data.length x.2.cap (bv x.2.data)
  none_ : ∀ k, alGet k r.M = none → ∀ j, ¬ r.G k j
  disj : ∀ a c j, r.G a j → r.G c j → a = c
  gcol : ∀ a j, r.G a j → col j = i + 3
theorem DskAt.beside {col : Nat → Nat} {i : Nat} {w w' : World} {p : Nat} {s : DS} {r : DR} (h : DskAt col i w p s r) {S : Nat → Prop} (k : Kp (fun j => S (col j)) w w') (hd : ∀ c, S3 i c → ¬ S c) : DskAt col i w' p s r :=
  ⟨k.heap h.box (fun c => hd _ (by rw [h.pc]; unfold S3; omega) c), h.pc, h.map.kp k (fun c => hd _ (by rw [h.bc]; unfold S3; omega) c), h.bc, h.abs,
    fun x hx => (h.own x hx).kp k (fun j hj c => hd _ (by rw [h.gcol _ j hj]; unfold S3; omega) c), h.none_, h.disj, h.gcol⟩
theorem DskAt.keep {col : Nat → Nat} {i : Nat} {w w' : World} {p : Nat} {s : DS} {r : DR} (h : DskAt col i w p s r) (k : Kp Noone w w') : DskAt col i w' p s r :=
  h.beside (S := fun _ => False) (k.mono (fun _ _ c => c.elim)) (fun _ _ c => c)
theorem DskAt.lt {col : Nat → Nat} {i : Nat} {w : World} {p : Nat} {s : DS} {r : DR} (h : DskAt col i w p s r) : p < w.heap.size := (Array.getElem?_eq_some_iff.1 h.box).1
theorem DskAt.recol {B : Nat} {col col' : Nat → Nat} {i : Nat} {w : World} {p : Nat} {s : DS} {r : DR} (h : DskAt col i w p s r) (hc : Cols B w col) (e : ∀ j, j < w.heap.size → col' j = col j) : DskAt col' i w p s r :=
  ⟨h.box, (e _ h.lt).trans h.pc, h.map, (e _ h.map.lt).trans h.bc, h.abs, h.own, h.none_, h.disj, fun a j hj => by
    have h1 := h.gcol a j hj
    have h2 := hc j (by omega)
    rw [e j h2.2, h1]⟩
theorem cells_five {w : World} {p e : Nat} {c0 c1 c2 c3 c4 : Value} (h : w.heap[p]? = some (.cells #[c0, c1, c2, c3, c4] e (0, 0))) :
    (w.cell? ⟨p, 0, none⟩ = some c0 ∧ w.cell? ⟨p, 1, none⟩ = some c1 ∧ w.cell? ⟨p, 2, none⟩ = some c2 ∧ w.cell? ⟨p, 3, none⟩ = some c3 ∧ w.cell? ⟨p, 4, none⟩ = some c4) ∧ ∀ i, w.frozen? ⟨p, i, none⟩ = false := by
  refine ⟨⟨?_, ?_, ?_, ?_, ?_⟩, fun i => by simp [World.frozen?, h]⟩
  · rw [cell_of_row w p 0 _ e (0, 0) h]; rfl
  · rw [cell_of_row w p 1 _ e (0, 0) h]; rfl
  · rw [cell_of_row w p 2 _ e (0, 0) h]; rfl
  · rw [cell_of_row w p 3 _ e (0, 0) h]; rfl
  · rw [cell_of_row w p 4 _ e (0, 0) h]; rfl

theorem get_mapV (k : ByteArray) (M : ArM) : alGet k (mapV M) = (alGet k M).map Ar.val := alGet_map Ar.val k M
theorem get_absL (k : ByteArray) (M : ArM) : alGet k (absL M) = (alGet k M).map Ar.abs := alGet_map Ar.abs k M
/-- What a look-up finds. -/
theorem DskAt.look {col : Nat → Nat} {i : Nat} {w : World} {p : Nat} {s : DS} {r : DR} (h : DskAt col i w p s r) (k : ByteArray) :
    ∃ ao cap, (alGet k (mapV r.M)).getD zArea = .agg #[.slice ao (get0 k s.areas).data.length cap, .int .i64 (get0 k s.areas).safe] ∧ Own (r.G k) w 5 1 ao (get0 k s.areas).data.length cap (bv (get0 k s.areas).data) ∧ (alGet k (mapV r.M)).isSome = (alGet k s.areas).isSome := by
  unfold get0
  rw [h.abs, get_mapV, get_absL]
  cases hg : alGet k r.M with
  | none => exact ⟨none, 0, rfl, Own.nil _ _ _ _ _, rfl⟩
  | some e => exact ⟨e.ao, e.cap, rfl, h.own (k, e) (alGet_mem hg), rfl⟩
theorem DskAt.length {col : Nat → Nat} {i : Nat} {w : World} {p : Nat} {s : DS} {r : DR} (h : DskAt col i w p s r) : (mapV r.M).length = s.areas.length := by
  rw [h.abs]; unfold mapV absL; simp
theorem mem_alPut' {V : Type} {k : ByteArray} {a : V} {l : List (ByteArray × V)} (hn : (l.map (·.1)).Nodup) {x : ByteArray × V} (h : x ∈ alPut k a l) : x = (k, a) ∨ (x ∈ l ∧ x.1 ≠ k) := by
  have h1 := alGet_of_mem (alPut_keys k a l hn) (k := x.1) (v := x.2) h
  rw [alGet_put] at h1
  by_cases c : x.1 = k
  · rw [if_pos c] at h1
    left
    rw [← c]
    injection h1 with h1
    rw [h1]
  · rw [if_neg c] at h1
    exact Or.inr ⟨alGet_mem h1, c⟩
theorem mem_alDel' {V : Type} {k : ByteArray} {l : List (ByteArray × V)} (hn : (l.map (·.1)).Nodup) {x : ByteArray × V} (h : x ∈ alDel k l) : x ∈ l ∧ x.1 ≠ k := by
  rw [alDel_eq k l hn, List.mem_filter] at h
  refine ⟨h.1, fun c => ?_⟩
  have := h.2
  simp [c] at this
theorem DskAt.mkeys {col : Nat → Nat} {i : Nat} {w : World} {p : Nat} {s : DS} {r : DR} (h : DskAt col i w p s r) : (r.M.map (·.1)).Nodup := by
  have := h.map.keys
  unfold mapV at this
  simpa [List.map_map, Function.comp_def] using this

/-- An area's bytes (and perhaps new blocks) were written, then the map took the area. -/
theorem DskAt.putX {B : Nat} {col : Nat → Nat} {i : Nat} {w w2 w3 : World} {p : Nat} {s : DS} {r : DR} (h : DskAt col i w p s r) (hc : Cols B w col) (hB : B ≤ w.heap.size) (k : ByteArray) (e : Ar) {F : Nat → Prop}
    {X : Nat → Prop} (hX : ∀ j, X j → col j = 0) (k12 : Kp (fun j => r.G k j ∨ X j) w w2) (ho : Own F w2 5 1 e.ao e.data.length e.cap (bv e.data)) (hF : ∀ j, F j → r.G k j ∨ (w.heap.size ≤ j ∧ j < w2.heap.size) ∨ (col j = i + 3 ∧ ∀ a, ¬ r.G a j))
    (m : MapTo encS w2 w3 r.b (alPut k e.val (mapV r.M))) :
    ∃ col' r', DskAt col' i w3 p (putF s k e.abs) r' ∧ Cols B w3 col' ∧ (∀ j, j < w.heap.size → col' j = col j) ∧ (∀ j, w.heap.size ≤ j → col' j ≠ 0 → S3 i (col' j)) ∧ Kp (fun j => S3 i (col j) ∨ X j) w w3 := by
  have s12 := k12.size
  have s23 := m.2.size
  have hold : ∀ j, j < w.heap.size → paint col w w2 (i + 3) j = col j := fun j hj => by unfold paint; rw [if_neg (by omega)]
  have hnew : ∀ j, w.heap.size ≤ j → j < w2.heap.size → paint col w w2 (i + 3) j = i + 3 := fun j a b => by unfold paint; rw [if_pos ⟨a, b⟩]
  have hlt : ∀ a j, r.G a j → j < w.heap.size := fun a j hj => (hc j (by have := h.gcol a j hj; omega)).2
  have hpb : p ≠ r.b := fun c => by have h1 := h.pc; have h2 := h.bc; rw [c] at h1; omega
  have hGb : ∀ a j, r.G a j → j ≠ r.b := fun a j hj c => by have h1 := h.gcol a j hj; have h2 := h.bc; rw [c] at h1; omega
  have hGp : ∀ j, r.G k j → j ≠ p := fun j hj c => by have h1 := h.gcol k j hj; have h2 := h.pc; rw [c] at h1; omega
  have hbl := h.map.lt
  have k13 : Kp (fun j => (r.G k j ∨ X j) ∨ j = r.b) w w3 := (k12.mono (fun j _ c => Or.inl c)).trans' m.2 (fun j _ c => Or.inr c)
  have hXG : ∀ a j, r.G a j → ¬ X j := fun a j hj c => by have h1 := h.gcol a j hj; have h2 := hX j c; omega
  refine ⟨paint col w w2 (i + 3), ⟨r.b, fun a j => if a = k then (r.G k j ∨ F j) else r.G a j, alPut k e r.M⟩, ⟨?_, ?_, ?_, ?_, ?_, ?_, ?_, ?_, ?_⟩, ?_, hold, ?_, ?_⟩
  · exact k13.heap h.box (fun c => by
      rcases c with (c | c) | c
      · exact hGp _ c rfl
      · have h1 := h.pc; have h2 := hX _ c; omega
      · exact hpb c)
  · rw [hold _ h.lt]; exact h.pc
  · have e1 : mapV (alPut k e r.M) = alPut k e.val (mapV r.M) := (alPut_map Ar.val k e r.M).symm
    show MapIs encS w3 r.b (mapV (alPut k e r.M))
    rw [e1]; exact m.1
  · rw [hold _ hbl]; exact h.bc
  · show alPut k e.abs s.areas = absL (alPut k e r.M)
    rw [h.abs]; exact alPut_map Ar.abs k e r.M
  · intro x hx
    rcases mem_alPut' h.mkeys hx with rfl | ⟨hx, hxk⟩
    · simp only [if_true]
      refine (ho.mono (fun j _ c => Or.inr c)).kp m.2 (fun j c d => ?_)
      have c : r.G k j ∨ (w.heap.size ≤ j ∧ j < w2.heap.size) ∨ (col j = i + 3 ∧ ∀ a, ¬ r.G a j) := c.elim Or.inl (hF j)
      rcases c with c | c | c
      · exact hGb _ _ c d
      · omega
      · have := h.bc; rw [← d] at this; omega
    · simp only [if_neg hxk]
      refine (h.own x hx).kp k13 (fun j c d => ?_)
      rcases d with (d | d) | d
      · exact hxk (h.disj _ _ _ c d)
      · exact hXG _ _ c d
      · exact hGb _ _ c d
  · intro a ha j hj
    rw [alGet_put] at ha
    by_cases c : a = k
    · rw [if_pos c] at ha; cases ha
    · rw [if_neg c] at ha
      simp only [if_neg c] at hj
      exact h.none_ a ha j hj
  · intro a c j ha hc'
    by_cases e1 : a = k <;> by_cases e2 : c = k
    · rw [e1, e2]
    · simp only [if_pos e1, if_neg e2] at ha hc'
      have := hlt _ _ hc'
      rcases ha.elim Or.inl (hF j) with ha | ha | ha
      · rw [e1]; exact h.disj _ _ _ ha hc'
      · omega
      · exact absurd hc' (ha.2 _)
    · simp only [if_neg e1, if_pos e2] at ha hc'
      have := hlt _ _ ha
      rcases hc'.elim Or.inl (hF j) with hc' | hc' | hc'
      · rw [e2]; exact h.disj _ _ _ ha hc'
      · omega
      · exact absurd ha (hc'.2 _)
    · simp only [if_neg e1, if_neg e2] at ha hc'
      exact h.disj _ _ _ ha hc'
  · intro a j hj
    by_cases e1 : a = k
    · simp only [if_pos e1] at hj
      rcases hj.elim Or.inl (hF j) with hj | hj | hj
      · rw [hold _ (hlt _ _ hj)]; exact h.gcol _ _ hj
      · exact hnew j hj.1 hj.2
      · rw [hold _ (hc j (by omega)).2]; exact hj.1
    · simp only [if_neg e1] at hj
      rw [hold _ (hlt _ _ hj)]; exact h.gcol _ _ hj
  · exact (hc.paint hB s12 (i + 3)).keep s23
  · intro j hj hn
    by_cases c : j < w2.heap.size
    · rw [hnew j hj c]; unfold S3; omega
    · exfalso
      apply hn
      unfold paint
      rw [if_neg (fun d => c d.2)]
      exact Classical.byContradiction fun d => by have := (hc j d).2; omega
  · refine k13.mono (fun j hj c => ?_)
    rcases c with (c | c) | c
    · left; rw [h.gcol _ _ c]; unfold S3; omega
    · exact Or.inr c
    · left; rw [c, h.bc]; unfold S3; omega

theorem DskAt.put {B : Nat} {col : Nat → Nat} {i : Nat} {w w2 w3 : World} {p : Nat} {s : DS} {r : DR} (h : DskAt col i w p s r) (hc : Cols B w col) (hB : B ≤ w.heap.size) (k : ByteArray) (e : Ar) {F : Nat → Prop}
    (k12 : Kp (r.G k) w w2) (ho : Own F w2 5 1 e.ao e.data.length e.cap (bv e.data)) (hF : ∀ j, F j → r.G k j ∨ (w.heap.size ≤ j ∧ j < w2.heap.size))
    (m : MapTo encS w2 w3 r.b (alPut k e.val (mapV r.M))) :
    ∃ col' r', DskAt col' i w3 p (putF s k e.abs) r' ∧ Cols B w3 col' ∧ (∀ j, j < w.heap.size → col' j = col j) ∧ (∀ j, w.heap.size ≤ j → col' j ≠ 0 → S3 i (col' j)) ∧ Kp (fun j => S3 i (col j)) w w3 := by
  obtain ⟨c, r', h1, h2, h3, h4, h5⟩ := h.putX hc hB k e (X := Noone) (fun _ c => c.elim) (k12.mono (fun j _ c => Or.inl c)) ho (fun j c => (hF j c).elim Or.inl (fun c => Or.inr (Or.inl c))) m
  exact ⟨c, r', h1, h2, h3, h4, h5.mono (fun j _ c => c.elim id (fun c => c.elim))⟩

/-- An area went. -/
theorem DskAt.del {col : Nat → Nat} {i : Nat} {w w3 : World} {p : Nat} {s : DS} {r : DR} (h : DskAt col i w p s r) (k : ByteArray) (m : MapTo encS w w3 r.b (alDel k (mapV r.M))) :
    DskAt col i w3 p { s with areas := alDel k s.areas } ⟨r.b, fun a j => a ≠ k ∧ r.G a j, alDel k r.M⟩ := by
  have hpb : p ≠ r.b := fun c => by have h1 := h.pc; have h2 := h.bc; rw [c] at h1; omega
  have hGb : ∀ a j, r.G a j → j ≠ r.b := fun a j hj c => by have h1 := h.gcol a j hj; have h2 := h.bc; rw [c] at h1; omega
  refine ⟨m.2.heap h.box (fun c => hpb c), h.pc, ?_, h.bc, ?_, ?_, ?_, ?_, ?_⟩
  · have e1 : mapV (alDel k r.M) = alDel k (mapV r.M) := (alDel_map Ar.val k r.M).symm
    show MapIs encS w3 r.b (mapV (alDel k r.M))
    rw [e1]; exact m.1
  · show alDel k s.areas = absL (alDel k r.M)
    rw [h.abs]; exact alDel_map Ar.abs k r.M
  · intro x hx
    obtain ⟨h1, h2⟩ := mem_alDel' h.mkeys hx
    exact ((h.own x h1).kp m.2 (fun j c d => hGb _ _ c d)).mono (fun j _ c => ⟨h2, c⟩)
  · intro a ha j hj
    rw [alGet_del _ _ _ h.mkeys, if_neg hj.1] at ha
    exact h.none_ a ha j hj.2
  · exact fun a c j ha hc => h.disj a c j ha.2 hc.2
  · exact fun a j hj => h.gcol a j hj.2

end Go.Proofs.Ytmmdojnjognccaa
