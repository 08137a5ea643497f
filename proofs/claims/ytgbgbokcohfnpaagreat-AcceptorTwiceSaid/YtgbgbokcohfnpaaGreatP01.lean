/-
  The texts DiskBase in one: what the claim reaches of them.
-/
import Derived.WalkKit
import Derived.WalkSpells
import Derived.WalkLawsBesides
import Derived.Lib.Hide
import Derived.Deep.QuietTactic
import Derived.BigQuiet
import Derived.Lib.SlBytesConst
import Derived.Deep.RegionLaw
import Derived.Deep.LoopGhost
import Derived.ChangeKeysEq
import Derived.Test.YtgbgbokcohfnpaaGreatProg
import Derived.MapKept
import Derived.ChangeMaps4
import Derived.Carry
import Derived.Maps.RangeRun
/-
  Base, App, Same, Map, MapRange, Col, Ext in one text.
-/
/-
  PLAIN LEMMAS, NO PROGRAM: frames of worlds (Kp), rows of cells, byte slices, what append, make and slicing do to them.
-/
namespace Go.Proofs.YtgbgbokcohfnpaaGreat
open Go.RowKit

/-! ### Frames -/

/-- From w to w' no old block outside S has changed; the streams are as they were. -/
structure Kp (S : Nat → Prop) (w w' : World) : Prop where
  os : w'.os = w.os
  tape : w'.tape = w.tape
  output : w'.output = w.output
  size : w.heap.size ≤ w'.heap.size
  block : ∀ k, k < w.heap.size → ¬ S k → w'.heap[k]? = w.heap[k]?

def Noone : Nat → Prop := fun _ => False

theorem Kp.refl (S : Nat → Prop) (w : World) : Kp S w w := ⟨rfl, rfl, rfl, Nat.le_refl _, fun _ _ _ => rfl⟩
theorem Kp.mono {S T : Nat → Prop} {w w' : World} (h : Kp S w w') (hs : ∀ k, k < w.heap.size → S k → T k) : Kp T w w' :=
  ⟨h.os, h.tape, h.output, h.size, fun k hk hn => h.block k hk (fun c => hn (hs k hk c))⟩
/-- Two steps: the second one may also touch what is newer than the first world. -/
theorem Kp.trans' {S T : Nat → Prop} {a b c : World} (h : Kp S a b) (k : Kp T b c) (ht : ∀ k, k < a.heap.size → T k → S k) : Kp S a c :=
  ⟨k.os.trans h.os, k.tape.trans h.tape, k.output.trans h.output, Nat.le_trans h.size k.size,
   fun i hi hn => (k.block i (Nat.lt_of_lt_of_le hi h.size) (fun c => hn (ht i hi c))).trans (h.block i hi hn)⟩
theorem Kp.trans {S : Nat → Prop} {a b c : World} (h : Kp S a b) (k : Kp S b c) : Kp S a c := h.trans' k (fun _ _ h => h)
theorem Kp.none {S : Nat → Prop} {w w' : World} (h : Kp Noone w w') : Kp S w w' := h.mono (fun _ _ c => c.elim)
theorem Kp.below {w w' : World} (h : Kp Noone w w') : Below w.heap.size w w' :=
  ⟨h.os, h.tape, h.output, h.size, fun k hk => h.block k hk id⟩
theorem Kp.alloc {S : Nat → Prop} {a w : World} (h : Kp S a w) (o : Obj) : Kp S a (w.alloc o) :=
  h.trans ⟨rfl, rfl, rfl, by simp, fun k hk _ => Below.heap_alloc _ _ _ hk⟩
theorem Kp.drew {S : Nat → Prop} {a w : World} (h : Kp S a w) : Kp S a w.drew := ⟨h.os, h.tape, h.output, h.size, h.block⟩
theorem Kp.drewN {S : Nat → Prop} {a w : World} (h : Kp S a w) (n : Nat) : Kp S a (w.drewN n) := ⟨h.os, h.tape, h.output, h.size, h.block⟩
theorem Kp.setCell {S : Nat → Prop} {a w : World} (h : Kp S a w) {p : Addr} (hp : p.block < a.heap.size → S p.block) (u : Value) : Kp S a (w.setCell p u) :=
  ⟨h.os, h.tape, h.output, by simp only [World.setCell, Array.size_modify]; exact h.size, fun k hk hn => by
    rw [Below.heap_setCell _ _ _ _ (fun e => hn (by subst e; exact hp hk))]
    exact h.block k hk hn⟩
theorem Kp.cell {S : Nat → Prop} {w w' : World} (h : Kp S w w') {p : Addr} {v : Value} (hc : w.cell? p = some v) (hp : ¬ S p.block) : w'.cell? p = some v :=
  (World.cell?_of_block (h.block p.block (World.block_lt_of_cell? w p hc) hp)).trans hc
theorem Kp.heap {S : Nat → Prop} {w w' : World} (h : Kp S w w') {k : Nat} {o : Obj} (hc : w.heap[k]? = some o) (hp : ¬ S k) : w'.heap[k]? = some o :=
  (h.block k (Array.getElem?_eq_some_iff.1 hc).1 hp).trans hc

/-! ### Rows of cells -/

/-- The address leads to these cells (nothing is said of the address where there are none). -/
def Row (w : World) (ao : Option Addr) (xs : List Value) : Prop :=
  xs = [] ∨ ∃ b off, ao = some ⟨b, off, none⟩ ∧ ∀ i (h : i < xs.length), w.cell? ⟨b, off + i, none⟩ = some xs[i]

/-- All cells of the row lie in blocks that S does not hold. -/
def Off (S : Nat → Prop) (ao : Option Addr) : Prop := ∀ a, ao = some a → ¬ S a.block

theorem Off.none' (ao : Option Addr) : Off Noone ao := fun _ _ c => c.elim

theorem Row.nil (w : World) (ao : Option Addr) : Row w ao [] := Or.inl rfl
theorem Row.kp {S : Nat → Prop} {w w' : World} {ao : Option Addr} {xs : List Value} (h : Row w ao xs) (k : Kp S w w') (ho : Off S ao) : Row w' ao xs := by
  rcases h with h | ⟨b, off, rfl, h⟩
  · exact Or.inl h
  · exact Or.inr ⟨b, off, rfl, fun i hi => k.cell (h i hi) (by exact ho ⟨b, off, none⟩ rfl)⟩
theorem Row.keep {w w' : World} {ao : Option Addr} {xs : List Value} (h : Row w ao xs) (k : Kp Noone w w') : Row w' ao xs := h.kp k (Off.none' _)

theorem Row.lt {w : World} {ao : Option Addr} {xs : List Value} (h : Row w ao xs) (hx : xs ≠ []) : ∃ a, ao = some a ∧ a.block < w.heap.size := by
  rcases h with h | ⟨b, off, rfl, h⟩
  · exact (hx h).elim
  · have hl : 0 < xs.length := List.length_pos_iff.2 hx
    exact ⟨_, rfl, World.block_lt_of_cell? w _ (h 0 hl)⟩

theorem Row.sub {w : World} {ao : Option Addr} {xs : List Value} (h : Row w ao xs) (lo : Nat) (cap : Nat) (hc : xs.length ≤ cap) (ys : List Value) (hy : ys <+: xs.drop lo) :
    Row w (if cap = lo then ao else ao.map (·.add lo)) ys := by
  by_cases hys : ys = []
  · exact Or.inl hys
  · have hlen : ys.length ≤ xs.length - lo := by have := hy.length_le; simpa using this
    have hpos : 0 < ys.length := List.length_pos_iff.2 hys
    rw [if_neg (by omega)]
    rcases h with h | ⟨b, off, rfl, h⟩
    · subst h; simp at hlen; exact (hys hlen).elim
    · refine Or.inr ⟨b, off + lo, by simp [Addr.add_lit], fun i hi => ?_⟩
      rw [Nat.add_assoc, h (lo + i) (by omega)]
      have h1 : ys[i]? = (xs.drop lo)[i]? := by
        obtain ⟨t, ht⟩ := hy
        rw [← ht, List.getElem?_append_left hi]
      rw [List.getElem?_drop, List.getElem?_eq_getElem (show lo + i < xs.length by omega), List.getElem?_eq_getElem hi] at h1
      rw [Option.some.inj h1]

def U8 (b : UInt8) : Value := .int .u8 (b.toNat : Int)
def bv (l : List UInt8) : List Value := l.map U8

/-- A byte slice that came in, or that nothing is known of but what it holds. -/
structure BS (w : World) (ao : Option Addr) (n cap : Nat) (l : List UInt8) : Prop where
  len : l.length = n
  le : n ≤ cap
  max : cap ≤ maxLen
  row : Row w ao (bv l)

theorem length_bv (l : List UInt8) : (bv l).length = l.length := by simp [bv]
theorem BS.kp {S : Nat → Prop} {w w' : World} {ao : Option Addr} {n cap : Nat} {l : List UInt8} (h : BS w ao n cap l) (k : Kp S w w') (ho : Off S ao) : BS w' ao n cap l :=
  ⟨h.len, h.le, h.max, h.row.kp k ho⟩
theorem BS.keep {w w' : World} {ao : Option Addr} {n cap : Nat} {l : List UInt8} (h : BS w ao n cap l) (k : Kp Noone w w') : BS w' ao n cap l := h.kp k (Off.none' _)

/-- The two shapes in which a walk wants a byte slice. -/
theorem BS.parts {w : World} {ao : Option Addr} {n cap : Nat} {l : List UInt8} (h : BS w ao n cap l) :
    (n ≤ 0 ∧ l = []) ∨ ∃ b off, ao = some ⟨b, off, none⟩ ∧ ∀ i (hi : i < l.length), w.cell? ⟨b, off + i, none⟩ = some (.int .u8 (l[i].toNat : Int)) := by
  rcases h.row with hr | ⟨b, off, rfl, hr⟩
  · left
    have h1 := h.len
    have h2 : l = [] := by simpa [bv] using hr
    subst h2
    exact ⟨by simp at h1; omega, rfl⟩
  · right
    refine ⟨b, off, rfl, fun i hi => ?_⟩
    rw [hr i (by simpa [bv] using hi)]
    simp [bv, U8]

/-- Where there is a k-th byte there is an address, and the cell. -/
theorem BS.at {w : World} {ao : Option Addr} {n cap : Nat} {l : List UInt8} (h : BS w ao n cap l) {k : Nat} (hk : k < n) :
    ∃ b off, ∃ hl : k < l.length, ao = some ⟨b, off, none⟩ ∧ b < w.heap.size ∧ w.cell? ⟨b, off + k, none⟩ = some (.int .u8 (l[k].toNat : Int)) := by
  have hl : k < l.length := by rw [h.len]; exact hk
  rcases h.parts with ⟨h0, _⟩ | ⟨b, off, rfl, hr⟩
  · omega
  · exact ⟨b, off, hl, rfl, World.block_lt_of_cell? w _ (hr k hl), hr k hl⟩

/-- A slice of byte slices. -/
structure BSS (w : World) (ao : Option Addr) (n cap : Nat) (ls : List (List UInt8)) : Prop where
  len : ls.length = n
  le : n ≤ cap
  max : cap ≤ maxLen
  row : ∃ hs : List (Option Addr × Nat × Nat), hs.length = n ∧ Row w ao (hs.map fun h => .slice h.1 h.2.1 h.2.2) ∧
    ∀ i (h1 : i < hs.length) (h2 : i < ls.length), BS w hs[i].1 hs[i].2.1 hs[i].2.2 ls[i]

theorem BSS.at {w : World} {ao : Option Addr} {n cap : Nat} {ls : List (List UInt8)} (h : BSS w ao n cap ls) {k : Nat} (hk : k < n) :
    ∃ b off bo m c, ∃ hl : k < ls.length, ao = some ⟨b, off, none⟩ ∧ b < w.heap.size ∧ w.cell? ⟨b, off + k, none⟩ = some (.slice bo m c) ∧ BS w bo m c ls[k] := by
  obtain ⟨h1, _, _, hs, hn, hr, hb⟩ := h
  have hl : k < ls.length := by omega
  have hk' : k < hs.length := by omega
  rcases hr with hr | ⟨b, off, rfl, hr⟩
  · have := congrArg List.length hr
    simp at this
    subst this
    simp at hk'
  · have hc := hr k (by simpa using hk')
    rw [List.getElem_map] at hc
    exact ⟨b, off, _, _, _, hl, rfl, World.block_lt_of_cell? w _ hc, hc, hb k hk' hl⟩
theorem BSS.keep {w w' : World} {ao : Option Addr} {n cap : Nat} {ls : List (List UInt8)} (h : BSS w ao n cap ls) (k : Kp Noone w w') : BSS w' ao n cap ls := by
  obtain ⟨h1, h2, h3, hs, hn, hr, hb⟩ := h
  exact ⟨h1, h2, h3, hs, hn, hr.keep k, fun i a b => (hb i a b).keep k⟩

theorem BSS.one {w : World} {g : Nat} {bo : Option Addr} {m c : Nat} {l : List UInt8} (hc : w.cell? ⟨g, 0, none⟩ = some (.slice bo m c)) (hb : BS w bo m c l) : BSS w (some ⟨g, 0, none⟩) 1 1 [l] := by
  refine ⟨rfl, Nat.le_refl _, by simp [maxLen], [(bo, m, c)], rfl, Or.inr ⟨g, 0, rfl, fun i hi => ?_⟩, fun i h1 h2 => ?_⟩
  · simp at hi; subst hi; simpa using hc
  · simp at h1; subst h1; simpa using hb

/-- A new row of bytes, whole. -/
theorem BS.ofHeap {w : World} {g e n : Nat} {l : List UInt8} {fr : Nat × Nat} (hh : w.heap[g]? = some (.cells (bv l).toArray e fr)) (hn : l.length = n) (hm : n ≤ maxLen) : BS w (some ⟨g, 0, none⟩) n n l :=
  ⟨hn, Nat.le_refl _, hm, Or.inr ⟨g, 0, rfl, fun i hi => by rw [cell_of_row w g _ _ e fr hh]; simp [hi]⟩⟩

theorem u8_beq (x y : UInt8) : ((x.toNat : Int) == (y.toNat : Int)) = (x == y) := by
  rw [Bool.eq_iff_iff, beq_iff_eq, beq_iff_eq]
  exact ⟨fun h => UInt8.toNat_inj.1 (Int.ofNat.inj h), fun h => by rw [h]⟩

/-- Two arrays of bytes, held against each other. -/
theorem run_eqItems_bytes {P : Program} {W : World} (d e : Nat) (he : P.underlying e = some (.int .u8)) (l r : List UInt8) : ∀ is : List Nat, (∀ i ∈ is, i < l.length ∧ i < r.length) →
    (Op.eqItems (d + 1) e 1 (bv l).toArray (bv r).toArray is).run P W = .ok (is.all fun i => l[i]? == r[i]?) W
  | [], _ => by simp [Op.eqItems]
  | i :: is, h => by
    have h1 := (h i (by simp)).1
    have h2 := (h i (by simp)).2
    have ih := run_eqItems_bytes (W := W) d e he l r is (fun j hj => h j (by simp [hj]))
    have q : ∀ (l : List UInt8) (h : i < l.length), (part e (bv l).toArray (i * 1)).run P W = .ok (.int .u8 (l[i].toNat : Int)) W := by
      intro l hl
      simp [part, bv, hl, U8, isAgg, run_underlying he]
    simp only [Op.eqItems, Sem.run_bind, q l h1, q r h2, run_equalIn_int W d e .u8 .u8 _ _ he, Result.andThen_ok, u8_beq]
    by_cases hxy : l[i] = r[i]
    · rw [hxy]
      simp [ih, hxy, h1, h2]
    · simp [hxy, h1, h2]

end Go.Proofs.YtgbgbokcohfnpaaGreat

/-
  PLAIN LEMMAS, NO PROGRAM: a slice that a call owns (Own), and the law of append for it: whatever its address, whatever is appended.
-/
namespace Go.Proofs.YtgbgbokcohfnpaaGreat
open Go.RowKit

/-- A footprint, and what was made since. -/
def Ex (F : Nat → Prop) (w w' : World) : Nat → Prop := fun k => F k ∨ (w.heap.size ≤ k ∧ k < w'.heap.size)
theorem Ex.old {F : Nat → Prop} {w w' : World} {k : Nat} (h : F k) : Ex F w w' k := Or.inl h

/-- The slice (ao, n, cap) of n elements of sz cells each holds xs, in a block of F that nothing else knows of. -/
def Own (F : Nat → Prop) (w : World) (e sz : Nat) (ao : Option Addr) (n cap : Nat) (xs : List Value) : Prop :=
  xs.length = n * sz ∧ n ≤ cap ∧ cap ≤ maxLen ∧
  (cap = 0 ∨ ∃ g off cur, ao = some ⟨g, off, none⟩ ∧ F g ∧ w.heap[g]? = some (.cells cur e (0, 0)) ∧ off + cap * sz ≤ cur.size ∧ ∀ i (h : i < xs.length), cur[off + i]? = some xs[i])

theorem Own.nil (F : Nat → Prop) (w : World) (e sz : Nat) (ao : Option Addr) : Own F w e sz ao 0 0 [] :=
  ⟨by simp, Nat.le_refl _, by simp [maxLen], Or.inl rfl⟩
theorem Own.mono {F G : Nat → Prop} {w : World} {e sz : Nat} {ao : Option Addr} {n cap : Nat} {xs : List Value} (h : Own F w e sz ao n cap xs) (hfg : ∀ k, k < w.heap.size → F k → G k) : Own G w e sz ao n cap xs := by
  obtain ⟨h1, h2, h3, h4⟩ := h
  refine ⟨h1, h2, h3, ?_⟩
  rcases h4 with h4 | ⟨g, off, cur, ha, hg, hh, hr⟩
  · exact Or.inl h4
  · exact Or.inr ⟨g, off, cur, ha, hfg g (Array.getElem?_eq_some_iff.1 hh).1 hg, hh, hr⟩
theorem Own.kp {F S : Nat → Prop} {w w' : World} {e sz : Nat} {ao : Option Addr} {n cap : Nat} {xs : List Value} (h : Own F w e sz ao n cap xs) (k : Kp S w w') (hd : ∀ k, F k → ¬ S k) : Own F w' e sz ao n cap xs := by
  obtain ⟨h1, h2, h3, h4⟩ := h
  refine ⟨h1, h2, h3, ?_⟩
  rcases h4 with h4 | ⟨g, off, cur, ha, hg, hh, hr⟩
  · exact Or.inl h4
  · exact Or.inr ⟨g, off, cur, ha, hg, k.heap hh (hd g hg), hr⟩
theorem Own.keep {F : Nat → Prop} {w w' : World} {e sz : Nat} {ao : Option Addr} {n cap : Nat} {xs : List Value} (h : Own F w e sz ao n cap xs) (k : Kp Noone w w') : Own F w' e sz ao n cap xs := h.kp k (fun _ _ c => c.elim)
theorem Own.row {F : Nat → Prop} {w : World} {e sz : Nat} {ao : Option Addr} {n cap : Nat} {xs : List Value} (h : Own F w e sz ao n cap xs) : Row w ao xs := by
  obtain ⟨h1, h2, h3, h4⟩ := h
  rcases h4 with rfl | ⟨g, off, cur, rfl, hg, hh, hb, hr⟩
  · left
    have : n = 0 := by omega
    subst this
    exact List.eq_nil_of_length_eq_zero (by simpa using h1)
  · exact Or.inr ⟨g, off, rfl, fun i hi => by rw [cell_of_row w g _ cur e (0, 0) hh]; exact hr i hi⟩
/-- A block of its own, whole. -/
theorem Own.fresh {F : Nat → Prop} {w : World} {e sz g n : Nat} {xs : List Value} (hF : F g) (hh : w.heap[g]? = some (.cells xs.toArray e (0, 0))) (hl : xs.length = n * sz) (hm : n ≤ maxLen) : Own F w e sz (some ⟨g, 0, none⟩) n n xs :=
  ⟨hl, Nat.le_refl _, hm, Or.inr ⟨g, 0, xs.toArray, rfl, hF, hh, by simp [hl], fun i hi => by simp [hi]⟩⟩
theorem Own.bs {F : Nat → Prop} {w : World} {e : Nat} {ao : Option Addr} {n cap : Nat} {l : List UInt8} (h : Own F w e 1 ao n cap (bv l)) : BS w ao n cap l :=
  ⟨by have := h.1; simpa [bv] using this, h.2.1, h.2.2.1, h.row⟩

theorem Row.cells {w : World} {ao : Option Addr} {xs : List Value} (h : Row w ao xs) : ∀ a, ao = some a → ∀ j u, xs[j]? = some u → w.cell? (a.add j) = some u := by
  intro a ha j u hu
  obtain ⟨hj, rfl⟩ := List.getElem?_eq_some_iff.1 hu
  rcases h with rfl | ⟨b, off, rfl, h⟩
  · simp at hj
  · obtain rfl := Option.some.inj ha
    rw [Addr.add_lit]
    exact h j hj

theorem run_first {P : Program} {w : World} {ao : Option Addr} {xs : List Value} (h : Row w ao xs) (sz n c1 cap : Nat) (hl : xs.length = n * sz) :
    (Builtin.firstCells sz n (.slice ao c1 cap)).run P w = .ok xs.toArray w := by
  cases ao with
  | none =>
    rcases h with rfl | ⟨b, off, hh, _⟩
    · exact run_firstCells_none w sz n c1 cap
    · cases hh
  | some a => exact run_firstCells_some w sz n a c1 cap xs hl (h.cells a rfl)

theorem zeroCells_size (z : Array Value) (n : Nat) : (Builtin.zeroCells z n).size = n * z.size := by simp [Builtin.zeroCells]

theorem run_append_gen {P : Program} {w : World} {F : Nat → Prop} (t ty e : TypeId) (i : TypeInfo) (z : Value) (sz bytes : Nat) (ht : P.underlying t = some (.slice e)) (hi : P.info? e = some i) (hz : i.zero = some z)
    (hsz : i.size = sz) (hby : i.bytes = bytes) (hzs : z.cells.size = sz)
    {ao : Option Addr} {n cap : Nat} {xs : List Value} (hown : Own F w e sz ao n cap xs)
    {bo : Option Addr} {m c : Nat} {ys : List Value} (hy : ys.length = m * sz) (hrow : Row w bo ys) (hone : ∀ u ∈ ys, u.oneCell' = true)
    (b1 : (n + m) * bytes ≤ 140737488355328) (b2 : n + m ≤ maxLen) :
    ∃ ao' cap' w', (Builtin.append_ #[t, t] ty #[.slice ao n cap, .slice bo m c]).run P w = .ok (.slice ao' (n + m) cap') w' ∧ Own (Ex F w w') w' e sz ao' (n + m) cap' (xs ++ ys) ∧ Kp F w w' := by
  subst hsz hby
  have hlen : (xs ++ ys).length = (n + m) * i.size := by rw [List.length_append, hown.1, hy, Nat.add_mul]
  by_cases hroom : n + m ≤ cap
  · have hf := run_first (P := P) hrow i.size m m c hy
    obtain ⟨h1, h2, h3, h4⟩ := hown
    rcases h4 with rfl | ⟨g, off, cur, rfl, hg, hh, hb, hr⟩
    · have hn : n = 0 := by omega
      have hm : m = 0 := by omega
      subst hn hm
      have hxs : xs = [] := List.eq_nil_of_length_eq_zero (by simpa using h1)
      have hys : ys = [] := List.eq_nil_of_length_eq_zero (by simpa using hy)
      subst hxs hys
      refine ⟨ao, 0, w, ?_, ?_, Kp.refl _ _⟩
      · cases ao with
        | none => simp [Builtin.append_, run_underlying ht, sizeOf, typeInfo, hi, Builtin.lenOf, hf]
        | some a => simp [Builtin.append_, run_underlying ht, sizeOf, typeInfo, hi, Builtin.lenOf, hf, storeCells]
      · exact Own.nil _ _ _ _ _
    · have hfit : off + n * i.size + ys.length ≤ cur.size := by
        rw [hy]
        have : (n + m) * i.size ≤ cap * i.size := Nat.mul_le_mul_right _ hroom
        rw [Nat.add_mul] at this
        omega
      have hst := run_storeCells_at P g (off + n * i.size) e ys 0 cur w hh (by simpa using hfit) hone
      simp only [Nat.add_zero] at hst
      refine ⟨some ⟨g, off, none⟩, cap, w.setRow g (cur.toList.take (off + n * i.size) ++ ys ++ cur.toList.drop (off + n * i.size + ys.length)).toArray, ?_, ?_, ?_⟩
      · simp [Builtin.append_, run_underlying ht, sizeOf, typeInfo, hi, Builtin.lenOf, hroom, hf, Addr.add_lit, hst]
      · refine ⟨hlen, hroom, h3, Or.inr ⟨g, off, _, rfl, Or.inl hg, setRow_heap w g cur _ e (0, 0) hh, ?_, ?_⟩⟩
        · simp only [List.size_toArray, List.length_append, List.length_take, List.length_drop, Array.length_toList]
          omega
        · intro j hj
          have hlt : (cur.toList.take (off + n * i.size)).length = off + n * i.size := by rw [List.length_take, Array.length_toList]; omega
          simp only [List.getElem?_toArray]
          by_cases hjn : j < xs.length
          · rw [List.append_assoc, List.getElem?_append_left (by rw [hlt, ← h1]; omega), List.getElem?_take, if_pos (by rw [← h1]; omega), Array.getElem?_toList, hr j hjn, List.getElem_append_left hjn]
          · have hj' : j < xs.length + ys.length := by simpa using hj
            rw [List.append_assoc, List.getElem?_append_right (by rw [hlt, ← h1]; omega), hlt, List.getElem?_append_left (by rw [← h1]; omega), List.getElem_append_right (by omega),
              List.getElem?_eq_getElem (by rw [← h1]; omega)]
            congr 2
            rw [← h1]; omega
      · refine ⟨rfl, rfl, rfl, by simp, fun k hk hn => setRow_other w g k _ (fun e => hn (e ▸ hg))⟩
  · have hcap : cap < n + m := by omega
    have hn' : ¬ (n + m ≤ cap) := hroom
    have h63' : ¬ (9223372036854775807 < ((n : Int) + (m : Int))) := by unfold maxLen at b2; omega
    have h48 : Builtin.nextslicecap (n + m) cap * i.bytes ≤ 281474976710656 := growslice_fits hcap b1
    have h48' : ¬ (281474976710656 < Builtin.nextslicecap (n + m) cap * i.bytes) := by omega
    have hf := run_first (P := P) (w := w.drew) (ao := bo) (xs := ys) hrow i.size m m c hy
    have hfo := run_first (P := P) (w := w.drew) (ao := ao) (xs := xs) hown.row i.size n n cap hown.1
    have hge := grownCap_ge w (n + m) cap e
    refine ⟨some ⟨w.heap.size, 0, none⟩, grownCap w (n + m) cap e, w.drew.alloc (.cells (xs ++ (ys ++ (Builtin.zeroCells z.cells (grownCap w (n + m) cap e - (n + m))).toList)).toArray e), ?_, ?_, ?_⟩
    · simp [Builtin.append_, run_underlying ht, sizeOf, typeInfo, zeroValue, hi, hz, Builtin.lenOf, hn', h63', h48', Question.forced, hf, hfo, newRow, grownCap]
      congr 2
      apply Array.ext'
      simp
    · refine ⟨hlen, hge, grownCap_le_maxLen w _ _ _ b2, Or.inr ⟨w.heap.size, 0, _, rfl, Or.inr ⟨Nat.le_refl _, by simp⟩, heap_alloc_new w.drew _, ?_, ?_⟩⟩
      · simp only [List.size_toArray, List.length_append, Array.length_toList, zeroCells_size, hzs, hown.1, hy, Nat.zero_add]
        rw [← Nat.add_mul, ← Nat.add_mul]
        exact Nat.mul_le_mul_right _ (by omega)
      · intro j hj
        simp only [Nat.zero_add, List.getElem?_toArray]
        rw [← List.append_assoc, List.getElem?_append_left hj, List.getElem?_eq_getElem hj]
    · exact ((Kp.refl F w).drew).alloc _

theorem wpList_append_gen {P : Program} (w : World) {ops : Array Oper} {rest : List Oper} {o : Oper} {a : Act} {Q : Exit → Act → World → Prop}
    (hg : o.guard = none) (s x : Operand) (t : TypeId) (hop : o.op = Op.call { callee := Callee.builtin Builtin.append, args := #[s, x], argTypes := #[t, t] })
    (e : TypeId) (i : TypeInfo) (z : Value) (sz bytes : Nat) (h1 : P.underlying t = some (.slice e)) (h2 : P.info? e = some i) (h3 : i.zero = some z) (h4 : i.size = sz) (h5 : i.bytes = bytes) (h6 : z.cells.size = sz)
    (ao : Option Addr) (n cap : Nat) (hs : a.eval s = .slice ao n cap) (bo : Option Addr) (m c : Nat) (hx : a.eval x = .slice bo m c)
    (F : Nat → Prop) (xs : List Value) (hown : Own F w e sz ao n cap xs) (ys : List Value) (hy : ys.length = m * sz) (hrow : Row w bo ys) (hone : ∀ u ∈ ys, u.oneCell' = true)
    (b1 : (n + m) * bytes ≤ 140737488355328) (b2 : n + m ≤ maxLen)
    (hK : ∀ ao' cap' w', Own (Ex F w w') w' e sz ao' (n + m) cap' (xs ++ ys) → Kp F w w' → wpList P ops Q rest (a.put o.dst (.slice ao' (n + m) cap')) w') :
    wpList P ops Q (o :: rest) a w := by
  refine wpList_plain hg fun K hK' => ?_
  obtain ⟨ao', cap', w', hrun, r1, r2⟩ := run_append_gen (P := P) (w := w) t o.type e i z sz bytes h1 h2 h3 h4 h5 h6 hown hy hrow hone (c := c) b1 b2
  unfold Oper.wp
  simp [execOp, hop, resolve, invoke, builtin, hs, hx, hrun, Result.andThen]
  exact hK' _ _ (hK ao' cap' w' r1 r2)

/-- The k-th cell of what is owned: where it lies, that it may be written. -/
theorem Own.at {F : Nat → Prop} {w : World} {e sz : Nat} {ao : Option Addr} {n cap : Nat} {xs : List Value} (h : Own F w e sz ao n cap xs) {k : Nat} (hk : k < xs.length) :
    ∃ g off, ao = some ⟨g, off, none⟩ ∧ F g ∧ g < w.heap.size ∧ w.cell? ⟨g, off + k, none⟩ = some xs[k] ∧ w.frozen? ⟨g, off + k, none⟩ = false := by
  obtain ⟨h1, h2, h3, h4⟩ := h
  rcases h4 with rfl | ⟨g, off, cur, rfl, hg, hh, hb, hr⟩
  · have : n = 0 := by omega
    subst this
    rw [h1] at hk
    simp at hk
  · refine ⟨g, off, rfl, hg, (Array.getElem?_eq_some_iff.1 hh).1, by rw [cell_of_row w g _ cur e (0, 0) hh]; exact hr k hk, ?_⟩
    simp [World.frozen?, hh]
/-- .. and what a store there makes of it. -/
theorem Own.set {F : Nat → Prop} {w : World} {e sz : Nat} {g off : Nat} {n cap : Nat} {xs : List Value} (h : Own F w e sz (some ⟨g, off, none⟩) n cap xs) {k : Nat} (hk : k < xs.length) (v : Value) :
    Own F (w.setCell ⟨g, off + k, none⟩ v) e sz (some ⟨g, off, none⟩) n cap (xs.set k v) := by
  obtain ⟨h1, h2, h3, h4⟩ := h
  refine ⟨by rw [List.length_set]; exact h1, h2, h3, ?_⟩
  rcases h4 with rfl | ⟨g', off', cur, he, hg, hh, hb, hr⟩
  · exact Or.inl rfl
  · simp only [Option.some.injEq, Addr.mk.injEq] at he
    obtain ⟨rfl, rfl, _⟩ := he
    refine Or.inr ⟨g, off, cur.setIfInBounds (off + k) v, rfl, hg, ?_, by simpa using hb, fun i hi => ?_⟩
    · simp [World.setCell, Array.getElem?_modify, hh]
    · rw [List.length_set] at hi
      have hkc : off + k < cur.size := by
        have := hr k hk
        exact (Array.getElem?_eq_some_iff.1 this).1
      by_cases hik : i = k
      · subst hik
        simp [hkc]
      · rw [Array.getElem?_setIfInBounds, if_neg (by omega), hr i hi, List.getElem_set_ne (by omega)]

/-- The same as one step of a region that draws its order. -/
theorem step_append_gen {P : Program} {ops : Array Oper} {o : Oper} {a : Act} {w : World} {K : Act → World → Prop} {Q : Exit → Act → World → Prop} {E : Prop}
    (hg : o.guard = none) (s x : Operand) (t : TypeId) (hop : o.op = Op.call { callee := Callee.builtin Builtin.append, args := #[s, x], argTypes := #[t, t] })
    (e : TypeId) (i : TypeInfo) (z : Value) (sz bytes : Nat) (h1 : P.underlying t = some (.slice e)) (h2 : P.info? e = some i) (h3 : i.zero = some z) (h4 : i.size = sz) (h5 : i.bytes = bytes) (h6 : z.cells.size = sz)
    (ao : Option Addr) (n cap : Nat) (hs : a.eval s = .slice ao n cap) (bo : Option Addr) (m c : Nat) (hx : a.eval x = .slice bo m c)
    (F : Nat → Prop) (xs : List Value) (hown : Own F w e sz ao n cap xs) (ys : List Value) (hy : ys.length = m * sz) (hrow : Row w bo ys) (hone : ∀ u ∈ ys, u.oneCell' = true)
    (b1 : (n + m) * bytes ≤ 140737488355328) (b2 : n + m ≤ maxLen)
    (hK : ∀ ao' cap' w', Own (Ex F w w') w' e sz ao' (n + m) cap' (xs ++ ys) → Kp F w w' → K (a.put o.dst (.slice ao' (n + m) cap')) w') :
    if Region.wanted o (yielded ops a.tmps) = true then Oper.wp P o a w K Q else E := by
  have hw : Region.wanted o (yielded ops a.tmps) = true := by simp [Region.wanted, hg]
  rw [if_pos hw]
  obtain ⟨ao', cap', w', hrun, r1, r2⟩ := run_append_gen (P := P) (w := w) t o.type e i z sz bytes h1 h2 h3 h4 h5 h6 hown hy hrow hone (c := c) b1 b2
  unfold Oper.wp
  simp [execOp, hop, resolve, invoke, builtin, hs, hx, hrun, Result.andThen]
  exact hK ao' cap' w' r1 r2

theorem Row.ofHeap {w : World} {g e : Nat} {xs : List Value} {fr : Nat × Nat} (hh : w.heap[g]? = some (.cells xs.toArray e fr)) : Row w (some ⟨g, 0, none⟩) xs :=
  Or.inr ⟨g, 0, rfl, fun i hi => by rw [cell_of_row w g _ _ e fr hh]; simp [hi]⟩
/-- What is newer than a does not count as a's. -/
theorem Kp.fin {S T : Nat → Prop} {a b c : World} (h : Kp S a b) (k : Kp T b c) (ht : ∀ k, T k → S k ∨ a.heap.size ≤ k) : Kp S a c :=
  h.trans' k (fun i hi hT => (ht i hT).resolve_right (by omega))
theorem Ex.none {w w' : World} {k : Nat} (h : Ex Noone w w' k) : w.heap.size ≤ k ∧ k < w'.heap.size := h.resolve_left id
theorem bv_one (l : List UInt8) : ∀ u ∈ bv l, u.oneCell' = true := by
  intro u hu
  obtain ⟨_, _, rfl⟩ := List.mem_map.1 hu
  rfl
theorem bv_append (a b : List UInt8) : bv a ++ bv b = bv (a ++ b) := by simp [bv]

end Go.Proofs.YtgbgbokcohfnpaaGreat

/-
  THE WALKS of Copy and Same: what each computes, for every byte slice.
-/
namespace Go.Proofs.YtgbgbokcohfnpaaGreat
open Go.RowKit

theorem info_u8 : (Tryz.prog.info? 5).map (fun i => (i.zero, i.size, i.bytes)) = some (some (.int .u8 0), 1, 1) := by kernel_rfl

/-! ### The sum, as a number -/
def stepN (h : Nat) (c : UInt8) : Nat := ((h ^^^ c.toNat) * 1099511628211) % 18446744073709551616
def sumFrom (h : Nat) (l : List UInt8) : Nat := l.foldl stepN h
def start : Nat := 14695981039346656037
def sumN (l : List UInt8) : Nat := sumFrom start l
def W64 (n : Nat) : Prop := n < 18446744073709551616

theorem W64_step (h : Nat) (c : UInt8) : W64 (stepN h c) := by unfold W64 stepN; exact Nat.mod_lt _ (by decide)
theorem W64_sumFrom (l : List UInt8) : ∀ h, W64 h → W64 (sumFrom h l) := by
  induction l with
  | nil => exact fun h hh => hh
  | cons c l ih => exact fun h _ => ih _ (W64_step h c)
theorem W64_start : W64 start := by show (14695981039346656037 : Nat) < 18446744073709551616; decide
theorem sumFrom_snoc (h : Nat) (l : List UInt8) (c : UInt8) : sumFrom h (l ++ [c]) = stepN (sumFrom h l) c := by
  unfold sumFrom; rw [List.foldl_append, List.foldl_cons, List.foldl_nil]
theorem sumFrom_append (h : Nat) (a b : List UInt8) : sumFrom h (a ++ b) = sumFrom (sumFrom h a) b := by unfold sumFrom; exact List.foldl_append ..

theorem take_snoc (l : List UInt8) (k : Nat) (h : k < l.length) : l.take (k + 1) = l.take k ++ [l[k]] := by
  rw [List.take_succ_eq_append_getElem h]

theorem wrap_byte (c : UInt8) : IntKind.u64.wrap (c.toNat : Int) = (c.toNat : Int) := by
  rw [IntKind.wrap_u64]; have := c.toNat_lt; omega

theorem xor_val {h : Nat} (c : UInt8) (hh : W64 h) : bits .xor .u64 (h : Int) (IntKind.u64.wrap (c.toNat : Int)) = ((h ^^^ c.toNat : Nat) : Int) := by
  rw [wrap_byte]
  exact bits_xor_u64_nat _ _ hh (by have := c.toNat_lt; omega)

theorem step_val {h : Nat} (c : UInt8) (hh : W64 h) :
    IntKind.u64.wrap (bits .xor .u64 (h : Int) (IntKind.u64.wrap (c.toNat : Int)) * 1099511628211) = (stepN h c : Int) := by
  rw [xor_val c hh, IntKind.wrap_u64]; unfold stepN; omega

theorem int_eq {k : IntKind} {a b : Int} (h : a = b) : Value.int k a = .int k b := by rw [h]
theorem ret_eq {u v : Value} (h : u = v) : Ending.returned u = .returned v := by rw [h]

set_option maxHeartbeats 400000 in
theorem same_any (ao bo : Option Addr) (n cap m cap' : Nat) (l r : List UInt8) (w : World) (ha : BS w ao n cap l) (hb : BS w bo m cap' r) (hn : n ≤ 9223372036854775807) :
    Calls Tryz.prog 69 #[.slice ao n cap, .slice bo m cap'] w fun e w' => e = .returned (.bool (l == r)) ∧ ∃ q, w' = w.drewN q := by
  by_cases hnm : n = m
  · subst hnm
    go_enter Tryz.func69, Tryz.ntmps69
    go_wp2
    go_loopw [13] (fun i wr => ∃ k : Nat, k ≤ n ∧ i = .int .i64 k ∧ l.take k = r.take k ∧ ∃ q, wr = w.drewN q) (fun i _ => n - (intOf i).toNat)
    case atStart => exact ⟨0, Nat.zero_le _, rfl, rfl, 0, rfl⟩
    case round =>
      obtain ⟨k, hk, rfl, he, q, rfl⟩ := hrel
      have HE := Lib.hid he
      clear he
      by_cases hlt : k < n
      · obtain ⟨b, off, hl, rfl, _, hck⟩ := ha.at hlt
        obtain ⟨b', off', hr, rfl, _, hck'⟩ := hb.at hlt
        generalize hx : l[k] = x at hck
        generalize hy : r[k] = y at hck'
        have HX := Lib.hid hx
        have HY := Lib.hid hy
        clear hx hy ha hb
        by_cases hxy : x = y
        · have hb1 : ((x.toNat : Int) != (y.toNat : Int)) = false := by simp [hxy]
          go_wp2
          go_quiet (fail)
          go_wp2
          go_roundw
          case rel => exact ⟨k + 1, by omega, by go_num, by rw [take_snoc l k hl, take_snoc r k hr, HE.out, HX.out, HY.out, hxy], _, rfl⟩
          case measure => simp [intOf]; omega
        · have hb1 : ((x.toNat : Int) != (y.toNat : Int)) = true := by
            rw [bne_iff_ne]
            exact fun h => hxy (UInt8.toNat_inj.1 (Int.ofNat.inj h))
          go_wp2
          go_quiet (fail)
          go_wp2
          go_ret
          refine ⟨ret_eq ?_, _, World.drewN_drewN _ _ _⟩
          have : l ≠ r := fun h => hxy (by rw [← HX.out, ← HY.out]; subst h; rfl)
          simp [this]
      · have HL1 := Lib.hid ha.len
        have HL2 := Lib.hid hb.len
        go_wp2
        go_ret
        refine ⟨ret_eq ?_, _, rfl⟩
        have h := HE.out
        rw [List.take_of_length_le (by rw [HL1.out]; omega), List.take_of_length_le (by rw [HL2.out]; omega)] at h
        simp [h]
  · have HL1 := Lib.hid ha.len
    have HL2 := Lib.hid hb.len
    clear ha hb
    go_enter Tryz.func69, Tryz.ntmps69
    go_wp2
    go_ret
    refine ⟨?_, 0, rfl⟩
    have : l ≠ r := fun h => hnm (by rw [← HL1.out, ← HL2.out, h])
    simp [this]

end Go.Proofs.YtgbgbokcohfnpaaGreat

/-
  PLAIN LEMMAS, NO PROGRAM: a map in memory as a list of keys and values, in the order in which they came: look-up, store, delete, clear, length.
-/
namespace Go.Proofs.YtgbgbokcohfnpaaGreat
open Go.RowKit

/-! ### Lists of keys and values -/
section
variable {K V : Type} [DecidableEq K]

def alFind (k : K) : List (K × V) → Nat → Option (Nat × V)
  | [], _ => none
  | p :: r, i => if k = p.1 then some (i, p.2) else alFind k r (i + 1)
def alGet (k : K) (l : List (K × V)) : Option V := (alFind k l 0).map (·.2)
def alPut (k : K) (v : V) : List (K × V) → List (K × V)
  | [] => [(k, v)]
  | p :: r => if k = p.1 then (k, v) :: r else p :: alPut k v r
def alDel (k : K) : List (K × V) → List (K × V)
  | [] => []
  | p :: r => if k = p.1 then r else p :: alDel k r

theorem alFind_shift (k : K) (l : List (K × V)) : ∀ i j, alFind k l (i + j) = (alFind k l i).map (fun x => (x.1 + j, x.2)) := by
  induction l with
  | nil => intros; rfl
  | cons p r ih =>
    intro i j
    unfold alFind
    split
    · rfl
    · rw [show i + j + 1 = (i + 1) + j by omega, ih]
theorem alGet_cons (k : K) (p : K × V) (r : List (K × V)) : alGet k (p :: r) = if k = p.1 then some p.2 else alGet k r := by
  unfold alGet
  rw [alFind]
  split
  · rfl
  · rw [show 0 + 1 = 0 + 1 from rfl, alFind_shift k r 0 1]
    cases alFind k r 0 <;> rfl
theorem alGet_nil (k : K) : alGet k ([] : List (K × V)) = none := rfl
theorem alGet_put (k k' : K) (v : V) (l : List (K × V)) : alGet k' (alPut k v l) = if k' = k then some v else alGet k' l := by
  induction l with
  | nil => simp [alPut, alGet_cons, alGet_nil]
  | cons p r ih =>
    unfold alPut
    split
    · rename_i h
      rw [alGet_cons, alGet_cons]
      subst h
      split <;> rfl
    · rename_i h
      rw [alGet_cons, alGet_cons, ih]
      by_cases h1 : k' = p.1
      · rw [if_pos h1, if_pos h1, if_neg (fun c => h (by rw [← c, h1]))]
      · rw [if_neg h1, if_neg h1]
theorem alGet_none (k : K) (l : List (K × V)) : alGet k l = none ↔ k ∉ l.map (·.1) := by
  induction l with
  | nil => simp [alGet_nil]
  | cons p r ih =>
    rw [alGet_cons]
    split
    · rename_i h; simp [h]
    · rename_i h
      rw [ih]
      simp only [List.map_cons, List.mem_cons, not_or]
      exact ⟨fun a => ⟨h, a⟩, fun a => a.2⟩
theorem alGet_mem {k : K} {v : V} {l : List (K × V)} (h : alGet k l = some v) : (k, v) ∈ l := by
  induction l with
  | nil => simp [alGet_nil] at h
  | cons p r ih =>
    rw [alGet_cons] at h
    split at h
    · rename_i hk
      cases h
      subst hk
      simp
    · exact List.mem_cons_of_mem _ (ih h)
theorem alGet_of_mem {k : K} {v : V} {l : List (K × V)} (hn : (l.map (·.1)).Nodup) (h : (k, v) ∈ l) : alGet k l = some v := by
  induction l with
  | nil => simp at h
  | cons p r ih =>
    rw [List.map_cons, List.nodup_cons] at hn
    rw [alGet_cons]
    rcases List.mem_cons.1 h with h | h
    · subst h; simp
    · rw [if_neg (fun c => hn.1 (by rw [← c]; exact List.mem_map_of_mem (f := (·.1)) h))]
      exact ih hn.2 h
theorem alDel_eq (k : K) (l : List (K × V)) (hn : (l.map (·.1)).Nodup) : alDel k l = l.filter (fun p => !decide (k = p.1)) := by
  induction l with
  | nil => rfl
  | cons p r ih =>
    rw [List.map_cons, List.nodup_cons] at hn
    unfold alDel
    by_cases h : k = p.1
    · rw [if_pos h, List.filter_cons_of_neg (by simp [h])]
      rw [List.filter_eq_self.2]
      intro a ha
      simp only [Bool.not_eq_true', decide_eq_false_iff_not]
      intro c
      exact hn.1 (by rw [← h, c]; exact List.mem_map_of_mem (f := (·.1)) ha)
    · rw [if_neg h, List.filter_cons_of_pos (by simp [h]), ih hn.2]
theorem alGet_del (k k' : K) (l : List (K × V)) (hn : (l.map (·.1)).Nodup) : alGet k' (alDel k l) = if k' = k then none else alGet k' l := by
  induction l with
  | nil => simp [alDel, alGet_nil]
  | cons p r ih =>
    rw [List.map_cons, List.nodup_cons] at hn
    unfold alDel
    by_cases h : k = p.1
    · rw [if_pos h]
      by_cases h1 : k' = k
      · rw [if_pos h1, alGet_none]
        rw [h1, h]; exact hn.1
      · rw [if_neg h1, alGet_cons, if_neg (fun c => h1 (by rw [c, h]))]
    · rw [if_neg h, alGet_cons, alGet_cons, ih hn.2]
      by_cases h1 : k' = p.1
      · rw [if_pos h1, if_pos h1, if_neg (fun c => h (by rw [← c, h1]))]
      · rw [if_neg h1, if_neg h1]
theorem alPut_keys (k : K) (v : V) (l : List (K × V)) (hn : (l.map (·.1)).Nodup) : ((alPut k v l).map (·.1)).Nodup := by
  induction l with
  | nil => simp [alPut]
  | cons p r ih =>
    rw [List.map_cons, List.nodup_cons] at hn
    unfold alPut
    by_cases h : k = p.1
    · rw [if_pos h, List.map_cons, List.nodup_cons]
      exact ⟨by rw [show ((k, v) : K × V).1 = p.1 from h]; exact hn.1, hn.2⟩
    · rw [if_neg h, List.map_cons, List.nodup_cons]
      refine ⟨fun c => ?_, ih hn.2⟩
      have h2 : alGet p.1 (alPut k v r) ≠ none := fun e => (alGet_none _ _).1 e c
      rw [alGet_put, if_neg (fun e => h e.symm)] at h2
      exact h2 ((alGet_none _ _).2 hn.1)
theorem alDel_keys (k : K) (l : List (K × V)) (hn : (l.map (·.1)).Nodup) : ((alDel k l).map (·.1)).Nodup := by
  rw [alDel_eq k l hn]
  exact hn.sublist (List.Sublist.map _ List.filter_sublist)
theorem alPut_length (k : K) (v : V) (l : List (K × V)) : (alPut k v l).length ≤ l.length + 1 := by
  induction l with
  | nil => simp [alPut]
  | cons p r ih => unfold alPut; split <;> simp <;> omega
theorem alDel_length (k : K) (l : List (K × V)) : (alDel k l).length ≤ l.length := by
  induction l with
  | nil => simp [alDel]
  | cons p r ih => unfold alDel; split <;> simp <;> omega
theorem alFind_map {U : Type} (f : V → U) (k : K) (l : List (K × V)) : ∀ i, alFind k (l.map fun x => (x.1, f x.2)) i = (alFind k l i).map (fun x => (x.1, f x.2)) := by
  induction l with
  | nil => intro i; rfl
  | cons p r ih => intro i; simp only [List.map_cons, alFind]; split <;> simp [ih]
theorem alGet_map {U : Type} (f : V → U) (k : K) (l : List (K × V)) : alGet k (l.map fun x => (x.1, f x.2)) = (alGet k l).map f := by
  unfold alGet
  rw [alFind_map]
  cases alFind k l 0 <;> rfl
theorem alPut_map {U : Type} (f : V → U) (k : K) (v : V) (l : List (K × V)) : alPut k (f v) (l.map fun x => (x.1, f x.2)) = (alPut k v l).map fun x => (x.1, f x.2) := by
  induction l with
  | nil => rfl
  | cons p r ih => simp only [List.map_cons, alPut]; split <;> simp [ih]
theorem alDel_map {U : Type} (f : V → U) (k : K) (l : List (K × V)) : alDel k (l.map fun x => (x.1, f x.2)) = (alDel k l).map fun x => (x.1, f x.2) := by
  induction l with
  | nil => rfl
  | cons p r ih => simp only [List.map_cons, alDel]; split <;> simp [ih]
end

/-! ### A map's block -/

/-- How a type's values are keys: P's type t, the keys written by enc. -/
structure KeyKind {K : Type} [DecidableEq K] (P : Program) (t : TypeId) (enc : K → Value) : Prop where
  desc : ∃ d, P.underlying t = some d ∧ ∀ a b, Instr.sameNow d (enc a) (enc b) = some (decide (a = b))
  check : ∀ (em : Bool) (k : K) (w : World), (Instr.checkKey em 10000 t (enc k)).run P w = .ok () w
  bits : ∀ k, Instr.sameBits 10000 (enc k) (enc k) = true

def encI (k : Int) : Value := .int .i64 k
theorem keyKind_int {P : Program} {t : TypeId} (ht : P.underlying t = some (.int .i64)) : KeyKind P t encI := by
  have h : ∀ (n : Nat) (em : Bool) (k : Int) (w : World), (Instr.checkKey em (n + 1) t (encI k)).run P w = .ok () w := fun n em k w => by simp [Instr.checkKey, encI, run_underlying ht]
  refine ⟨⟨_, ht, fun a b => ?_⟩, h 9999, fun k => ?_⟩
  · simp [Instr.sameNow, encI]; rfl
  · simp [Instr.sameBits, encI]
def encS (s : ByteArray) : Value := .string s
theorem ba_beq (a b : ByteArray) : (a == b) = decide (a = b) := by
  rw [Bool.eq_iff_iff]
  show (a.data == b.data) = true ↔ _
  rw [beq_iff_eq, decide_eq_true_eq]
  exact ⟨fun h => ByteArray.ext h, fun h => by rw [h]⟩
theorem keyKind_string {P : Program} {t : TypeId} (ht : P.underlying t = some .string) : KeyKind P t encS := by
  have h : ∀ (n : Nat) (em : Bool) (k : ByteArray) (w : World), (Instr.checkKey em (n + 1) t (encS k)).run P w = .ok () w := fun n em k w => by simp [Instr.checkKey, encS, run_underlying ht]
  refine ⟨⟨_, ht, fun a b => ?_⟩, h 9999, fun k => ?_⟩
  · simp only [Instr.sameNow, encS, ba_beq]
  · simp only [Instr.sameBits, encS, ba_beq, decide_true]

section
variable {K : Type} [DecidableEq K] {P : Program} {t : TypeId} {enc : K → Value}

/-- The entries of a map hold l. -/
structure Ent (enc : K → Value) (es : Array MapEntry) (clock : Nat) (l : List (K × Value)) : Prop where
  kv : es.toList.map (fun e => (e.key, e.val)) = l.map (fun p => (enc p.1, p.2))
  keys : (l.map (·.1)).Nodup
  born : ∀ e ∈ es.toList, e.born < clock
  once : (es.toList.map (·.born)).Nodup

/-- Block b is a map that holds l. -/
def MapIs (enc : K → Value) (w : World) (b : Nat) (l : List (K × Value)) : Prop := ∃ es clock, w.heap[b]? = some (.map es clock) ∧ Ent enc es clock l

theorem findNow_eq {d : TypeDesc} (hd : ∀ a b : K, Instr.sameNow d (enc a) (enc b) = some (decide (a = b))) (k : K) :
    ∀ (es : List MapEntry) (l : List (K × Value)) (i : Nat), es.map (fun e => (e.key, e.val)) = l.map (fun p => (enc p.1, p.2)) → Instr.findNow d (enc k) es i = some (alFind k l i) := by
  intro es
  induction es with
  | nil => intro l i h; cases l with | nil => rfl | cons p r => simp at h
  | cons e es ih =>
    intro l i h
    cases l with
    | nil => simp at h
    | cons p r =>
      simp only [List.map_cons, List.cons.injEq, Prod.mk.injEq] at h
      obtain ⟨⟨h1, h2⟩, h3⟩ := h
      unfold Instr.findNow alFind
      rw [h1, hd]
      by_cases hk : k = p.1
      · rw [if_pos hk]; simp [hk, h2]
      · rw [if_neg hk]; simp [hk]; exact ih r (i + 1) h3

theorem run_findKey (kk : KeyKind P t enc) {es : Array MapEntry} {clock : Nat} {l : List (K × Value)} (h : Ent enc es clock l) (k : K) (w : World) :
    (Instr.findKey t (enc k) es.toList).run P w = .ok (alFind k l 0) w := by
  obtain ⟨d, hd, hs⟩ := kk.desc
  have := findNow_eq hs k es.toList l 0 h.kv
  simp [Instr.findKey, run_underlying hd, this]

theorem alFind_lt (k : K) (l : List (K × Value)) : ∀ i j v, alFind k l i = some (j, v) → i ≤ j ∧ j < i + l.length := by
  induction l with
  | nil => intro i j v h; simp [alFind] at h
  | cons p r ih =>
    intro i j v h
    unfold alFind at h
    split at h
    · cases h; simp
    · have := ih _ _ _ h; simp; omega

theorem alPut_some (k : K) (v : Value) (l : List (K × Value)) : ∀ i j x, alFind k l i = some (j, x) → alPut k v l = l.set (j - i) (k, v) := by
  induction l with
  | nil => intro i j x h; simp [alFind] at h
  | cons p r ih =>
    intro i j x h
    unfold alFind at h
    unfold alPut
    split at h
    · rename_i hk
      cases h
      rw [if_pos hk]; simp
    · rename_i hk
      have h2 := alFind_lt k r _ _ _ h
      rw [if_neg hk, ih _ _ _ h, show j - i = (j - (i + 1)) + 1 by omega]
      rfl
theorem alPut_none (k : K) (v : Value) (l : List (K × Value)) : ∀ i, alFind k l i = none → alPut k v l = l ++ [(k, v)] := by
  induction l with
  | nil => intro i _; rfl
  | cons p r ih =>
    intro i h
    unfold alFind at h
    unfold alPut
    split at h
    · cases h
    · rename_i hk
      rw [if_neg hk, ih _ h]; rfl
theorem alDel_some (k : K) (l : List (K × Value)) : ∀ i j x, alFind k l i = some (j, x) → alDel k l = l.eraseIdx (j - i) := by
  induction l with
  | nil => intro i j x h; simp [alFind] at h
  | cons p r ih =>
    intro i j x h
    unfold alFind at h
    unfold alDel
    split at h
    · rename_i hk
      cases h
      rw [if_pos hk]; simp
    · rename_i hk
      have h2 := alFind_lt k r _ _ _ h
      rw [if_neg hk, ih _ _ _ h, show j - i = (j - (i + 1)) + 1 by omega]
      rfl
theorem alDel_none (k : K) (l : List (K × Value)) : ∀ i, alFind k l i = none → alDel k l = l := by
  induction l with
  | nil => intro i _; rfl
  | cons p r ih =>
    intro i h
    unfold alFind at h
    unfold alDel
    split at h
    · cases h
    · rename_i hk
      rw [if_neg hk, ih _ h]

/-- What a step on a map leaves: block b turned into a map that holds l', all else as it was. -/
def MapTo (enc : K → Value) (w w' : World) (b : Nat) (l' : List (K × Value)) : Prop := MapIs enc w' b l' ∧ Kp (fun j => j = b) w w'

theorem set_heap {w : World} {b : Nat} {o o' : Obj} (h : w.heap[b]? = some o) : ({ w with heap := w.heap.setIfInBounds b o' } : World).heap[b]? = some o' ∧ Kp (fun j => j = b) w { w with heap := w.heap.setIfInBounds b o' } := by
  have hb := (Array.getElem?_eq_some_iff.1 h).1
  refine ⟨by simp [hb], ⟨rfl, rfl, rfl, by simp, fun k hk hn => ?_⟩⟩
  show (w.heap.setIfInBounds b o')[k]? = _
  rw [Array.getElem?_setIfInBounds, if_neg (fun c => hn c.symm)]

omit [DecidableEq K] in
theorem MapIs.lt {w : World} {b : Nat} {l : List (K × Value)} (h : MapIs enc w b l) : b < w.heap.size := by
  obtain ⟨es, clock, hh, -⟩ := h
  exact (Array.getElem?_eq_some_iff.1 hh).1
omit [DecidableEq K] in
theorem MapIs.kp {w w' : World} {S : Nat → Prop} {b : Nat} {l : List (K × Value)} (h : MapIs enc w b l) (k : Kp S w w') (hs : ¬ S b) : MapIs enc w' b l := by
  obtain ⟨es, clock, hh, e⟩ := h
  exact ⟨es, clock, k.heap hh hs, e⟩
omit [DecidableEq K] in
theorem MapIs.keys {w : World} {b : Nat} {l : List (K × Value)} (h : MapIs enc w b l) : (l.map (·.1)).Nodup := by
  obtain ⟨es, clock, hh, e⟩ := h
  exact e.keys

theorem MapIs.lookup {w : World} {b : Nat} {l : List (K × Value)} (h : MapIs enc w b l) (kk : KeyKind P t enc) {m e : TypeId} (hm : P.underlying m = some (.map t e)) {z : Value} (hz : (zeroValue e).run P w = .ok z w) (k : K) (c : Bool) :
    (Instr.lookup m (.map (some b)) (enc k) c).run P w = .ok (if c then .tuple #[(alGet k l).getD z, .bool (alGet k l).isSome] else (alGet k l).getD z) w := by
  obtain ⟨es, clock, hh, he⟩ := h
  have hf := run_findKey kk he k w
  have hg := MapKept.run_getObj_map (P := P) hh
  have hc := kk.check es.isEmpty k w
  simp only [Instr.lookup, Sem.run_bind, run_underlying hm, Result.andThen_ok, hg, hc, hf, Sem.run_pure]
  unfold alGet
  cases hx : alFind k l 0 with
  | none => cases c <;> simp [hz]
  | some x => cases c <;> simp

theorem MapIs.update {w : World} {b : Nat} {l : List (K × Value)} (h : MapIs enc w b l) (kk : KeyKind P t enc) {m e : TypeId} (hm : P.underlying m = some (.map t e)) (k : K) (v : Value) :
    ∃ w', (Instr.mapUpdate m (.map (some b)) (enc k) v).run P w = .ok () w' ∧ MapTo enc w w' b (alPut k v l) := by
  obtain ⟨es, clock, hh, he⟩ := h
  have hf := run_findKey kk he k w
  have hg := MapKept.run_getObj_map (P := P) hh
  have hc := kk.check false k w
  have hlen : es.size = l.length := by have := congrArg List.length he.kv; simpa using this
  cases hx : alFind k l 0 with
  | none =>
    rw [hx] at hf
    refine ⟨{ w with heap := w.heap.setIfInBounds b (.map (es.push { key := enc k, val := v, born := clock }) (clock + 1)) }, ?_, ?_⟩
    · simp only [Instr.mapUpdate, Sem.run_bind, run_underlying hm, Result.andThen_ok, hg, hc, hf, MapKept.run_setObj_map _ hh]
    · obtain ⟨h1, h2⟩ := set_heap (o' := .map (es.push { key := enc k, val := v, born := clock }) (clock + 1)) hh
      refine ⟨⟨_, _, h1, ?_, alPut_keys k v l he.keys, ?_, ?_⟩, h2⟩
      · rw [alPut_none k v l 0 hx]; simp [he.kv]
      · intro e' h'
        simp at h'
        rcases h' with h' | h'
        · have := he.born e' (by simpa using h'); omega
        · subst h'; simp
      · simp only [Array.toList_push, List.map_append, List.map_cons, List.map_nil]
        rw [List.nodup_append]
        refine ⟨he.once, by simp, ?_⟩
        intro a ha c hc'
        simp at hc'
        subst hc'
        obtain ⟨e', h3, rfl⟩ := List.mem_map.1 ha
        have := he.born e' h3; omega
  | some x =>
    obtain ⟨j, y⟩ := x
    rw [hx] at hf
    have hj := alFind_lt k l 0 j y hx
    have hkey : es[j]?.map (·.key) = some (enc k) := by
      have h1 : (es.toList.map (fun e => (e.key, e.val)))[j]? = (l.map (fun p => (enc p.1, p.2)))[j]? := by rw [he.kv]
      have h2 : ∀ (l : List (K × Value)) i j y, alFind k l i = some (j, y) → l[j - i]?.map (·.1) = some k := by
        intro l
        induction l with
        | nil => intro i j y h; simp [alFind] at h
        | cons p r ih =>
          intro i j y h
          unfold alFind at h
          split at h
          · rename_i hk; cases h; simp [hk]
          · have h3 := alFind_lt k r _ _ _ h
            have := ih _ _ _ h
            rw [show j - i = (j - (i + 1)) + 1 by omega]
            simpa using this
      have h3 := h2 l 0 j y hx
      simp only [List.getElem?_map, Nat.sub_zero, Array.getElem?_toList] at h1 h3
      cases he1 : es[j]? with
      | none => rw [he1] at h1; rw [Array.getElem?_eq_none_iff] at he1; omega
      | some e1 =>
        rw [he1] at h1
        cases hl1 : l[j]? with
        | none => rw [hl1] at h3; cases h3
        | some p =>
          rw [hl1] at h1 h3
          simp at h1 h3
          simp [h1.1, h3]
    refine ⟨{ w with heap := w.heap.setIfInBounds b (.map (es.modify j fun e => { e with key := enc k, val := v }) clock) }, ?_, ?_⟩
    · simp only [Instr.mapUpdate, Sem.run_bind, run_underlying hm, Result.andThen_ok, hg, hc, hf, hkey, Option.getD_some, Instr.keyThatStays, kk.bits, if_true, Sem.run_pure, MapKept.run_setObj_map _ hh]
    · obtain ⟨h1, h2⟩ := set_heap (o' := .map (es.modify j fun e => { e with key := enc k, val := v }) clock) hh
      have hmod : (es.modify j fun e => { e with key := enc k, val := v }).toList = es.toList.modify j fun e => { e with key := enc k, val := v } := Array.toList_modify
      have hb : ((es.modify j fun e => { e with key := enc k, val := v }).toList.map (·.born)) = es.toList.map (·.born) := by
        rw [hmod]
        apply List.ext_getElem?
        intro i
        simp only [List.getElem?_map, List.getElem?_modify]
        cases es.toList[i]? with
        | none => rfl
        | some e => simp only [Option.map_some, Option.map_eq_map]; split <;> rfl
      refine ⟨⟨_, _, h1, ?_, alPut_keys k v l he.keys, ?_, by rw [hb]; exact he.once⟩, h2⟩
      · rw [alPut_some k v l 0 j y hx, hmod, Nat.sub_zero]
        apply List.ext_getElem?
        intro i
        have h4 := congrArg (fun z => z[i]?) he.kv
        simp only [List.getElem?_map] at h4
        simp only [List.getElem?_map, List.getElem?_modify, List.getElem?_set]
        by_cases hij : j = i
        · subst hij
          have : j < es.toList.length := by simpa using (show j < es.size by omega)
          rw [List.getElem?_eq_getElem this]
          simp [show j < l.length by omega]
        · simp only [if_neg hij, Option.map_eq_map]
          rw [← h4]
          cases es.toList[i]? <;> rfl
      · intro e' h'
        have : e'.born ∈ es.toList.map (·.born) := by rw [← hb]; exact List.mem_map_of_mem (f := (·.born)) h'
        obtain ⟨e2, h3, h4⟩ := List.mem_map.1 this
        rw [← h4]; exact he.born e2 h3

theorem MapIs.delete {w : World} {b : Nat} {l : List (K × Value)} (h : MapIs enc w b l) (kk : KeyKind P t enc) {m e : TypeId} (hm : P.underlying m = some (.map t e)) (k : K) (ty : TypeId) :
    ∃ w', (Builtin.delete_ #[m, t] ty #[.map (some b), enc k]).run P w = .ok (.tuple #[]) w' ∧ MapTo enc w w' b (alDel k l) := by
  obtain ⟨es, clock, hh, he⟩ := h
  have hf := run_findKey kk he k w
  have hg := MapKept.run_getObj_map (P := P) hh
  have hc := kk.check es.isEmpty k w
  have hlen : es.size = l.length := by have := congrArg List.length he.kv; simpa using this
  cases hx : alFind k l 0 with
  | none =>
    rw [hx] at hf
    refine ⟨{ w with heap := w.heap.setIfInBounds b (.map es clock) }, ?_, ?_⟩
    · simp [Builtin.delete_, run_underlying hm, hg, hc, hf, MapKept.run_setObj_map _ hh]
    · obtain ⟨h1, h2⟩ := set_heap (o' := .map es clock) hh
      exact ⟨⟨_, _, h1, by rw [alDel_none k l 0 hx]; exact he⟩, h2⟩
  | some x =>
    obtain ⟨j, y⟩ := x
    rw [hx] at hf
    have hj := alFind_lt k l 0 j y hx
    refine ⟨{ w with heap := w.heap.setIfInBounds b (.map (es.eraseIdxIfInBounds j) clock) }, ?_, ?_⟩
    · simp [Builtin.delete_, run_underlying hm, hg, hc, hf, MapKept.run_setObj_map _ hh]
    · obtain ⟨h1, h2⟩ := set_heap (o' := .map (es.eraseIdxIfInBounds j) clock) hh
      have hto : (es.eraseIdxIfInBounds j).toList = es.toList.eraseIdx j := by
        unfold Array.eraseIdxIfInBounds
        rw [dif_pos (by omega)]
        simp
      have hsub : (es.toList.eraseIdx j).Sublist es.toList := List.eraseIdx_sublist ..
      refine ⟨⟨_, _, h1, ?_, alDel_keys k l he.keys, ?_, ?_⟩, h2⟩
      · rw [hto, alDel_some k l 0 j y hx, Nat.sub_zero, ChangeMaps.map_eraseIdx, he.kv, ChangeMaps.map_eraseIdx]
      · rw [hto]; exact fun e' h' => he.born e' (hsub.subset h')
      · rw [hto]; exact he.once.sublist (hsub.map _)

omit [DecidableEq K] in
theorem MapIs.clear {w : World} {b : Nat} {l : List (K × Value)} (h : MapIs enc w b l) {m e : TypeId} (hm : P.underlying m = some (.map t e)) (ty : TypeId) :
    ∃ w', (Builtin.clear_ #[m] ty #[.map (some b)]).run P w = .ok (.tuple #[]) w' ∧ MapTo enc w w' b [] := by
  obtain ⟨es, clock, hh, he⟩ := h
  have hg := MapKept.run_getObj_map (P := P) hh
  refine ⟨{ w with heap := w.heap.setIfInBounds b (.map #[] clock) }, ?_, ?_⟩
  · simp [Builtin.clear_, run_underlying hm, hg, MapKept.run_setObj_map _ hh]
  · obtain ⟨h1, h2⟩ := set_heap (o' := .map #[] clock) hh
    exact ⟨⟨_, _, h1, by simp, by simp, by simp, by simp⟩, h2⟩

omit [DecidableEq K] in
theorem MapIs.len {w : World} {b : Nat} {l : List (K × Value)} (h : MapIs enc w b l) {m e : TypeId} (hm : P.underlying m = some (.map t e)) (ty : TypeId) :
    (Builtin.len_ #[m] ty #[.map (some b)]).run P w = .ok (.int .i64 (l.length : Int)) w := by
  obtain ⟨es, clock, hh, he⟩ := h
  have hg := MapKept.run_getObj_map (P := P) hh
  have hlen : es.size = l.length := by have := congrArg List.length he.kv; simpa using this
  simp [Builtin.len_, run_underlying hm, hg, hlen, goInt]

end

end Go.Proofs.YtgbgbokcohfnpaaGreat

/-
  PLAIN LEMMAS, NO PROGRAM: a walk over a map that only loses entries meanwhile; the laws at the operations.
-/
namespace Go.Proofs.YtgbgbokcohfnpaaGreat
open Go.RowKit

section
variable {K : Type} [DecidableEq K] {P : Program} {t : TypeId} {enc : K → Value}

/-- Block r is an iterator over the map of block b, which holds l; todo is to come. -/
def Iter (enc : K → Value) (w : World) (r b : Nat) (l todo : List (K × Value)) : Prop :=
  ∃ es clock seen, w.heap[b]? = some (.map es clock) ∧ Ent enc es clock l ∧ w.heap[r]? = some (.mapIter (some b) clock seen clock) ∧
    (leftOf es seen).toList.map (fun e => (e.key, e.val)) = todo.map (fun p => (enc p.1, p.2))

omit [DecidableEq K] in
theorem Iter.map {w : World} {r b : Nat} {l todo : List (K × Value)} (h : Iter enc w r b l todo) : MapIs enc w b l := by
  obtain ⟨es, clock, seen, h1, h2, -⟩ := h
  exact ⟨es, clock, h1, h2⟩
omit [DecidableEq K] in
theorem Iter.kp {w w' : World} {S : Nat → Prop} {r b : Nat} {l todo : List (K × Value)} (h : Iter enc w r b l todo) (k : Kp S w w') (hr : ¬ S r) (hb : ¬ S b) : Iter enc w' r b l todo := by
  obtain ⟨es, clock, seen, h1, h2, h3, h4⟩ := h
  exact ⟨es, clock, seen, k.heap h1 hb, h2, k.heap h3 hr, h4⟩
omit [DecidableEq K] in
theorem Iter.lt {w : World} {r b : Nat} {l todo : List (K × Value)} (h : Iter enc w r b l todo) : r < w.heap.size := by
  obtain ⟨es, clock, seen, h1, h2, h3, h4⟩ := h
  exact (Array.getElem?_eq_some_iff.1 h3).1

omit [DecidableEq K] in
theorem MapIs.range {w : World} {b : Nat} {l : List (K × Value)} (h : MapIs enc w b l) {m e : TypeId} (hm : P.underlying m = some (.map t e)) :
    ∃ w', (Instr.range m (.map (some b))).run P w = .ok (.pointer (some ⟨w.heap.size, 0, none⟩)) w' ∧ Iter enc w' w.heap.size b l l ∧ Kp Noone w w' ∧ w'.heap.size = w.heap.size + 1 := by
  obtain ⟨es, clock, hh, he⟩ := h
  have hg := MapKept.run_getObj_map (P := P) hh
  refine ⟨w.alloc (.mapIter (some b) clock #[] clock), ?_, ?_, (Kp.refl _ _).alloc _, by simp⟩
  · simp [Instr.range, run_underlying hm, hg]
  · refine ⟨es, clock, #[], ((Kp.refl Noone w).alloc _).heap hh id, he, heap_alloc_new w _, ?_⟩
    unfold leftOf
    rw [Array.filter_eq_self.2 (by simp)]
    exact he.kv

theorem nodup_of_map {α β : Type} (f : α → β) {l : List α} (h : (l.map f).Nodup) : l.Nodup := by
  induction l with
  | nil => simp
  | cons a l ih =>
    rw [List.map_cons, List.nodup_cons] at h
    rw [List.nodup_cons]
    exact ⟨fun c => h.1 (List.mem_map_of_mem (f := f) c), ih h.2⟩

theorem strike {e : MapEntry} {k : K} (hinj : ∀ a c, enc a = enc c → a = c) (hk : e.key = enc k) : ∀ (L : List MapEntry) (todo : List (K × Value)), L.map (fun e => (e.key, e.val)) = todo.map (fun p => (enc p.1, p.2)) → e ∈ L → (L.map (·.born)).Nodup → (todo.map (·.1)).Nodup →
    (L.filter (fun x => !decide (x.born = e.born))).map (fun e => (e.key, e.val)) = (alDel k todo).map (fun p => (enc p.1, p.2)) := by
  intro L
  induction L with
  | nil => intro todo _ he; simp at he
  | cons x L ih =>
    intro todo h he hb hn
    cases todo with
    | nil => simp at h
    | cons p todo =>
      simp only [List.map_cons, List.cons.injEq, Prod.mk.injEq] at h
      obtain ⟨⟨h1, h2⟩, h3⟩ := h
      rw [List.map_cons, List.nodup_cons] at hb hn
      unfold alDel
      rcases List.mem_cons.1 he with he | he
      · subst he
        have hp : k = p.1 := hinj _ _ (by rw [← hk, h1])
        rw [if_pos hp, List.filter_cons_of_neg (by simp), List.filter_eq_self.2]
        · exact h3
        · intro y hy
          simp only [Bool.not_eq_true', decide_eq_false_iff_not]
          intro c
          exact hb.1 (by rw [← c]; exact List.mem_map_of_mem (f := (·.born)) hy)
      · have hx : ¬ x.born = e.born := fun c => hb.1 (by rw [c]; exact List.mem_map_of_mem (f := (·.born)) he)
        have hp : ¬ k = p.1 := by
          intro c
          have h4 : (e.key, e.val) ∈ todo.map (fun p => (enc p.1, p.2)) := by rw [← h3]; exact List.mem_map_of_mem (f := fun e => (e.key, e.val)) he
          obtain ⟨q, hq, h5⟩ := List.mem_map.1 h4
          simp only [Prod.mk.injEq] at h5
          have h6 : q.1 = k := hinj _ _ (by rw [h5.1, hk])
          exact hn.1 (by rw [← c, ← h6]; exact List.mem_map_of_mem (f := (·.1)) hq)
        rw [if_neg hp, List.filter_cons_of_pos (by simp [hx]), List.map_cons, List.map_cons, ih todo h3 he hb.2 hn.2]
        simp [h1, h2]

theorem left_push (es : Array MapEntry) (seen : Array Nat) (b : Nat) : (leftOf es (seen.push b)).toList = (leftOf es seen).toList.filter (fun x => !decide (x.born = b)) := by
  unfold leftOf
  simp only [Array.toList_filter, List.filter_filter]
  congr 1
  funext x
  simp [Bool.and_comm]

omit [DecidableEq K] in
theorem Iter.nodup {w : World} {r b : Nat} {l todo : List (K × Value)} (h : Iter enc w r b l todo) (hinj : ∀ a c, enc a = enc c → a = c) : (todo.map (·.1)).Nodup := by
  obtain ⟨es, clock, seen, h1, h2, h3, h4⟩ := h
  have hsub : (leftOf es seen).toList.Sublist es.toList := by unfold leftOf; rw [Array.toList_filter]; exact List.filter_sublist
  have hne : (es.toList.map (·.key)).Nodup := by
    have h5 : es.toList.map (·.key) = l.map (fun p => enc p.1) := by
      have := congrArg (List.map Prod.fst) h2.kv
      simpa [List.map_map, Function.comp_def] using this
    rw [h5]
    have h6 := h2.keys
    clear h5
    generalize l = l' at h6
    induction l' with
    | nil => simp
    | cons q r ih =>
      rw [List.map_cons, List.nodup_cons] at h6 ⊢
      refine ⟨fun c => ?_, ih h6.2⟩
      obtain ⟨q', hq', e'⟩ := List.mem_map.1 c
      exact h6.1 (by rw [← hinj _ _ e']; exact List.mem_map_of_mem (f := (·.1)) hq')
  have h5 : (todo.map (fun p => enc p.1)).Nodup := by
    have : (leftOf es seen).toList.map (·.key) = todo.map (fun p => enc p.1) := by
      have := congrArg (List.map Prod.fst) h4
      simpa [List.map_map, Function.comp_def] using this
    rw [← this]
    exact hne.sublist (hsub.map _)
  have h6 : todo.map (fun p => enc p.1) = (todo.map (·.1)).map enc := by simp [List.map_map, Function.comp_def]
  rw [h6] at h5
  exact nodup_of_map enc h5

/-- The step. -/
theorem Iter.next {w : World} {r b : Nat} {l todo : List (K × Value)} (h : Iter enc w r b l todo) (hinj : ∀ a c, enc a = enc c → a = c) (ty : TypeId) :
    (todo = [] ∧ (Instr.next (.pointer (some ⟨r, 0, none⟩)) false ty).run P w = .ok (.tuple #[.bool false]) w) ∨
    ∃ k v w', (k, v) ∈ todo ∧ (Instr.next (.pointer (some ⟨r, 0, none⟩)) false ty).run P w = .ok (.tuple #[.bool true, enc k, v]) w' ∧ Iter enc w' r b l (alDel k todo) ∧ Kp (fun j => j = r) w w' ∧ w'.heap.size = w.heap.size ∧
      (Instr.entry (.pointer (some ⟨r, 0, none⟩))).run P w' = .ok (.tuple #[enc k, v]) w' := by
  obtain ⟨es, clock, seen, h1, h2, h3, h4⟩ := h
  rcases run_next_at (P := P) w ty r b clock clock seen es clock h3 h1 h2.born (Nat.le_refl _) with ⟨h0, hrun⟩ | ⟨e, he, w1, hw1, hrun⟩
  · left
    refine ⟨?_, hrun⟩
    have := congrArg List.length h4
    simp [h0] at this
    exact List.eq_nil_of_length_eq_zero this.symm
  · right
    have hmem : (e.key, e.val) ∈ todo.map (fun p => (enc p.1, p.2)) := by rw [← h4]; exact List.mem_map_of_mem (f := fun e => (e.key, e.val)) he
    obtain ⟨p, hp, hpe⟩ := List.mem_map.1 hmem
    obtain ⟨k, v⟩ := p
    simp only [Prod.mk.injEq] at hpe
    have hsub : (leftOf es seen).toList.Sublist es.toList := by unfold leftOf; rw [Array.toList_filter]; exact List.filter_sublist
    have hne : (es.toList.map (·.key)).Nodup := by
      have h5 : es.toList.map (·.key) = l.map (fun p => enc p.1) := by
        have := congrArg (List.map Prod.fst) h2.kv
        simpa [List.map_map, Function.comp_def] using this
      rw [h5]
      have h6 := h2.keys
      clear h5
      generalize l = l' at h6
      induction l' with
      | nil => simp
      | cons q r ih =>
        rw [List.map_cons, List.nodup_cons] at h6 ⊢
        refine ⟨fun c => ?_, ih h6.2⟩
        obtain ⟨q', hq', e'⟩ := List.mem_map.1 c
        exact h6.1 (by rw [← hinj _ _ e']; exact List.mem_map_of_mem (f := (·.1)) hq')
    have hnt : (todo.map (·.1)).Nodup := by
      have h5 : (todo.map (fun p => enc p.1)).Nodup := by
        have : (leftOf es seen).toList.map (·.key) = todo.map (fun p => enc p.1) := by
          have := congrArg (List.map Prod.fst) h4
          simpa [List.map_map, Function.comp_def] using this
        rw [← this]
        exact hne.sublist (hsub.map _)
      have h6 : todo.map (fun p => enc p.1) = (todo.map (·.1)).map enc := by simp [List.map_map, Function.comp_def]
      rw [h6] at h5
      exact nodup_of_map enc h5
    have hr1 : w1.heap[r]? = some (.mapIter (some b) clock seen clock) := by rcases hw1 with rfl | rfl <;> exact h3
    have hb1 : w1.heap[b]? = some (.map es clock) := by rcases hw1 with rfl | rfl <;> exact h1
    obtain ⟨g1, g2⟩ := set_heap (o' := .mapIter (some b) clock (seen.push e.born) clock) hr1
    have hrb : b ≠ r := fun c => by subst c; rw [h1] at h3; cases h3
    have hb2 := g2.heap hb1 (fun c => hrb c)
    have kw : Kp (fun j => j = r) w w1 := by
      rcases hw1 with rfl | rfl
      · exact Kp.refl _ _
      · exact (Kp.refl _ _).drew
    have hsz : w1.heap.size = w.heap.size := by rcases hw1 with rfl | rfl <;> rfl
    refine ⟨k, v, ChangeMaps.setBlock w1 r (.mapIter (some b) clock (seen.push e.born) clock), hp, ?_, ⟨es, clock, seen.push e.born, hb2, h2, g1, ?_⟩, kw.trans g2, ?_, ?_⟩
    · rw [hrun, hpe.1, hpe.2]
    · rw [left_push]
      exact strike hinj hpe.1.symm _ _ h4 he (h2.once.sublist (hsub.map _)) hnt
    · show (w1.heap.setIfInBounds r _).size = _
      simp [hsz]
    · have := run_entry_at (P := P) (ChangeMaps.setBlock w1 r (.mapIter (some b) clock (seen.push e.born) clock)) r b clock seen es clock e g1 hb2 (hsub.subset he) h2.once
      rw [this, hpe.1, hpe.2]

theorem filter_eraseIdx {α : Type} (p : α → Bool) : ∀ (l : List α) (j : Nat), (∀ x, l[j]? = some x → p x = false) → (l.eraseIdx j).filter p = l.filter p := by
  intro l
  induction l with
  | nil => intro j _; rfl
  | cons a l ih =>
    intro j h
    cases j with
    | zero => rw [List.eraseIdx_cons_zero, List.filter_cons_of_neg (by simp [h a rfl])]
    | succ j =>
      rw [List.eraseIdx_cons_succ, List.filter_cons, List.filter_cons, ih j (fun x hx => h x (by simpa using hx))]

theorem alFind_key (k : K) (l : List (K × Value)) : ∀ i j y, alFind k l i = some (j, y) → l[j - i]?.map (·.1) = some k := by
  induction l with
  | nil => intro i j y h; simp [alFind] at h
  | cons p r ih =>
    intro i j y h
    unfold alFind at h
    split at h
    · rename_i hk; cases h; simp [hk]
    · have h3 := alFind_lt k r _ _ _ h
      have := ih _ _ _ h
      rw [show j - i = (j - (i + 1)) + 1 by omega]
      simpa using this

/-- A deletion meanwhile. -/
theorem Iter.delete {w : World} {r b : Nat} {l todo : List (K × Value)} (h : Iter enc w r b l todo) (hinj : ∀ a c, enc a = enc c → a = c) (kk : KeyKind P t enc) {m e : TypeId} (hm : P.underlying m = some (.map t e)) (k : K) (hk : k ∉ todo.map (·.1)) (ty : TypeId) :
    ∃ w', (Builtin.delete_ #[m, t] ty #[.map (some b), enc k]).run P w = .ok (.tuple #[]) w' ∧ Iter enc w' r b (alDel k l) todo ∧ Kp (fun j => j = b) w w' ∧ w'.heap.size = w.heap.size := by
  obtain ⟨es, clock, seen, hh, he, h3, h4⟩ := h
  have hf := run_findKey kk he k w
  have hg := MapKept.run_getObj_map (P := P) hh
  have hc := kk.check es.isEmpty k w
  have hlen : es.size = l.length := by have := congrArg List.length he.kv; simpa using this
  have hrb : r ≠ b := fun c => by subst c; rw [hh] at h3; cases h3
  cases hx : alFind k l 0 with
  | none =>
    rw [hx] at hf
    obtain ⟨h1, h2⟩ := set_heap (o' := .map es clock) hh
    refine ⟨{ w with heap := w.heap.setIfInBounds b (.map es clock) }, ?_, ⟨es, clock, seen, h1, by rw [alDel_none k l 0 hx]; exact he, h2.heap h3 (fun c => hrb c), h4⟩, h2, by simp⟩
    simp [Builtin.delete_, run_underlying hm, hg, hc, hf, MapKept.run_setObj_map _ hh]
  | some x =>
    obtain ⟨j, y⟩ := x
    rw [hx] at hf
    have hj := alFind_lt k l 0 j y hx
    obtain ⟨h1, h2⟩ := set_heap (o' := .map (es.eraseIdxIfInBounds j) clock) hh
    have hto : (es.eraseIdxIfInBounds j).toList = es.toList.eraseIdx j := by
      unfold Array.eraseIdxIfInBounds
      rw [dif_pos (by omega)]
      simp
    have hsub : (es.toList.eraseIdx j).Sublist es.toList := List.eraseIdx_sublist ..
    refine ⟨{ w with heap := w.heap.setIfInBounds b (.map (es.eraseIdxIfInBounds j) clock) }, ?_, ⟨_, _, seen, h1, ⟨?_, alDel_keys k l he.keys, ?_, ?_⟩, h2.heap h3 (fun c => hrb c), ?_⟩, h2, by simp⟩
    · simp [Builtin.delete_, run_underlying hm, hg, hc, hf, MapKept.run_setObj_map _ hh]
    · rw [hto, alDel_some k l 0 j y hx, Nat.sub_zero, ChangeMaps.map_eraseIdx, he.kv, ChangeMaps.map_eraseIdx]
    · rw [hto]; exact fun e' h' => he.born e' (hsub.subset h')
    · rw [hto]; exact he.once.sublist (hsub.map _)
    · rw [← h4]
      congr 1
      unfold leftOf
      rw [Array.toList_filter, Array.toList_filter, hto]
      refine filter_eraseIdx _ _ _ (fun e1 he1 => ?_)
      cases hp : (!seen.contains e1.born) with
      | false => rfl
      | true =>
        exfalso
        have hmem : e1 ∈ (leftOf es seen).toList := by
          unfold leftOf
          rw [Array.toList_filter, List.mem_filter]
          exact ⟨List.mem_of_getElem? he1, hp⟩
        have hkey := alFind_key k l 0 j y hx
        have hkv := congrArg (fun z => z[j]?) he.kv
        simp only [List.getElem?_map, he1, Option.map_some, Nat.sub_zero] at hkv hkey
        cases hl1 : l[j]? with
        | none => rw [hl1] at hkv; cases hkv
        | some q =>
          rw [hl1] at hkv hkey
          simp at hkv hkey
          have hm2 : (e1.key, e1.val) ∈ todo.map (fun p => (enc p.1, p.2)) := by rw [← h4]; exact List.mem_map_of_mem (f := fun e => (e.key, e.val)) hmem
          obtain ⟨p, hp1, hp2⟩ := List.mem_map.1 hm2
          simp only [Prod.mk.injEq] at hp2
          apply hk
          have : p.1 = k := hinj _ _ (by rw [hp2.1, hkv.1, hkey])
          rw [← this]
          exact List.mem_map_of_mem (f := (·.1)) hp1

end

/-! ### At the operations -/
section
variable {K : Type} [DecidableEq K] {P : Program} {t : TypeId} {enc : K → Value}
variable (w : World) {ops : Array Oper} {rest : List Oper} {o : Oper} {a : Act} {Q : Exit → Act → World → Prop}

theorem wpList_delete_is (hg : o.guard = none) (m x : Operand) (mt : TypeId) (hop : o.op = Op.call { callee := Callee.builtin Builtin.delete, args := #[m, x], argTypes := #[mt, t] }) (e : TypeId) (kk : KeyKind P t enc) (ht : P.underlying mt = some (.map t e)) (b : Nat) (l : List (K × Value))
    (hm : a.eval m = .map (some b)) (h : MapIs enc w b l) (k : K) (hx : a.eval x = enc k)
    (hK : ∀ w', MapTo enc w w' b (alDel k l) → wpList P ops Q rest (a.put o.dst (.tuple #[])) w') : wpList P ops Q (o :: rest) a w := by
  refine wpList_plain hg fun K' hK' => ?_
  obtain ⟨w', hrun, r1⟩ := h.delete kk ht k o.type
  unfold Oper.wp
  simp [execOp, hop, resolve, invoke, builtin, hm, hx, hrun, Result.andThen]
  exact hK' _ _ (hK w' r1)

theorem wpList_delete_iter (hg : o.guard = none) (m x : Operand) (mt : TypeId) (hop : o.op = Op.call { callee := Callee.builtin Builtin.delete, args := #[m, x], argTypes := #[mt, t] }) (e : TypeId) (hinj : ∀ a c, enc a = enc c → a = c) (kk : KeyKind P t enc) (ht : P.underlying mt = some (.map t e)) (r b : Nat) (l todo : List (K × Value))
    (hm : a.eval m = .map (some b)) (h : Iter enc w r b l todo) (k : K) (hk : k ∉ todo.map (·.1)) (hx : a.eval x = enc k)
    (hK : ∀ w', Iter enc w' r b (alDel k l) todo → Kp (fun j => j = b) w w' → wpList P ops Q rest (a.put o.dst (.tuple #[])) w') : wpList P ops Q (o :: rest) a w := by
  refine wpList_plain hg fun K' hK' => ?_
  obtain ⟨w', hrun, r1, r2, -⟩ := h.delete hinj kk ht k hk o.type
  unfold Oper.wp
  simp [execOp, hop, resolve, invoke, builtin, hm, hx, hrun, Result.andThen]
  exact hK' _ _ (hK w' r1 r2)

omit [DecidableEq K] in
theorem wpList_range_is (hg : o.guard = none) (m : Operand) (mt : TypeId) (hop : o.op = Op.range mt m) (e : TypeId) (ht : P.underlying mt = some (.map t e)) (b : Nat) (l : List (K × Value))
    (hm : a.eval m = .map (some b)) (h : MapIs enc w b l)
    (hK : ∀ w', Iter enc w' w.heap.size b l l → Kp Noone w w' → w'.heap.size = w.heap.size + 1 → wpList P ops Q rest (a.put o.dst (.pointer (some ⟨w.heap.size, 0, none⟩))) w') : wpList P ops Q (o :: rest) a w := by
  refine wpList_plain hg fun K' hK' => ?_
  obtain ⟨w', hrun, r1, r2, r3⟩ := h.range (P := P) ht
  unfold Oper.wp
  simp [execOp, hop, hm, hrun, Result.andThen]
  exact hK' _ _ (hK w' r1 r2 r3)

theorem wpList_next_is (hg : o.guard = none) (it : Operand) (hop : o.op = Op.next it false) (hinj : ∀ a c, enc a = enc c → a = c) (r b : Nat) (l todo : List (K × Value))
    (hit : a.eval it = .pointer (some ⟨r, 0, none⟩)) (h : Iter enc w r b l todo)
    (hDone : todo = [] → wpList P ops Q rest (a.put o.dst (.tuple #[.bool false])) w)
    (hMore : ∀ k v w', (k, v) ∈ todo → Iter enc w' r b l (alDel k todo) → Kp (fun j => j = r) w w' → w'.heap.size = w.heap.size → (Instr.entry (.pointer (some ⟨r, 0, none⟩))).run P w' = .ok (.tuple #[enc k, v]) w' →
      wpList P ops Q rest (a.put o.dst (.tuple #[.bool true, enc k, v])) w') : wpList P ops Q (o :: rest) a w := by
  refine wpList_plain hg fun K' hK' => ?_
  unfold Oper.wp
  rcases h.next (P := P) hinj o.type with ⟨h0, hrun⟩ | ⟨k, v, w', hm, hrun, hi, hkp, hsz, hen⟩
  · simp [execOp, hop, hit, hrun, Result.andThen]
    exact hK' _ _ (hDone h0)
  · simp [execOp, hop, hit, hrun, Result.andThen]
    exact hK' _ _ (hMore k v w' hm hi hkp hsz hen)

end

end Go.Proofs.YtgbgbokcohfnpaaGreat

/-
  PLAIN LEMMAS, NO PROGRAM: colours: which of several owners a block belongs to.
-/
namespace Go.Proofs.YtgbgbokcohfnpaaGreat
open Go.RowKit

/-- The blocks of one colour. -/
def Col (col : Nat → Nat) (i : Nat) : Nat → Prop := fun k => col k = i
/-- What was made between two worlds takes a colour. -/
def paint (col : Nat → Nat) (w w' : World) (i : Nat) : Nat → Nat := fun k => if w.heap.size ≤ k ∧ k < w'.heap.size then i else col k
/-- Only blocks from B on, and none that is not there, bear a colour (but 0). -/
def Cols (B : Nat) (w : World) (col : Nat → Nat) : Prop := ∀ k, col k ≠ 0 → B ≤ k ∧ k < w.heap.size

theorem Cols.zero (B : Nat) (w : World) : Cols B w (fun _ => 0) := fun _ h => (h rfl).elim
theorem Cols.paint {B : Nat} {w w' : World} {col : Nat → Nat} (h : Cols B w col) (hB : B ≤ w.heap.size) (hs : w.heap.size ≤ w'.heap.size) (i : Nat) : Cols B w' (paint col w w' i) := by
  intro k hk
  unfold Proofs.YtgbgbokcohfnpaaGreat.paint at hk
  split at hk
  · omega
  · have := h k hk; omega
theorem Cols.keep {B : Nat} {w w' : World} {col : Nat → Nat} (h : Cols B w col) (hs : w.heap.size ≤ w'.heap.size) : Cols B w' col := fun k hk => by have := h k hk; omega
theorem paint_ex {col : Nat → Nat} {w w' : World} {i k : Nat} (h : Ex (Col col i) w w' k) : Col (paint col w w' i) i k := by
  unfold Col Proofs.YtgbgbokcohfnpaaGreat.paint
  rcases h with h | h
  · unfold Col at h; split <;> simp [h]
  · rw [if_pos h]
theorem paint_new {col : Nat → Nat} {w w' : World} {i k : Nat} (h : Ex Noone w w' k) : Col (paint col w w' i) i k := by
  unfold Col Proofs.YtgbgbokcohfnpaaGreat.paint
  rw [if_pos h.none]
theorem paint_old {col : Nat → Nat} {w w' : World} {i j k : Nat} (hk : k < w.heap.size) (h : Col col j k) : Col (paint col w w' i) j k := by
  unfold Col Proofs.YtgbgbokcohfnpaaGreat.paint at *
  rw [if_neg (by omega)]; exact h
theorem Col.ne {col : Nat → Nat} {i j k : Nat} (hij : i ≠ j) (h : Col col i k) : ¬ Col col j k := fun h' => hij (h.symm.trans h')
theorem Col.lt {B : Nat} {w : World} {col : Nat → Nat} {i k : Nat} (hc : Cols B w col) (hi : i ≠ 0) (h : Col col i k) : B ≤ k ∧ k < w.heap.size := hc k (by unfold Col at h; omega)

/-- The owner that acts. -/
theorem Own.painted {col : Nat → Nat} {w w' : World} {e sz : Nat} {ao : Option Addr} {n cap : Nat} {xs : List Value} {i : Nat} (h : Own (Ex (Col col i) w w') w' e sz ao n cap xs) : Own (Col (paint col w w' i) i) w' e sz ao n cap xs :=
  h.mono (fun _ _ h => paint_ex h)
/-- What is new takes its colour. -/
theorem Own.born {col : Nat → Nat} {w w' : World} {e sz : Nat} {ao : Option Addr} {n cap : Nat} {xs : List Value} {i : Nat} (h : Own (Ex Noone w w') w' e sz ao n cap xs) : Own (Col (paint col w w' i) i) w' e sz ao n cap xs :=
  h.mono (fun _ _ h => paint_new h)
/-- Another owner, while the one of colour i acts. -/
theorem Own.other {B : Nat} {col : Nat → Nat} {w w' : World} {e sz : Nat} {ao : Option Addr} {n cap : Nat} {xs : List Value} {i j : Nat} (h : Own (Col col j) w e sz ao n cap xs) (hc : Cols B w col) (hj : j ≠ 0) (hij : j ≠ i) (k : Kp (Col col i) w w') (i' : Nat) :
    Own (Col (paint col w w' i') j) w' e sz ao n cap xs :=
  (h.kp k (fun _ hb => Col.ne hij hb)).mono (fun _ _ hb => paint_old (Col.lt hc hj hb).2 hb)
/-- What is not ours is not touched by an owner's act. -/
theorem Kp.col {B i : Nat} {col : Nat → Nat} {W w w' : World} (h : Kp Noone W w) (hB : W.heap.size ≤ B) (hc : Cols B w col) (hi : i ≠ 0) (k : Kp (Col col i) w w') : Kp Noone W w' :=
  Kp.fin h k (fun j hj => Or.inr (by have := Col.lt hc hi hj; omega))

end Go.Proofs.YtgbgbokcohfnpaaGreat

/-
  FROM ONE WORLD TO A LATER ONE: what a call leaves of the blocks of other colours.
-/
namespace Go.Proofs.YtgbgbokcohfnpaaGreat
open Go.RowKit

/-- From one world to a later one: blocks of certain colours alone change, new blocks bear these or none. -/
structure Ext (B : Nat) (S : Nat → Prop) (col : Nat → Nat) (w : World) (col' : Nat → Nat) (w' : World) : Prop where
  cols : Cols B w' col'
  old : ∀ k, k < w.heap.size → col' k = col k
  fresh : ∀ k, w.heap.size ≤ k → col' k ≠ 0 → S (col' k)
  kp : Kp (fun j => S (col j)) w w'
theorem Ext.quiet {B : Nat} {S : Nat → Prop} {col : Nat → Nat} {w w' : World} (hc : Cols B w col) (k : Kp Noone w w') : Ext B S col w col w' :=
  ⟨hc.keep k.size, fun _ _ => rfl, fun k hk hn => by have := hc k hn; omega, k.none⟩
theorem Ext.mono {B : Nat} {S T : Nat → Prop} {col col' : Nat → Nat} {w w' : World} (h : Ext B S col w col' w') (hs : ∀ c, S c → T c) : Ext B T col w col' w' :=
  ⟨h.cols, h.old, fun k a b => hs _ (h.fresh k a b), h.kp.mono (fun _ _ c => hs _ c)⟩
theorem Ext.trans {B : Nat} {S : Nat → Prop} {col col' col2 : Nat → Nat} {w w' w2 : World} (h : Ext B S col w col' w') (k : Ext B S col' w' col2 w2) : Ext B S col w col2 w2 := by
  have s1 := h.kp.size
  refine ⟨k.cols, fun j hj => (k.old j (by omega)).trans (h.old j hj), fun j hj hn => ?_, h.kp.trans' k.kp (fun j hj c => by rw [h.old j hj] at c; exact c)⟩
  by_cases hk : j < w'.heap.size
  · rw [k.old j hk] at hn ⊢
    exact h.fresh j hj hn
  · exact k.fresh j (by omega) hn
theorem Ext.size {B : Nat} {S : Nat → Prop} {col col' : Nat → Nat} {w w' : World} (h : Ext B S col w col' w') : w.heap.size ≤ w'.heap.size := h.kp.size
theorem Ext.drewN {B : Nat} {S : Nat → Prop} {col col' : Nat → Nat} {w w' : World} (h : Ext B S col w col' w') (n : Nat) : Ext B S col w col' (w'.drewN n) := ⟨h.cols, h.old, h.fresh, h.kp.drewN n⟩

/-! ### Cells -/

theorem cells_two {w : World} {p e : Nat} {a b : Value} (h : w.heap[p]? = some (.cells #[a, b] e (0, 0))) :
    w.cell? ⟨p, 0, none⟩ = some a ∧ w.cell? ⟨p, 1, none⟩ = some b ∧ w.frozen? ⟨p, 0, none⟩ = false ∧ w.frozen? ⟨p, 1, none⟩ = false := by
  refine ⟨?_, ?_, ?_, ?_⟩
  · rw [cell_of_row w p 0 _ e (0, 0) h]; rfl
  · rw [cell_of_row w p 1 _ e (0, 0) h]; rfl
  all_goals simp [World.frozen?, h]

end Go.Proofs.YtgbgbokcohfnpaaGreat
