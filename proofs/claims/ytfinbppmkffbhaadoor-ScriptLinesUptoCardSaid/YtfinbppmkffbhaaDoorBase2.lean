/-
  Base, App in one text.
-/
import Derived.WalkKit
import Derived.WalkSpells
import Derived.WalkLawsBesides
import Derived.Lib.Hide
import Derived.Deep.QuietTactic
import Derived.BigQuiet
import Derived.Lib.SlBytesConst
import Derived.Deep.RegionLaw
import Derived.Deep.LoopGhost
import Derived.ChangeKeysEq
/-
  PLAIN LEMMAS, NO PROGRAM: frames of worlds (Kp), rows of cells, byte slices, what append, make and slicing do to them.
-/
namespace Go.Proofs.YtfinbppmkffbhaaDoor
open Go.RowKit

/-! ### Frames -/

/-- From w to w' no old block outside S has changed; the streams are as they were. -/
structure Kp (S : Nat → Prop) (w w' : World) : Prop where
  os : w'.os = w.os
  tape : w'.tape = w.tape
  output : w'.output = w.output
  size : w.heap.size ≤ w'.heap.size
  block : ∀ k, k < w.heap.size → ¬ S k → w'.heap[k]? = w.heap[k]?

def Noone : Nat → Prop := fun _ => False

theorem Kp.refl (S : Nat → Prop) (w : World) : Kp S w w := ⟨rfl, rfl, rfl, Nat.le_refl _, fun _ _ _ => rfl⟩
theorem Kp.mono {S T : Nat → Prop} {w w' : World} (h : Kp S w w') (hs : ∀ k, k < w.heap.size → S k → T k) : Kp T w w' :=
  ⟨h.os, h.tape, h.output, h.size, fun k hk hn => h.block k hk (fun c => hn (hs k hk c))⟩
/-- Two steps: the second one may also touch what is newer than the first world. -/
theorem Kp.trans' {S T : Nat → Prop} {a b c : World} (h : Kp S a b) (k : Kp T b c) (ht : ∀ k, k < a.heap.size → T k → S k) : Kp S a c :=
  ⟨k.os.trans h.os, k.tape.trans h.tape, k.output.trans h.output, Nat.le_trans h.size k.size,
   fun i hi hn => (k.block i (Nat.lt_of_lt_of_le hi h.size) (fun c => hn (ht i hi c))).trans (h.block i hi hn)⟩
theorem Kp.trans {S : Nat → Prop} {a b c : World} (h : Kp S a b) (k : Kp S b c) : Kp S a c := h.trans' k (fun _ _ h => h)
theorem Kp.none {S : Nat → Prop} {w w' : World} (h : Kp Noone w w') : Kp S w w' := h.mono (fun _ _ c => c.elim)
theorem Kp.below {w w' : World} (h : Kp Noone w w') : Below w.heap.size w w' :=
  ⟨h.os, h.tape, h.output, h.size, fun k hk => h.block k hk id⟩
theorem Kp.ofBelow {w w' : World} (h : Below w.heap.size w w') : Kp Noone w w' :=
  ⟨h.os, h.tape, h.output, h.size, fun k hk _ => h.block k hk⟩
theorem Kp.alloc {S : Nat → Prop} {a w : World} (h : Kp S a w) (o : Obj) : Kp S a (w.alloc o) :=
  h.trans ⟨rfl, rfl, rfl, by simp, fun k hk _ => Below.heap_alloc _ _ _ hk⟩
theorem Kp.drew {S : Nat → Prop} {a w : World} (h : Kp S a w) : Kp S a w.drew := ⟨h.os, h.tape, h.output, h.size, h.block⟩
theorem Kp.drewN {S : Nat → Prop} {a w : World} (h : Kp S a w) (n : Nat) : Kp S a (w.drewN n) := ⟨h.os, h.tape, h.output, h.size, h.block⟩
theorem Kp.setCell {S : Nat → Prop} {a w : World} (h : Kp S a w) {p : Addr} (hp : p.block < a.heap.size → S p.block) (u : Value) : Kp S a (w.setCell p u) :=
  ⟨h.os, h.tape, h.output, by simp only [World.setCell, Array.size_modify]; exact h.size, fun k hk hn => by
    rw [Below.heap_setCell _ _ _ _ (fun e => hn (by subst e; exact hp hk))]
    exact h.block k hk hn⟩
theorem Kp.cell {S : Nat → Prop} {w w' : World} (h : Kp S w w') {p : Addr} {v : Value} (hc : w.cell? p = some v) (hp : ¬ S p.block) : w'.cell? p = some v :=
  (World.cell?_of_block (h.block p.block (World.block_lt_of_cell? w p hc) hp)).trans hc
theorem Kp.frozen {S : Nat → Prop} {w w' : World} (h : Kp S w w') {p : Addr} (hl : p.block < w.heap.size) (hp : ¬ S p.block) : w'.frozen? p = w.frozen? p :=
  World.frozen?_of_block (h.block p.block hl hp)
theorem Kp.heap {S : Nat → Prop} {w w' : World} (h : Kp S w w') {k : Nat} {o : Obj} (hc : w.heap[k]? = some o) (hp : ¬ S k) : w'.heap[k]? = some o :=
  (h.block k (Array.getElem?_eq_some_iff.1 hc).1 hp).trans hc

/-! ### Rows of cells -/

/-- The address leads to these cells (nothing is said of the address where there are none). -/
def Row (w : World) (ao : Option Addr) (xs : List Value) : Prop :=
  xs = [] ∨ ∃ b off, ao = some ⟨b, off, none⟩ ∧ ∀ i (h : i < xs.length), w.cell? ⟨b, off + i, none⟩ = some xs[i]

/-- All cells of the row lie in blocks that S does not hold. -/
def Off (S : Nat → Prop) (ao : Option Addr) : Prop := ∀ a, ao = some a → ¬ S a.block

theorem Off.none' (ao : Option Addr) : Off Noone ao := fun _ _ c => c.elim

theorem Row.nil (w : World) (ao : Option Addr) : Row w ao [] := Or.inl rfl
theorem Row.kp {S : Nat → Prop} {w w' : World} {ao : Option Addr} {xs : List Value} (h : Row w ao xs) (k : Kp S w w') (ho : Off S ao) : Row w' ao xs := by
  rcases h with h | ⟨b, off, rfl, h⟩
  · exact Or.inl h
  · exact Or.inr ⟨b, off, rfl, fun i hi => k.cell (h i hi) (by exact ho ⟨b, off, none⟩ rfl)⟩
theorem Row.keep {w w' : World} {ao : Option Addr} {xs : List Value} (h : Row w ao xs) (k : Kp Noone w w') : Row w' ao xs := h.kp k (Off.none' _)

theorem Row.lt {w : World} {ao : Option Addr} {xs : List Value} (h : Row w ao xs) (hx : xs ≠ []) : ∃ a, ao = some a ∧ a.block < w.heap.size := by
  rcases h with h | ⟨b, off, rfl, h⟩
  · exact (hx h).elim
  · have hl : 0 < xs.length := List.length_pos_iff.2 hx
    exact ⟨_, rfl, World.block_lt_of_cell? w _ (h 0 hl)⟩

theorem Row.sub {w : World} {ao : Option Addr} {xs : List Value} (h : Row w ao xs) (lo : Nat) (cap : Nat) (hc : xs.length ≤ cap) (ys : List Value) (hy : ys <+: xs.drop lo) :
    Row w (if cap = lo then ao else ao.map (·.add lo)) ys := by
  by_cases hys : ys = []
  · exact Or.inl hys
  · have hlen : ys.length ≤ xs.length - lo := by have := hy.length_le; simpa using this
    have hpos : 0 < ys.length := List.length_pos_iff.2 hys
    rw [if_neg (by omega)]
    rcases h with h | ⟨b, off, rfl, h⟩
    · subst h; simp at hlen; exact (hys hlen).elim
    · refine Or.inr ⟨b, off + lo, by simp [Addr.add_lit], fun i hi => ?_⟩
      rw [Nat.add_assoc, h (lo + i) (by omega)]
      have h1 : ys[i]? = (xs.drop lo)[i]? := by
        obtain ⟨t, ht⟩ := hy
        rw [← ht, List.getElem?_append_left hi]
      rw [List.getElem?_drop, List.getElem?_eq_getElem (show lo + i < xs.length by omega), List.getElem?_eq_getElem hi] at h1
      rw [Option.some.inj h1]

def U8 (b : UInt8) : Value := .int .u8 (b.toNat : Int)
def bv (l : List UInt8) : List Value := l.map U8

/-- A byte slice that came in, or that nothing is known of but what it holds. -/
structure BS (w : World) (ao : Option Addr) (n cap : Nat) (l : List UInt8) : Prop where
  len : l.length = n
  le : n ≤ cap
  max : cap ≤ maxLen
  row : Row w ao (bv l)

theorem length_bv (l : List UInt8) : (bv l).length = l.length := by simp [bv]
theorem BS.kp {S : Nat → Prop} {w w' : World} {ao : Option Addr} {n cap : Nat} {l : List UInt8} (h : BS w ao n cap l) (k : Kp S w w') (ho : Off S ao) : BS w' ao n cap l :=
  ⟨h.len, h.le, h.max, h.row.kp k ho⟩
theorem BS.keep {w w' : World} {ao : Option Addr} {n cap : Nat} {l : List UInt8} (h : BS w ao n cap l) (k : Kp Noone w w') : BS w' ao n cap l := h.kp k (Off.none' _)

/-- The two shapes in which a walk wants a byte slice. -/
theorem BS.parts {w : World} {ao : Option Addr} {n cap : Nat} {l : List UInt8} (h : BS w ao n cap l) :
    (n ≤ 0 ∧ l = []) ∨ ∃ b off, ao = some ⟨b, off, none⟩ ∧ ∀ i (hi : i < l.length), w.cell? ⟨b, off + i, none⟩ = some (.int .u8 (l[i].toNat : Int)) := by
  rcases h.row with hr | ⟨b, off, rfl, hr⟩
  · left
    have h1 := h.len
    have h2 : l = [] := by simpa [bv] using hr
    subst h2
    exact ⟨by simp at h1; omega, rfl⟩
  · right
    refine ⟨b, off, rfl, fun i hi => ?_⟩
    rw [hr i (by simpa [bv] using hi)]
    simp [bv, U8]

/-- Where there is a k-th byte there is an address, and the cell. -/
theorem BS.at {w : World} {ao : Option Addr} {n cap : Nat} {l : List UInt8} (h : BS w ao n cap l) {k : Nat} (hk : k < n) :
    ∃ b off, ∃ hl : k < l.length, ao = some ⟨b, off, none⟩ ∧ b < w.heap.size ∧ w.cell? ⟨b, off + k, none⟩ = some (.int .u8 (l[k].toNat : Int)) := by
  have hl : k < l.length := by rw [h.len]; exact hk
  rcases h.parts with ⟨h0, _⟩ | ⟨b, off, rfl, hr⟩
  · omega
  · exact ⟨b, off, hl, rfl, World.block_lt_of_cell? w _ (hr k hl), hr k hl⟩

/-- A slice of byte slices. -/
structure BSS (w : World) (ao : Option Addr) (n cap : Nat) (ls : List (List UInt8)) : Prop where
  len : ls.length = n
  le : n ≤ cap
  max : cap ≤ maxLen
  row : ∃ hs : List (Option Addr × Nat × Nat), hs.length = n ∧ Row w ao (hs.map fun h => .slice h.1 h.2.1 h.2.2) ∧
    ∀ i (h1 : i < hs.length) (h2 : i < ls.length), BS w hs[i].1 hs[i].2.1 hs[i].2.2 ls[i]

theorem BSS.at {w : World} {ao : Option Addr} {n cap : Nat} {ls : List (List UInt8)} (h : BSS w ao n cap ls) {k : Nat} (hk : k < n) :
    ∃ b off bo m c, ∃ hl : k < ls.length, ao = some ⟨b, off, none⟩ ∧ b < w.heap.size ∧ w.cell? ⟨b, off + k, none⟩ = some (.slice bo m c) ∧ BS w bo m c ls[k] := by
  obtain ⟨h1, _, _, hs, hn, hr, hb⟩ := h
  have hl : k < ls.length := by omega
  have hk' : k < hs.length := by omega
  rcases hr with hr | ⟨b, off, rfl, hr⟩
  · have := congrArg List.length hr
    simp at this
    subst this
    simp at hk'
  · have hc := hr k (by simpa using hk')
    rw [List.getElem_map] at hc
    exact ⟨b, off, _, _, _, hl, rfl, World.block_lt_of_cell? w _ hc, hc, hb k hk' hl⟩
theorem BSS.keep {w w' : World} {ao : Option Addr} {n cap : Nat} {ls : List (List UInt8)} (h : BSS w ao n cap ls) (k : Kp Noone w w') : BSS w' ao n cap ls := by
  obtain ⟨h1, h2, h3, hs, hn, hr, hb⟩ := h
  exact ⟨h1, h2, h3, hs, hn, hr.keep k, fun i a b => (hb i a b).keep k⟩

theorem BSS.one {w : World} {g : Nat} {bo : Option Addr} {m c : Nat} {l : List UInt8} (hc : w.cell? ⟨g, 0, none⟩ = some (.slice bo m c)) (hb : BS w bo m c l) : BSS w (some ⟨g, 0, none⟩) 1 1 [l] := by
  refine ⟨rfl, Nat.le_refl _, by simp [maxLen], [(bo, m, c)], rfl, Or.inr ⟨g, 0, rfl, fun i hi => ?_⟩, fun i h1 h2 => ?_⟩
  · simp at hi; subst hi; simpa using hc
  · simp at h1; subst h1; simpa using hb

/-- A new row of bytes, whole. -/
theorem BS.ofHeap {w : World} {g e n : Nat} {l : List UInt8} {fr : Nat × Nat} (hh : w.heap[g]? = some (.cells (bv l).toArray e fr)) (hn : l.length = n) (hm : n ≤ maxLen) : BS w (some ⟨g, 0, none⟩) n n l :=
  ⟨hn, Nat.le_refl _, hm, Or.inr ⟨g, 0, rfl, fun i hi => by rw [cell_of_row w g _ _ e fr hh]; simp [hi]⟩⟩

theorem u8_beq (x y : UInt8) : ((x.toNat : Int) == (y.toNat : Int)) = (x == y) := by
  rw [Bool.eq_iff_iff, beq_iff_eq, beq_iff_eq]
  exact ⟨fun h => UInt8.toNat_inj.1 (Int.ofNat.inj h), fun h => by rw [h]⟩

/-- Two arrays of bytes, held against each other. -/
theorem run_eqItems_bytes {P : Program} {W : World} (d e : Nat) (he : P.underlying e = some (.int .u8)) (l r : List UInt8) : ∀ is : List Nat, (∀ i ∈ is, i < l.length ∧ i < r.length) →
    (Op.eqItems (d + 1) e 1 (bv l).toArray (bv r).toArray is).run P W = .ok (is.all fun i => l[i]? == r[i]?) W
  | [], _ => by simp [Op.eqItems]
  | i :: is, h => by
    have h1 := (h i (by simp)).1
    have h2 := (h i (by simp)).2
    have ih := run_eqItems_bytes (W := W) d e he l r is (fun j hj => h j (by simp [hj]))
    have q : ∀ (l : List UInt8) (h : i < l.length), (part e (bv l).toArray (i * 1)).run P W = .ok (.int .u8 (l[i].toNat : Int)) W := by
      intro l hl
      simp [part, bv, hl, U8, isAgg, run_underlying he]
    simp only [Op.eqItems, Sem.run_bind, q l h1, q r h2, run_equalIn_int W d e .u8 .u8 _ _ he, Result.andThen_ok, u8_beq]
    by_cases hxy : l[i] = r[i]
    · rw [hxy]
      simp [ih, hxy, h1, h2]
    · simp [hxy, h1, h2]

end Go.Proofs.YtfinbppmkffbhaaDoor

/-
  PLAIN LEMMAS, NO PROGRAM: a slice that a call owns (Own), and the law of append for it: whatever its address, whatever is appended.
-/
namespace Go.Proofs.YtfinbppmkffbhaaDoor
open Go.RowKit

/-- A footprint, and what was made since. -/
def Ex (F : Nat → Prop) (w w' : World) : Nat → Prop := fun k => F k ∨ (w.heap.size ≤ k ∧ k < w'.heap.size)
theorem Ex.old {F : Nat → Prop} {w w' : World} {k : Nat} (h : F k) : Ex F w w' k := Or.inl h

/-- The slice (ao, n, cap) of n elements of sz cells each holds xs, in a block of F that nothing else knows of. -/
def Own (F : Nat → Prop) (w : World) (e sz : Nat) (ao : Option Addr) (n cap : Nat) (xs : List Value) : Prop :=
  xs.length = n * sz ∧ n ≤ cap ∧ cap ≤ maxLen ∧
  (cap = 0 ∨ ∃ g off cur, ao = some ⟨g, off, none⟩ ∧ F g ∧ w.heap[g]? = some (.cells cur e (0, 0)) ∧ off + cap * sz ≤ cur.size ∧ ∀ i (h : i < xs.length), cur[off + i]? = some xs[i])

theorem Own.nil (F : Nat → Prop) (w : World) (e sz : Nat) (ao : Option Addr) : Own F w e sz ao 0 0 [] :=
  ⟨by simp, Nat.le_refl _, by simp [maxLen], Or.inl rfl⟩
theorem Own.mono {F G : Nat → Prop} {w : World} {e sz : Nat} {ao : Option Addr} {n cap : Nat} {xs : List Value} (h : Own F w e sz ao n cap xs) (hfg : ∀ k, k < w.heap.size → F k → G k) : Own G w e sz ao n cap xs := by
  obtain ⟨h1, h2, h3, h4⟩ := h
  refine ⟨h1, h2, h3, ?_⟩
  rcases h4 with h4 | ⟨g, off, cur, ha, hg, hh, hr⟩
  · exact Or.inl h4
  · exact Or.inr ⟨g, off, cur, ha, hfg g (Array.getElem?_eq_some_iff.1 hh).1 hg, hh, hr⟩
theorem Own.kp {F S : Nat → Prop} {w w' : World} {e sz : Nat} {ao : Option Addr} {n cap : Nat} {xs : List Value} (h : Own F w e sz ao n cap xs) (k : Kp S w w') (hd : ∀ k, F k → ¬ S k) : Own F w' e sz ao n cap xs := by
  obtain ⟨h1, h2, h3, h4⟩ := h
  refine ⟨h1, h2, h3, ?_⟩
  rcases h4 with h4 | ⟨g, off, cur, ha, hg, hh, hr⟩
  · exact Or.inl h4
  · exact Or.inr ⟨g, off, cur, ha, hg, k.heap hh (hd g hg), hr⟩
theorem Own.keep {F : Nat → Prop} {w w' : World} {e sz : Nat} {ao : Option Addr} {n cap : Nat} {xs : List Value} (h : Own F w e sz ao n cap xs) (k : Kp Noone w w') : Own F w' e sz ao n cap xs := h.kp k (fun _ _ c => c.elim)
theorem Own.row {F : Nat → Prop} {w : World} {e sz : Nat} {ao : Option Addr} {n cap : Nat} {xs : List Value} (h : Own F w e sz ao n cap xs) : Row w ao xs := by
  obtain ⟨h1, h2, h3, h4⟩ := h
  rcases h4 with rfl | ⟨g, off, cur, rfl, hg, hh, hb, hr⟩
  · left
    have : n = 0 := by omega
    subst this
    exact List.eq_nil_of_length_eq_zero (by simpa using h1)
  · exact Or.inr ⟨g, off, rfl, fun i hi => by rw [cell_of_row w g _ cur e (0, 0) hh]; exact hr i hi⟩
/-- A block of its own, whole. -/
theorem Own.fresh {F : Nat → Prop} {w : World} {e sz g n : Nat} {xs : List Value} (hF : F g) (hh : w.heap[g]? = some (.cells xs.toArray e (0, 0))) (hl : xs.length = n * sz) (hm : n ≤ maxLen) : Own F w e sz (some ⟨g, 0, none⟩) n n xs :=
  ⟨hl, Nat.le_refl _, hm, Or.inr ⟨g, 0, xs.toArray, rfl, hF, hh, by simp [hl], fun i hi => by simp [hi]⟩⟩
theorem Own.bs {F : Nat → Prop} {w : World} {e : Nat} {ao : Option Addr} {n cap : Nat} {l : List UInt8} (h : Own F w e 1 ao n cap (bv l)) : BS w ao n cap l :=
  ⟨by have := h.1; simpa [bv] using this, h.2.1, h.2.2.1, h.row⟩

theorem Row.cells {w : World} {ao : Option Addr} {xs : List Value} (h : Row w ao xs) : ∀ a, ao = some a → ∀ j u, xs[j]? = some u → w.cell? (a.add j) = some u := by
  intro a ha j u hu
  obtain ⟨hj, rfl⟩ := List.getElem?_eq_some_iff.1 hu
  rcases h with rfl | ⟨b, off, rfl, h⟩
  · simp at hj
  · obtain rfl := Option.some.inj ha
    rw [Addr.add_lit]
    exact h j hj

theorem run_first {P : Program} {w : World} {ao : Option Addr} {xs : List Value} (h : Row w ao xs) (sz n c1 cap : Nat) (hl : xs.length = n * sz) :
    (Builtin.firstCells sz n (.slice ao c1 cap)).run P w = .ok xs.toArray w := by
  cases ao with
  | none =>
    rcases h with rfl | ⟨b, off, hh, _⟩
    · exact run_firstCells_none w sz n c1 cap
    · cases hh
  | some a => exact run_firstCells_some w sz n a c1 cap xs hl (h.cells a rfl)

theorem zeroCells_size (z : Array Value) (n : Nat) : (Builtin.zeroCells z n).size = n * z.size := by simp [Builtin.zeroCells]

theorem run_append_gen {P : Program} {w : World} {F : Nat → Prop} (t ty e : TypeId) (i : TypeInfo) (z : Value) (sz bytes : Nat) (ht : P.underlying t = some (.slice e)) (hi : P.info? e = some i) (hz : i.zero = some z)
    (hsz : i.size = sz) (hby : i.bytes = bytes) (hzs : z.cells.size = sz)
    {ao : Option Addr} {n cap : Nat} {xs : List Value} (hown : Own F w e sz ao n cap xs)
    {bo : Option Addr} {m c : Nat} {ys : List Value} (hy : ys.length = m * sz) (hrow : Row w bo ys) (hone : ∀ u ∈ ys, u.oneCell' = true)
    (b1 : (n + m) * bytes ≤ 140737488355328) (b2 : n + m ≤ maxLen) :
    ∃ ao' cap' w', (Builtin.append_ #[t, t] ty #[.slice ao n cap, .slice bo m c]).run P w = .ok (.slice ao' (n + m) cap') w' ∧ Own (Ex F w w') w' e sz ao' (n + m) cap' (xs ++ ys) ∧ Kp F w w' := by
  subst hsz hby
  have hlen : (xs ++ ys).length = (n + m) * i.size := by rw [List.length_append, hown.1, hy, Nat.add_mul]
  by_cases hroom : n + m ≤ cap
  · have hf := run_first (P := P) hrow i.size m m c hy
    obtain ⟨h1, h2, h3, h4⟩ := hown
    rcases h4 with rfl | ⟨g, off, cur, rfl, hg, hh, hb, hr⟩
    · have hn : n = 0 := by omega
      have hm : m = 0 := by omega
      subst hn hm
      have hxs : xs = [] := List.eq_nil_of_length_eq_zero (by simpa using h1)
      have hys : ys = [] := List.eq_nil_of_length_eq_zero (by simpa using hy)
      subst hxs hys
      refine ⟨ao, 0, w, ?_, ?_, Kp.refl _ _⟩
      · cases ao with
        | none => simp [Builtin.append_, run_underlying ht, sizeOf, typeInfo, hi, Builtin.lenOf, hf]
        | some a => simp [Builtin.append_, run_underlying ht, sizeOf, typeInfo, hi, Builtin.lenOf, hf, storeCells]
      · exact Own.nil _ _ _ _ _
    · have hfit : off + n * i.size + ys.length ≤ cur.size := by
        rw [hy]
        have : (n + m) * i.size ≤ cap * i.size := Nat.mul_le_mul_right _ hroom
        rw [Nat.add_mul] at this
        omega
      have hst := run_storeCells_at P g (off + n * i.size) e ys 0 cur w hh (by simpa using hfit) hone
      simp only [Nat.add_zero] at hst
      refine ⟨some ⟨g, off, none⟩, cap, w.setRow g (cur.toList.take (off + n * i.size) ++ ys ++ cur.toList.drop (off + n * i.size + ys.length)).toArray, ?_, ?_, ?_⟩
      · simp [Builtin.append_, run_underlying ht, sizeOf, typeInfo, hi, Builtin.lenOf, hroom, hf, Addr.add_lit, hst]
      · refine ⟨hlen, hroom, h3, Or.inr ⟨g, off, _, rfl, Or.inl hg, setRow_heap w g cur _ e (0, 0) hh, ?_, ?_⟩⟩
        · simp only [List.size_toArray, List.length_append, List.length_take, List.length_drop, Array.length_toList]
          omega
        · intro j hj
          have hlt : (cur.toList.take (off + n * i.size)).length = off + n * i.size := by rw [List.length_take, Array.length_toList]; omega
          simp only [List.getElem?_toArray]
          by_cases hjn : j < xs.length
          · rw [List.append_assoc, List.getElem?_append_left (by rw [hlt, ← h1]; omega), List.getElem?_take, if_pos (by rw [← h1]; omega), Array.getElem?_toList, hr j hjn, List.getElem_append_left hjn]
          · have hj' : j < xs.length + ys.length := by simpa using hj
            rw [List.append_assoc, List.getElem?_append_right (by rw [hlt, ← h1]; omega), hlt, List.getElem?_append_left (by rw [← h1]; omega), List.getElem_append_right (by omega),
              List.getElem?_eq_getElem (by rw [← h1]; omega)]
            congr 2
            rw [← h1]; omega
      · refine ⟨rfl, rfl, rfl, by simp, fun k hk hn => setRow_other w g k _ (fun e => hn (e ▸ hg))⟩
  · have hcap : cap < n + m := by omega
    have hn' : ¬ (n + m ≤ cap) := hroom
    have h63' : ¬ (9223372036854775807 < ((n : Int) + (m : Int))) := by unfold maxLen at b2; omega
    have h48 : Builtin.nextslicecap (n + m) cap * i.bytes ≤ 281474976710656 := growslice_fits hcap b1
    have h48' : ¬ (281474976710656 < Builtin.nextslicecap (n + m) cap * i.bytes) := by omega
    have hf := run_first (P := P) (w := w.drew) (ao := bo) (xs := ys) hrow i.size m m c hy
    have hfo := run_first (P := P) (w := w.drew) (ao := ao) (xs := xs) hown.row i.size n n cap hown.1
    have hge := grownCap_ge w (n + m) cap e
    refine ⟨some ⟨w.heap.size, 0, none⟩, grownCap w (n + m) cap e, w.drew.alloc (.cells (xs ++ (ys ++ (Builtin.zeroCells z.cells (grownCap w (n + m) cap e - (n + m))).toList)).toArray e), ?_, ?_, ?_⟩
    · simp [Builtin.append_, run_underlying ht, sizeOf, typeInfo, zeroValue, hi, hz, Builtin.lenOf, hn', h63', h48', Question.forced, hf, hfo, newRow, grownCap]
      congr 2
      apply Array.ext'
      simp
    · refine ⟨hlen, hge, grownCap_le_maxLen w _ _ _ b2, Or.inr ⟨w.heap.size, 0, _, rfl, Or.inr ⟨Nat.le_refl _, by simp⟩, heap_alloc_new w.drew _, ?_, ?_⟩⟩
      · simp only [List.size_toArray, List.length_append, Array.length_toList, zeroCells_size, hzs, hown.1, hy, Nat.zero_add]
        rw [← Nat.add_mul, ← Nat.add_mul]
        exact Nat.mul_le_mul_right _ (by omega)
      · intro j hj
        simp only [Nat.zero_add, List.getElem?_toArray]
        rw [← List.append_assoc, List.getElem?_append_left hj, List.getElem?_eq_getElem hj]
    · exact ((Kp.refl F w).drew).alloc _

theorem wpList_append_gen {P : Program} (w : World) {ops : Array Oper} {rest : List Oper} {o : Oper} {a : Act} {Q : Exit → Act → World → Prop}
    (hg : o.guard = none) (s x : Operand) (t : TypeId) (hop : o.op = Op.call { callee := Callee.builtin Builtin.append, args := #[s, x], argTypes := #[t, t] })
    (e : TypeId) (i : TypeInfo) (z : Value) (sz bytes : Nat) (h1 : P.underlying t = some (.slice e)) (h2 : P.info? e = some i) (h3 : i.zero = some z) (h4 : i.size = sz) (h5 : i.bytes = bytes) (h6 : z.cells.size = sz)
    (ao : Option Addr) (n cap : Nat) (hs : a.eval s = .slice ao n cap) (bo : Option Addr) (m c : Nat) (hx : a.eval x = .slice bo m c)
    (F : Nat → Prop) (xs : List Value) (hown : Own F w e sz ao n cap xs) (ys : List Value) (hy : ys.length = m * sz) (hrow : Row w bo ys) (hone : ∀ u ∈ ys, u.oneCell' = true)
    (b1 : (n + m) * bytes ≤ 140737488355328) (b2 : n + m ≤ maxLen)
    (hK : ∀ ao' cap' w', Own (Ex F w w') w' e sz ao' (n + m) cap' (xs ++ ys) → Kp F w w' → wpList P ops Q rest (a.put o.dst (.slice ao' (n + m) cap')) w') :
    wpList P ops Q (o :: rest) a w := by
  refine wpList_plain hg fun K hK' => ?_
  obtain ⟨ao', cap', w', hrun, r1, r2⟩ := run_append_gen (P := P) (w := w) t o.type e i z sz bytes h1 h2 h3 h4 h5 h6 hown hy hrow hone (c := c) b1 b2
  unfold Oper.wp
  simp [execOp, hop, resolve, invoke, builtin, hs, hx, hrun, Result.andThen]
  exact hK' _ _ (hK ao' cap' w' r1 r2)

theorem bv_get (l : List UInt8) {k : Nat} (h : k < (bv l).length) (h' : k < l.length) : (bv l)[k] = .int .u8 (l[k].toNat : Int) := by
  exact List.getElem_map (l := l) U8 (h := h)
theorem bv_set (l : List UInt8) (k : Nat) (c : UInt8) : (bv l).set k (U8 c) = bv (l.set k c) := by unfold bv; rw [List.map_set]

theorem flip_val (x : UInt8) : Value.int .u8 (bits .xor .u8 (x.toNat : Int) 255) = U8 (x ^^^ 255) := by
  have hx := x.toNat_lt
  rw [u8_xor _ _ (by omega) (by omega) (by omega) (by omega)]
  simp [U8]
theorem flip_val5 (x : UInt8) : Value.int .u8 (bits .xor .u8 (x.toNat : Int) 85) = U8 (x ^^^ 85) := by
  have hx := x.toNat_lt
  rw [u8_xor _ _ (by omega) (by omega) (by omega) (by omega)]
  simp [U8]
/-- The k-th cell of what is owned: where it lies, that it may be written. -/
theorem Own.at {F : Nat → Prop} {w : World} {e sz : Nat} {ao : Option Addr} {n cap : Nat} {xs : List Value} (h : Own F w e sz ao n cap xs) {k : Nat} (hk : k < xs.length) :
    ∃ g off, ao = some ⟨g, off, none⟩ ∧ F g ∧ g < w.heap.size ∧ w.cell? ⟨g, off + k, none⟩ = some xs[k] ∧ w.frozen? ⟨g, off + k, none⟩ = false := by
  obtain ⟨h1, h2, h3, h4⟩ := h
  rcases h4 with rfl | ⟨g, off, cur, rfl, hg, hh, hb, hr⟩
  · have : n = 0 := by omega
    subst this
    rw [h1] at hk
    simp at hk
  · refine ⟨g, off, rfl, hg, (Array.getElem?_eq_some_iff.1 hh).1, by rw [cell_of_row w g _ cur e (0, 0) hh]; exact hr k hk, ?_⟩
    simp [World.frozen?, hh]
/-- .. and what a store there makes of it. -/
theorem Own.set {F : Nat → Prop} {w : World} {e sz : Nat} {g off : Nat} {n cap : Nat} {xs : List Value} (h : Own F w e sz (some ⟨g, off, none⟩) n cap xs) {k : Nat} (hk : k < xs.length) (v : Value) :
    Own F (w.setCell ⟨g, off + k, none⟩ v) e sz (some ⟨g, off, none⟩) n cap (xs.set k v) := by
  obtain ⟨h1, h2, h3, h4⟩ := h
  refine ⟨by rw [List.length_set]; exact h1, h2, h3, ?_⟩
  rcases h4 with rfl | ⟨g', off', cur, he, hg, hh, hb, hr⟩
  · exact Or.inl rfl
  · simp only [Option.some.injEq, Addr.mk.injEq] at he
    obtain ⟨rfl, rfl, _⟩ := he
    refine Or.inr ⟨g, off, cur.setIfInBounds (off + k) v, rfl, hg, ?_, by simpa using hb, fun i hi => ?_⟩
    · simp [World.setCell, Array.getElem?_modify, hh]
    · rw [List.length_set] at hi
      have hkc : off + k < cur.size := by
        have := hr k hk
        exact (Array.getElem?_eq_some_iff.1 this).1
      by_cases hik : i = k
      · subst hik
        simp [hkc]
      · rw [Array.getElem?_setIfInBounds, if_neg (by omega), hr i hi, List.getElem_set_ne (by omega)]

/-- One byte of what is owned, read ahead of a store. -/
theorem Own.byte {F : Nat → Prop} {w : World} {e : Nat} {ao : Option Addr} {n cap : Nat} {l : List UInt8} (h : Own F w e 1 ao n cap (bv l)) {k : Nat} (hk : k < n) :
    ∃ g off, ∃ hl : k < l.length, ao = some ⟨g, off, none⟩ ∧ F g ∧ g < w.heap.size ∧ w.cell? ⟨g, off + k, none⟩ = some (.int .u8 (l[k].toNat : Int)) ∧ w.frozen? ⟨g, off + k, none⟩ = false ∧
      ∀ c : UInt8, Own F (w.setCell ⟨g, off + k, none⟩ (U8 c)) e 1 ao n cap (bv (l.set k c)) := by
  have hn : l.length = n := by have := h.1; rw [length_bv] at this; omega
  have hl : k < l.length := by omega
  obtain ⟨g, off, rfl, hF, hg, hc, hf⟩ := h.at (k := k) (by rw [length_bv]; exact hl)
  exact ⟨g, off, hl, rfl, hF, hg, by rw [hc, bv_get _ _ hl], hf, fun c => by rw [← bv_set]; exact h.set (by rw [length_bv]; exact hl) _⟩

/-- The same as one step of a region that draws its order. -/
theorem step_append_gen {P : Program} {ops : Array Oper} {o : Oper} {a : Act} {w : World} {K : Act → World → Prop} {Q : Exit → Act → World → Prop} {E : Prop}
    (hg : o.guard = none) (s x : Operand) (t : TypeId) (hop : o.op = Op.call { callee := Callee.builtin Builtin.append, args := #[s, x], argTypes := #[t, t] })
    (e : TypeId) (i : TypeInfo) (z : Value) (sz bytes : Nat) (h1 : P.underlying t = some (.slice e)) (h2 : P.info? e = some i) (h3 : i.zero = some z) (h4 : i.size = sz) (h5 : i.bytes = bytes) (h6 : z.cells.size = sz)
    (ao : Option Addr) (n cap : Nat) (hs : a.eval s = .slice ao n cap) (bo : Option Addr) (m c : Nat) (hx : a.eval x = .slice bo m c)
    (F : Nat → Prop) (xs : List Value) (hown : Own F w e sz ao n cap xs) (ys : List Value) (hy : ys.length = m * sz) (hrow : Row w bo ys) (hone : ∀ u ∈ ys, u.oneCell' = true)
    (b1 : (n + m) * bytes ≤ 140737488355328) (b2 : n + m ≤ maxLen)
    (hK : ∀ ao' cap' w', Own (Ex F w w') w' e sz ao' (n + m) cap' (xs ++ ys) → Kp F w w' → K (a.put o.dst (.slice ao' (n + m) cap')) w') :
    if Region.wanted o (yielded ops a.tmps) = true then Oper.wp P o a w K Q else E := by
  have hw : Region.wanted o (yielded ops a.tmps) = true := by simp [Region.wanted, hg]
  rw [if_pos hw]
  obtain ⟨ao', cap', w', hrun, r1, r2⟩ := run_append_gen (P := P) (w := w) t o.type e i z sz bytes h1 h2 h3 h4 h5 h6 hown hy hrow hone (c := c) b1 b2
  unfold Oper.wp
  simp [execOp, hop, resolve, invoke, builtin, hs, hx, hrun, Result.andThen]
  exact hK ao' cap' w' r1 r2

theorem Row.ofHeap {w : World} {g e : Nat} {xs : List Value} {fr : Nat × Nat} (hh : w.heap[g]? = some (.cells xs.toArray e fr)) : Row w (some ⟨g, 0, none⟩) xs :=
  Or.inr ⟨g, 0, rfl, fun i hi => by rw [cell_of_row w g _ _ e fr hh]; simp [hi]⟩
/-- What is newer than a does not count as a's. -/
theorem Kp.fin {S T : Nat → Prop} {a b c : World} (h : Kp S a b) (k : Kp T b c) (ht : ∀ k, T k → S k ∨ a.heap.size ≤ k) : Kp S a c :=
  h.trans' k (fun i hi hT => (ht i hT).resolve_right (by omega))
theorem Ex.none {w w' : World} {k : Nat} (h : Ex Noone w w' k) : w.heap.size ≤ k ∧ k < w'.heap.size := h.resolve_left id
theorem bv_one (l : List UInt8) : ∀ u ∈ bv l, u.oneCell' = true := by
  intro u hu
  obtain ⟨_, _, rfl⟩ := List.mem_map.1 hu
  rfl
theorem bv_append (a b : List UInt8) : bv a ++ bv b = bv (a ++ b) := by simp [bv]

end Go.Proofs.YtfinbppmkffbhaaDoor

