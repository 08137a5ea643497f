/-
  PLAIN LEMMAS, NO PROGRAM: frames of worlds (Kp), rows of cells, byte slices, what append, make and slicing do to them.
-/
import Derived.WalkKit
import Derived.WalkSpells
import Derived.WalkLawsBesides
import Derived.Lib.Hide
import Derived.Deep.QuietTactic
import Derived.BigQuiet
import Derived.Lib.SlBytesConst
import Derived.Deep.RegionLaw
import Derived.Deep.LoopGhost
import Derived.ChangeKeysEq
namespace Go.Proofs.Ytmmdojnjognccaa
open Go.RowKit

/-! ### Frames -/

/-- From w to w' no old block outside S has changed; the streams are as they were. -/
structure Kp (S : Nat → Prop) (w w' : World) : Prop where
  os : w'.os = w.os
  tape : w'.tape = w.tape
  output : w'.output = w.output
  size : w.heap.size ≤ w'.heap.size
  block : ∀ k, k < w.heap.size → ¬ S k → w'.heap[k]? = w.heap[k]?

def Noone : Nat → Prop := fun _ => False

theorem Kp.refl (S : Nat → Prop) (w : World) : Kp S w w := ⟨rfl, rfl, rfl, Nat.le_refl _, fun _ _ _ => rfl⟩
theorem Kp.mono {S T : Nat → Prop} {w w' : World} (h : Kp S w w') (hs : ∀ k, k < w.heap.size → S k → T k) : Kp T w w' :=
  ⟨h.os, h.tape, h.output, h.size, fun k hk hn => h.block k hk (fun c => hn (hs k hk c))⟩
/-- Two steps: the second one may also touch what is newer than the first world. -/
theorem Kp.trans' {S T : Nat → Prop} {a b c : World} (h : Kp S a b) (k : Kp T b c) (ht : ∀ k, k < a.heap.size → T k → S k) : Kp S a c :=
  ⟨k.os.trans h.os, k.tape.trans h.tape, k.output.trans h.output, Nat.le_trans h.size k.size,
   fun i hi hn => (k.block i (Nat.lt_of_lt_of_le hi h.size) (fun c => hn (ht i hi c))).trans (h.block i hi hn)⟩
theorem Kp.trans {S : Nat → Prop} {a b c : World} (h : Kp S a b) (k : Kp S b c) : Kp S a c := h.trans' k (fun _ _ h => h)
theorem Kp.none {S : Nat → Prop} {w w' : World} (h : Kp Noone w w') : Kp S w w' := h.mono (fun _ _ c => c.elim)
theorem Kp.below {w w' : World} (h : Kp Noone w w') : Below w.heap.size w w' :=
  ⟨h.os, h.tape, h.output, h.size, fun k hk => h.block k hk id⟩
theorem Kp.ofBelow {w w' : World} (h : Below w.heap.size w w') : Kp Noone w w' :=
  ⟨h.os, h.tape, h.output, h.size, fun k hk _ => h.block k hk⟩
theorem Kp.alloc {S : Nat → Prop} {a w : World} (h : Kp S a w) (o : Obj) : Kp S a (w.alloc o) :=
  h.trans ⟨rfl, rfl, rfl, by simp, fun k hk _ => Below.heap_alloc _ _ _ hk⟩
theorem Kp.drew {S : Nat → Prop} {a w : World} (h : Kp S a w) : Kp S a w.drew := ⟨h.os, h.tape, h.output, h.size, h.block⟩
theorem Kp.drewN {S : Nat → Prop} {a w : World} (h : Kp S a w) (n : Nat) : Kp S a (w.drewN n) := ⟨h.os, h.tape, h.output, h.size, h.block⟩
theorem Kp.setCell {S : Nat → Prop} {a w : World} (h : Kp S a w) {p : Addr} (hp : p.block < a.heap.size → S p.block) (u : Value) : Kp S a (w.setCell p u) :=
  ⟨h.os, h.tape, h.output, by simp only [World.setCell, Array.size_modify]; exact h.size, fun k hk hn => by
    rw [Below.heap_setCell _ _ _ _ (fun e => hn (by subst e; exact hp hk))]
    exact h.block k hk hn⟩
theorem Kp.cell {S : Nat → Prop} {w w' : World} (h : Kp S w w') {p : Addr} {v : Value} (hc : w.cell? p = some v) (hp : ¬ S p.block) : w'.cell? p = some v :=
  (World.cell?_of_block (h.block p.block (World.block_lt_of_cell? w p hc) hp)).trans hc
theorem Kp.frozen {S : Nat → Prop} {w w' : World} (h : Kp S w w') {p : Addr} (hl : p.block < w.heap.size) (hp : ¬ S p.block) : w'.frozen? p = w.frozen? p :=
  World.frozen?_of_block (h.block p.block hl hp)
theorem Kp.heap {S : Nat → Prop} {w w' : World} (h : Kp S w w') {k : Nat} {o : Obj} (hc : w.heap[k]? = some o) (hp : ¬ S k) : w'.heap[k]? = some o :=
  (h.block k (Array.getElem?_eq_some_iff.1 hc).1 hp).trans hc

/-! ### Rows of cells -/

/-- The address leads to these cells (nothing is said of the address where there are none). -/
def Row (w : World) (ao : Option Addr) (xs : List Value) : Prop :=
  xs = [] ∨ ∃ b off, ao = some ⟨b, off, none⟩ ∧ ∀ i (h : i < xs.length), w.cell? ⟨b, off + i, none⟩ = some xs[i]

/-- All cells of the row lie in blocks that S does not hold. -/
def Off (S : Nat → Prop) (ao : Option Addr) : Prop := ∀ a, ao = some a → ¬ S a.block

theorem Off.none' (ao : Option Addr) : Off Noone ao := fun _ _ c => c.elim

theorem Row.nil (w : World) (ao : Option Addr) : Row w ao [] := Or.inl rfl
theorem Row.kp {S : Nat → Prop} {w w' : World} {ao : Option Addr} {xs : List Value} (h : Row w ao xs) (k : Kp S w w') (ho : Off S ao) : Row w' ao xs := by
  rcases h with h | ⟨b, off, rfl, h⟩
  · exact Or.inl h
  · exact Or.inr ⟨b, off, rfl, fun i hi => k.cell (h i hi) (by exact ho ⟨b, off, none⟩ rfl)⟩
theorem Row.keep {w w' : World} {ao : Option Addr} {xs : List Value} (h : Row w ao xs) (k : Kp Noone w w') : Row w' ao xs := h.kp k (Off.none' _)

theorem Row.lt {w : World} {ao : Option Addr} {xs : List Value} (h : Row w ao xs) (hx : xs ≠ []) : ∃ a, ao = some a ∧ a.block < w.heap.size := by
  rcases h with h | ⟨b, off, rfl, h⟩
  · exact (hx h).elim
  · have hl : 0 < xs.length := List.length_pos_iff.2 hx
    exact ⟨_, rfl, World.block_lt_of_cell? w _ (h 0 hl)⟩

theorem Row.sub {w : World} {ao : Option Addr} {xs : List Value} (h : Row w ao xs) (lo : Nat) (cap : Nat) (hc : xs.length ≤ cap) (ys : List Value) (hy : ys <+: xs.drop lo) :
    Row w (if cap = lo then ao else ao.map (·.add lo)) ys := by
  by_cases hys : ys = []
  · exact Or.inl hys
  · have hlen : ys.length ≤ xs.length - lo := by have := hy.length_le; simpa using this
    have hpos : 0 < ys.length := List.length_pos_iff.2 hys
    rw [if_neg (by omega)]
    rcases h with h | ⟨b, off, rfl, h⟩
    · subst h; simp at hlen; exact (hys hlen).elim
    · refine Or.inr ⟨b, off + lo, by simp [Addr.add_lit], fun i hi => ?_⟩
      rw [Nat.add_assoc, h (lo + i) (by omega)]
      have h1 : ys[i]? = (xs.drop lo)[i]? := by
        obtain ⟨t, ht⟩ := hy
        rw [← ht, List.getElem?_append_left hi]
      rw [List.getElem?_drop, List.getElem?_eq_getElem (show lo + i < xs.length by omega), List.getElem?_eq_getElem hi] at h1
      rw [Option.some.inj h1]

def U8 (b : UInt8) : Value := .int .u8 (b.toNat : Int)
def bv (l : List UInt8) : List Value := l.map U8

/-- A byte slice that came in, or that nothing is known of but what it holds. -/
structure BS (w : World) (ao : Option Addr) (n cap : Nat) (l : List UInt8) : Prop where
  len : l.length = n
  le : n ≤ cap
  max : cap ≤ maxLen
  row : Row w ao (bv l)

theorem length_bv (l : List UInt8) : (bv l).length = l.length := by simp [bv]
theorem BS.kp {S : Nat → Prop} {w w' : World} {ao : Option Addr} {n cap : Nat} {l : List UInt8} (h : BS w ao n cap l) (k : Kp S w w') (ho : Off S ao) : BS w' ao n cap l :=
  ⟨h.len, h.le, h.max, h.row.kp k ho⟩
theorem BS.keep {w w' : World} {ao : Option Addr} {n cap : Nat} {l : List UInt8} (h : BS w ao n cap l) (k : Kp Noone w w') : BS w' ao n cap l := h.kp k (Off.none' _)

/-- The two shapes in which a walk wants a byte slice. -/
theorem BS.parts {w : World} {ao : Option Addr} {n cap : Nat} {l : List UInt8} (h : BS w ao n cap l) :
    (n ≤ 0 ∧ l = []) ∨ ∃ b off, ao = some ⟨b, off, none⟩ ∧ ∀ i (hi : i < l.length), w.cell? ⟨b, off + i, none⟩ = some (.int .u8 (l[i].toNat : Int)) := by
  rcases h.row with hr | ⟨b, off, rfl, hr⟩
  · left
    have h1 := h.len
    have h2 : l = [] := by simpa [bv] using hr
    subst h2
    exact ⟨by simp at h1; omega, rfl⟩
  · right
    refine ⟨b, off, rfl, fun i hi => ?_⟩
    rw [hr i (by simpa [bv] using hi)]
    simp [bv, U8]

/-- Where there is a k-th byte there is an address, and the cell. -/
theorem BS.at {w : World} {ao : Option Addr} {n cap : Nat} {l : List UInt8} (h : BS w ao n cap l) {k : Nat} (hk : k < n) :
    ∃ b off, ∃ hl : k < l.length, ao = some ⟨b, off, none⟩ ∧ b < w.heap.size ∧ w.cell? ⟨b, off + k, none⟩ = some (.int .u8 (l[k].toNat : Int)) := by
  have hl : k < l.length := by rw [h.len]; exact hk
  rcases h.parts with ⟨h0, _⟩ | ⟨b, off, rfl, hr⟩
  · omega
  · exact ⟨b, off, hl, rfl, World.block_lt_of_cell? w _ (hr k hl), hr k hl⟩

/-- A slice of byte slices. -/
structure BSS (w : World) (ao : Option Addr) (n cap : Nat) (ls : List (List UInt8)) : Prop where
  len : ls.length = n
  le : n ≤ cap
  max : cap ≤ maxLen
  row : ∃ hs : List (Option Addr × Nat × Nat), hs.length = n ∧ Row w ao (hs.map fun h => .slice h.1 h.2.1 h.2.2) ∧
    ∀ i (h1 : i < hs.length) (h2 : i < ls.length), BS w hs[i].1 hs[i].2.1 hs[i].2.2 ls[i]

theorem BSS.at {w : World} {ao : Option Addr} {n cap : Nat} {ls : List (List UInt8)} (h : BSS w ao n cap ls) {k : Nat} (hk : k < n) :
    ∃ b off bo m c, ∃ hl : k < ls.length, ao = some ⟨b, off, none⟩ ∧ b < w.heap.size ∧ w.cell? ⟨b, off + k, none⟩ = some (.slice bo m c) ∧ BS w bo m c ls[k] := by
  obtain ⟨h1, _, _, hs, hn, hr, hb⟩ := h
  have hl : k < ls.length := by omega
  have hk' : k < hs.length := by omega
  rcases hr with hr | ⟨b, off, rfl, hr⟩
  · have := congrArg List.length hr
    simp at this
    subst this
    simp at hk'
  · have hc := hr k (by simpa using hk')
    rw [List.getElem_map] at hc
    exact ⟨b, off, _, _, _, hl, rfl, World.block_lt_of_cell? w _ hc, hc, hb k hk' hl⟩
theorem BSS.keep {w w' : World} {ao : Option Addr} {n cap : Nat} {ls : List (List UInt8)} (h : BSS w ao n cap ls) (k : Kp Noone w w') : BSS w' ao n cap ls := by
  obtain ⟨h1, h2, h3, hs, hn, hr, hb⟩ := h
  exact ⟨h1, h2, h3, hs, hn, hr.keep k, fun i a b => (hb i a b).keep k⟩

theorem BSS.one {w : World} {g : Nat} {bo : Option Addr} {m c : Nat} {l : List UInt8} (hc : w.cell? ⟨g, 0, none⟩ = some (.slice bo m c)) (hb : BS w bo m c l) : BSS w (some ⟨g, 0, none⟩) 1 1 [l] := by
  refine ⟨rfl, Nat.le_refl _, by simp [maxLen], [(bo, m, c)], rfl, Or.inr ⟨g, 0, rfl, fun i hi => ?_⟩, fun i h1 h2 => ?_⟩
  · simp at hi; subst hi; simpa using hc
  · simp at h1; subst h1; simpa using hb

/-- A new row of bytes, whole. -/
theorem BS.ofHeap {w : World} {g e n : Nat} {l : List UInt8} {fr : Nat × Nat} (hh : w.heap[g]? = some (.cells (bv l).toArray e fr)) (hn : l.length = n) (hm : n ≤ maxLen) : BS w (some ⟨g, 0, none⟩) n n l :=
  ⟨hn, Nat.le_refl _, hm, Or.inr ⟨g, 0, rfl, fun i hi => by rw [cell_of_row w g _ _ e fr hh]; simp [hi]⟩⟩

theorem u8_beq (x y : UInt8) : ((x.toNat : Int) == (y.toNat : Int)) = (x == y) := by
  rw [Bool.eq_iff_iff, beq_iff_eq, beq_iff_eq]
  exact ⟨fun h => UInt8.toNat_inj.1 (Int.ofNat.inj h), fun h => by rw [h]⟩

/-- Two arrays of bytes, held against each other. -/
theorem run_eqItems_bytes {P : Program} {W : World} (d e : Nat) (he : P.underlying e = some (.int .u8)) (l r : List UInt8) : ∀ is : List Nat, (∀ i ∈ is, i < l.length ∧ i < r.length) →
    (Op.eqItems (d + 1) e 1 (bv l).toArray (bv r).toArray is).run P W = .ok (is.all fun i => l[i]? == r[i]?) W
  | [], _ => by simp [Op.eqItems]
  | i :: is, h => by
    have h1 := (h i (by simp)).1
    have h2 := (h i (by simp)).2
    have ih := run_eqItems_bytes (W := W) d e he l r is (fun j hj => h j (by simp [hj]))
    have q : ∀ (l : List UInt8) (h : i < l.length), (part e (bv l).toArray (i * 1)).run P W = .ok (.int .u8 (l[i].toNat : Int)) W := by
      intro l hl
      simp [part, bv, hl, U8, isAgg, run_underlying he]
    simp only [Op.eqItems, Sem.run_bind, q l h1, q r h2, run_equalIn_int W d e .u8 .u8 _ _ he, Result.andThen_ok, u8_beq]
    by_cases hxy : l[i] = r[i]
    · rw [hxy]
      simp [ih, hxy, h1, h2]
    · simp [hxy, h1, h2]

end Go.Proofs.Ytmmdojnjognccaa
