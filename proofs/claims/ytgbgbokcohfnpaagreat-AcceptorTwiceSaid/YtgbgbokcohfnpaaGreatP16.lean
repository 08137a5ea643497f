/-
  The texts WalRefAD, WalRefEF, WalRefG, WalRefHI, WalRefKL, WalRunsPK, FloatInt, Gauss in one: what the claim reaches of them.
-/
import Derived.Test.YtgbgbokcohfnpaaGreatP07
import Derived.Test.YtgbgbokcohfnpaaGreatP06
import Derived.Test.YtgbgbokcohfnpaaGreatP15
import Derived.Test.YtgbgbokcohfnpaaGreatP04
import Derived.OwnWalk
import Derived.Test.YtgbgbokcohfnpaaGreatP14
import Derived.Test.YtgbgbokcohfnpaaGreatP05
import Derived.Test.YtgbgbokcohfnpaaGreatP02
import Derived.Laws.FloatArith
import Derived.Laws.ComplexArith
import Derived.Laws.Cover3
import Derived.WalkKit
import Derived.Test.YtgbgbokcohfnpaaGreatP01
import Derived.Test.YtgbgbokcohfnpaaGreatProg
/-
  WalRefA, WalRefB, WalRefC, WalRefD in one text.
-/
/-
  THE WALKS of the document's log: Name, Frame, Header.
-/
namespace Go.Proofs.YtgbgbokcohfnpaaGreat
open Go.RowKit

end Go.Proofs.YtgbgbokcohfnpaaGreat

/-
  Slices of records and of pieces of the document's log: where they lie, how they grow; THE WALKS of its Bytes and number.
-/
namespace Go.Proofs.YtgbgbokcohfnpaaGreat
open Go.RowKit

theorem Ext.tint {B i : Nat} {col : Nat → Nat} {w w' : World} (hc : Cols B w col) (hB : B ≤ w.heap.size) (k : Kp (Col col i) w w') : Ext B (fun c => c = i) col w (paint col w w' i) w' := by
  refine ⟨hc.paint hB k.size i, fun j hj => ?_, fun j hj hn => ?_, k.mono (fun j _ c => c)⟩
  · unfold Proofs.YtgbgbokcohfnpaaGreat.paint
    rw [if_neg (by omega)]
  · unfold Proofs.YtgbgbokcohfnpaaGreat.paint at hn ⊢
    by_cases h : w.heap.size ≤ j ∧ j < w'.heap.size
    · rw [if_pos h]
    · rw [if_neg h] at hn
      have := hc j hn
      omega
abbrev Sls9 := List (Option Addr × Nat × Nat)
def hdrs9 (hs : Sls9) : List Value := hs.map fun h => .slice h.1 h.2.1 h.2.2
theorem hdrs9_snoc (hs : Sls9) (x : Option Addr × Nat × Nat) : hdrs9 (hs ++ [x]) = hdrs9 hs ++ [.slice x.1 x.2.1 x.2.2] := by simp [hdrs9]
/-- A slice of texts in blocks of one kind. -/
structure RRec (P : Nat → Prop) (w : World) (ao : Option Addr) (n cap : Nat) (recs : List (List UInt8)) : Prop where
  len : recs.length = n
  le : n ≤ cap
  max : cap ≤ maxLen
  get : ∀ i (h : i < recs.length), ∃ b off bo m c, ao = some ⟨b, off, none⟩ ∧ b < w.heap.size ∧ P b ∧ w.cell? ⟨b, off + i, none⟩ = some (.slice bo m c) ∧ DataP P w bo m c recs[i]
theorem RRec.kp {P S : Nat → Prop} {w w' : World} {ao : Option Addr} {n cap : Nat} {recs : List (List UInt8)} (h : RRec P w ao n cap recs) (k : Kp S w w') (hd : ∀ j, j < w.heap.size → P j → ¬ S j) : RRec P w' ao n cap recs := by
  refine ⟨h.len, h.le, h.max, fun i hi => ?_⟩
  obtain ⟨b, off, bo, m, c, h1, h2, h3, h4, h5⟩ := h.get i hi
  exact ⟨b, off, bo, m, c, h1, Nat.lt_of_lt_of_le h2 k.size, h3, k.cell h4 (hd _ h2 h3), h5.kp k hd⟩
theorem RRec.keep {P : Nat → Prop} {w w' : World} {ao : Option Addr} {n cap : Nat} {recs : List (List UInt8)} (h : RRec P w ao n cap recs) (k : Kp Noone w w') : RRec P w' ao n cap recs := h.kp k (fun _ _ _ c => c)
theorem RRec.mono {P Q : Nat → Prop} {w : World} {ao : Option Addr} {n cap : Nat} {recs : List (List UInt8)} (h : RRec P w ao n cap recs) (hq : ∀ j, j < w.heap.size → P j → Q j) : RRec Q w ao n cap recs := by
  refine ⟨h.len, h.le, h.max, fun i hi => ?_⟩
  obtain ⟨b, off, bo, m, c, h1, h2, h3, h4, h5⟩ := h.get i hi
  exact ⟨b, off, bo, m, c, h1, h2, hq _ h2 h3, h4, h5.mono hq⟩
theorem RRec.nil (P : Nat → Prop) (w : World) (ao : Option Addr) : RRec P w ao 0 0 [] := ⟨rfl, Nat.le_refl _, by simp [maxLen], fun i h => by simp at h⟩
/-- Without the first. -/
theorem RRec.tail {P : Nat → Prop} {w : World} {g off n cap : Nat} {recs : List (List UInt8)} (h : RRec P w (some ⟨g, off, none⟩) n cap recs) (hn : 1 ≤ n) : RRec P w (some ⟨g, off + 1, none⟩) (n - 1) (cap - 1) recs.tail := by
  refine ⟨by rw [List.length_tail, h.len], by have := h.le; omega, by have := h.max; omega, fun i hi => ?_⟩
  rw [List.length_tail] at hi
  obtain ⟨b, o2, bo, m, c, h1, h2, h3, h4, h5⟩ := h.get (i + 1) (by omega)
  cases h1
  refine ⟨g, off + 1, bo, m, c, rfl, h2, h3, by rw [show off + 1 + i = off + (i + 1) by omega]; exact h4, ?_⟩
  rw [List.getElem_tail]
  exact h5
/-- A slice of pieces in blocks of one kind. -/
structure RPs (P : Nat → Prop) (w : World) (ao : Option Addr) (n cap : Nat) (ps : List PcS) : Prop where
  len : ps.length = n
  le : n ≤ cap
  max : cap ≤ maxLen
  get : ∀ i (h : i < ps.length), ∃ b off ro rc, ao = some ⟨b, off, none⟩ ∧ b < w.heap.size ∧ P b ∧ w.cell? ⟨b, off + i * 3, none⟩ = some (.int .i64 (ps[i].num : Int)) ∧ w.cell? ⟨b, off + i * 3 + 1, none⟩ = some (.int .i64 (ps[i].first : Int)) ∧
    w.cell? ⟨b, off + i * 3 + 2, none⟩ = some (.slice ro ps[i].recs.length rc) ∧ RRec P w ro ps[i].recs.length rc ps[i].recs
theorem RPs.kp {P S : Nat → Prop} {w w' : World} {ao : Option Addr} {n cap : Nat} {ps : List PcS} (h : RPs P w ao n cap ps) (k : Kp S w w') (hd : ∀ j, j < w.heap.size → P j → ¬ S j) : RPs P w' ao n cap ps := by
  refine ⟨h.len, h.le, h.max, fun i hi => ?_⟩
  obtain ⟨b, off, ro, rc, h1, h2, h3, h4, h5, h6, h7⟩ := h.get i hi
  exact ⟨b, off, ro, rc, h1, Nat.lt_of_lt_of_le h2 k.size, h3, k.cell h4 (hd _ h2 h3), k.cell h5 (hd _ h2 h3), k.cell h6 (hd _ h2 h3), h7.kp k hd⟩
theorem RPs.keep {P : Nat → Prop} {w w' : World} {ao : Option Addr} {n cap : Nat} {ps : List PcS} (h : RPs P w ao n cap ps) (k : Kp Noone w w') : RPs P w' ao n cap ps := h.kp k (fun _ _ _ c => c)
theorem RPs.mono {P Q : Nat → Prop} {w : World} {ao : Option Addr} {n cap : Nat} {ps : List PcS} (h : RPs P w ao n cap ps) (hq : ∀ j, j < w.heap.size → P j → Q j) : RPs Q w ao n cap ps := by
  refine ⟨h.len, h.le, h.max, fun i hi => ?_⟩
  obtain ⟨b, off, ro, rc, h1, h2, h3, h4, h5, h6, h7⟩ := h.get i hi
  exact ⟨b, off, ro, rc, h1, h2, hq _ h2 h3, h4, h5, h6, h7.mono hq⟩
theorem RPs.nil (P : Nat → Prop) (w : World) (ao : Option Addr) : RPs P w ao 0 0 [] := ⟨rfl, Nat.le_refl _, by simp [maxLen], fun i h => by simp at h⟩

/-! ### Growing lists: the list's own blocks have colour c, what it holds lies in blocks of colour 0 -/
theorem DataP.col {P : Nat → Prop} {B : Nat} {S : Nat → Prop} {col col' : Nat → Nat} {w w' : World} {ao : Option Addr} {n cap : Nat} {l : List UInt8} (h : DataP (fun j => col j = 0 ∧ P j) w ao n cap l) (e : Ext B S col w col' w') (h0 : ¬ S 0) : DataP (fun j => col' j = 0 ∧ P j) w' ao n cap l :=
  ((h.mono (Q := fun j => (col j = 0 ∧ P j) ∧ j < w.heap.size) (fun j hj c => ⟨c, hj⟩)).kp e.kp (fun j _ c a => by rw [c.1.1] at a; exact h0 a)).mono (fun j _ c => ⟨(e.old j c.2).trans c.1.1, c.1.2⟩)
theorem RRec.col {P : Nat → Prop} {B : Nat} {S : Nat → Prop} {col col' : Nat → Nat} {w w' : World} {ao : Option Addr} {n cap : Nat} {l : List (List UInt8)} (h : RRec (fun j => col j = 0 ∧ P j) w ao n cap l) (e : Ext B S col w col' w') (h0 : ¬ S 0) : RRec (fun j => col' j = 0 ∧ P j) w' ao n cap l :=
  ((h.mono (Q := fun j => (col j = 0 ∧ P j) ∧ j < w.heap.size) (fun j hj c => ⟨c, hj⟩)).kp e.kp (fun j _ c a => by rw [c.1.1] at a; exact h0 a)).mono (fun j _ c => ⟨(e.old j c.2).trans c.1.1, c.1.2⟩)
theorem Own.colE {B c e sz : Nat} {S : Nat → Prop} {col col' : Nat → Nat} {w w' : World} {ao : Option Addr} {n cap : Nat} {xs : List Value} (h : Own (Col col c) w e sz ao n cap xs) (x : Ext B S col w col' w') (h1 : ¬ S c) : Own (Col col' c) w' e sz ao n cap xs :=
  ((h.mono (G := fun j => Col col c j ∧ j < w.heap.size) (fun j hj d => ⟨d, hj⟩)).kp x.kp (fun j d a => by have d1 : col j = c := d.1; rw [d1] at a; exact h1 a)).mono (fun j _ d => (x.old j d.2).trans d.1)
structure RecP (P : Nat → Prop) (c : Nat) (col : Nat → Nat) (w : World) (ao : Option Addr) (cap : Nat) (hs : Sls9) (recs : List (List UInt8)) : Prop where
  own : Own (Col col c) w 44 1 ao recs.length cap (hdrs9 hs)
  len : hs.length = recs.length
  get : ∀ i (h1 : i < hs.length) (h2 : i < recs.length), DataP (fun j => col j = 0 ∧ P j) w hs[i].1 hs[i].2.1 hs[i].2.2 recs[i]
theorem RecP.ext {P : Nat → Prop} {B c : Nat} {S : Nat → Prop} {col col' : Nat → Nat} {w w' : World} {ao : Option Addr} {cap : Nat} {hs : Sls9} {recs : List (List UInt8)} (h : RecP P c col w ao cap hs recs) (e : Ext B S col w col' w') (h0 : ¬ S 0) (h1 : ¬ S c) : RecP P c col' w' ao cap hs recs :=
  ⟨h.own.colE e h1, h.len, fun i a b => (h.get i a b).col e h0⟩
theorem RecP.keep {P : Nat → Prop} {c : Nat} {col : Nat → Nat} {w w' : World} {ao : Option Addr} {cap : Nat} {hs : Sls9} {recs : List (List UInt8)} (h : RecP P c col w ao cap hs recs) (k : Kp Noone w w') : RecP P c col w' ao cap hs recs :=
  ⟨h.own.keep k, h.len, fun i a b => (h.get i a b).keep k⟩
theorem RecP.nil (P : Nat → Prop) (c : Nat) (col : Nat → Nat) (w : World) (ao : Option Addr) : RecP P c col w ao 0 [] [] := ⟨Own.nil _ _ _ _ _, rfl, fun i h => by simp at h⟩
theorem RecP.push {P : Nat → Prop} {B c : Nat} {col : Nat → Nat} {wB w6 : World} {ao : Option Addr} {cap : Nat} {hs : Sls9} {recs : List (List UInt8)} (h : RecP P c col wB ao cap hs recs) (hc : Cols B wB col) (hB : B ≤ wB.heap.size) (hc0 : c ≠ 0) (k6 : Kp (Col col c) wB w6) {bo : Option Addr} {m bc : Nat} {d : List UInt8} {ao' : Option Addr} {cap' : Nat}
    (ho : Own (Ex (Col col c) wB w6) w6 44 1 ao' (recs.length + 1) cap' (hdrs9 hs ++ [.slice bo m bc])) (hd : DataP (fun j => col j = 0 ∧ P j) wB bo m bc d) : RecP P c (paint col wB w6 c) w6 ao' cap' (hs ++ [(bo, m, bc)]) (recs ++ [d]) := by
  have xp := Ext.tint (B := B) hc hB k6
  refine ⟨?_, by rw [List.length_append, List.length_append, h.len]; rfl, fun j h1 h2 => ?_⟩
  · rw [hdrs9_snoc, List.length_append]
    exact ho.painted
  · by_cases hj : j < hs.length
    · have hj2 : j < recs.length := by have := h.len; omega
      have e1 : (hs ++ [(bo, m, bc)])[j] = hs[j] := List.getElem_append_left hj
      have e2 : (recs ++ [d])[j] = recs[j] := List.getElem_append_left hj2
      rw [e1, e2]
      exact (h.get j hj hj2).col xp (by omega)
    · have hl := h.len
      have hj1 : j = hs.length := by rw [List.length_append] at h1; simp at h1; omega
      have e1 : (hs ++ [(bo, m, bc)])[j] = (bo, m, bc) := by subst hj1; simp
      have e2 : (recs ++ [d])[j] = d := by
        have : j = recs.length := by omega
        subst this
        simp
      rw [e1, e2]
      exact hd.col xp (by omega)
abbrev Phs := List (Option Addr × Nat)
def pcsV : List PcS → Phs → List Value
  | p :: r, h :: t => .int .i64 (p.num : Int) :: .int .i64 (p.first : Int) :: .slice h.1 p.recs.length h.2 :: pcsV r t
  | _, _ => []
theorem pcsV_snoc : ∀ (ps : List PcS) (hs : Phs) (p : PcS) (h : Option Addr × Nat), ps.length = hs.length → pcsV (ps ++ [p]) (hs ++ [h]) = pcsV ps hs ++ [.int .i64 (p.num : Int), .int .i64 (p.first : Int), .slice h.1 p.recs.length h.2]
  | [], [], p, h, _ => rfl
  | a :: r, b :: t, p, h, e => by
    have := pcsV_snoc r t p h (by simpa using e)
    simp only [List.cons_append, pcsV, this]
  | [], _ :: _, _, _, e => by simp at e
  | _ :: _, [], _, _, e => by simp at e
theorem pcsV_length : ∀ (ps : List PcS) (hs : Phs), ps.length = hs.length → (pcsV ps hs).length = ps.length * 3
  | [], [], _ => rfl
  | a :: r, b :: t, e => by
    have := pcsV_length r t (by simpa using e)
    simp only [pcsV, List.length_cons, this]
    omega
  | [], _ :: _, e => by simp at e
  | _ :: _, [], e => by simp at e
theorem pcsV_get : ∀ (ps : List PcS) (hs : Phs) (i : Nat) (h : i < ps.length) (h2 : i < hs.length), (pcsV ps hs)[i * 3]? = some (.int .i64 (ps[i].num : Int)) ∧ (pcsV ps hs)[i * 3 + 1]? = some (.int .i64 (ps[i].first : Int)) ∧ (pcsV ps hs)[i * 3 + 2]? = some (.slice hs[i].1 ps[i].recs.length hs[i].2)
  | a :: r, b :: t, 0, _, _ => ⟨rfl, rfl, rfl⟩
  | a :: r, b :: t, i + 1, h, h2 => by
    have := pcsV_get r t i (by simpa using h) (by simpa using h2)
    have e : (i + 1) * 3 = i * 3 + 3 := by omega
    rw [e]
    exact this
  | [], _, _, h, _ => by simp at h
  | _ :: _, [], _, _, h => by simp at h
structure PcsP (P : Nat → Prop) (c : Nat) (col : Nat → Nat) (w : World) (ao : Option Addr) (cap : Nat) (hs : Phs) (ps : List PcS) : Prop where
  own : Own (Col col c) w 159 3 ao ps.length cap (pcsV ps hs)
  len : ps.length = hs.length
  get : ∀ i (h1 : i < hs.length) (h2 : i < ps.length), RRec (fun j => col j = 0 ∧ P j) w hs[i].1 ps[i].recs.length hs[i].2 ps[i].recs
theorem PcsP.ext {P : Nat → Prop} {B c : Nat} {S : Nat → Prop} {col col' : Nat → Nat} {w w' : World} {ao : Option Addr} {cap : Nat} {hs : Phs} {ps : List PcS} (h : PcsP P c col w ao cap hs ps) (e : Ext B S col w col' w') (h0 : ¬ S 0) (h1 : ¬ S c) : PcsP P c col' w' ao cap hs ps :=
  ⟨h.own.colE e h1, h.len, fun i a b => (h.get i a b).col e h0⟩
theorem PcsP.keep {P : Nat → Prop} {c : Nat} {col : Nat → Nat} {w w' : World} {ao : Option Addr} {cap : Nat} {hs : Phs} {ps : List PcS} (h : PcsP P c col w ao cap hs ps) (k : Kp Noone w w') : PcsP P c col w' ao cap hs ps :=
  ⟨h.own.keep k, h.len, fun i a b => (h.get i a b).keep k⟩
theorem PcsP.nil (P : Nat → Prop) (c : Nat) (col : Nat → Nat) (w : World) (ao : Option Addr) : PcsP P c col w ao 0 [] [] := ⟨Own.nil _ _ _ _ _, rfl, fun i h => by simp at h⟩
theorem PcsP.push {P : Nat → Prop} {B c : Nat} {col : Nat → Nat} {wB w6 : World} {ao : Option Addr} {cap : Nat} {hs : Phs} {ps : List PcS} (h : PcsP P c col wB ao cap hs ps) (hc : Cols B wB col) (hB : B ≤ wB.heap.size) (hc0 : c ≠ 0) (k6 : Kp (Col col c) wB w6) {ro : Option Addr} {rc : Nat} {p : PcS} {ao' : Option Addr} {cap' : Nat}
    (ho : Own (Ex (Col col c) wB w6) w6 159 3 ao' (ps.length + 1) cap' (pcsV ps hs ++ [.int .i64 (p.num : Int), .int .i64 (p.first : Int), .slice ro p.recs.length rc])) (hd : RRec (fun j => col j = 0 ∧ P j) wB ro p.recs.length rc p.recs) : PcsP P c (paint col wB w6 c) w6 ao' cap' (hs ++ [(ro, rc)]) (ps ++ [p]) := by
  have xp := Ext.tint (B := B) hc hB k6
  refine ⟨?_, by rw [List.length_append, List.length_append, h.len]; rfl, fun j h1 h2 => ?_⟩
  · rw [pcsV_snoc ps hs p (ro, rc) h.len, List.length_append]
    exact ho.painted
  · by_cases hj : j < hs.length
    · have hj2 : j < ps.length := by have := h.len; omega
      have e1 : (hs ++ [(ro, rc)])[j] = hs[j] := List.getElem_append_left hj
      have e2 : (ps ++ [p])[j] = ps[j] := List.getElem_append_left hj2
      rw [e1, e2]
      exact (h.get j hj hj2).col xp (by omega)
    · have hl := h.len
      have hj1 : j = hs.length := by rw [List.length_append] at h1; simp at h1; omega
      have e1 : (hs ++ [(ro, rc)])[j] = (ro, rc) := by subst hj1; simp
      have e2 : (ps ++ [p])[j] = p := by
        have : j = ps.length := by omega
        subst this
        simp
      rw [e1, e2]
      exact hd.col xp (by omega)
end Go.Proofs.YtgbgbokcohfnpaaGreat

/-
  THE WALKS of the document's log: Bytes, number.
-/
namespace Go.Proofs.YtgbgbokcohfnpaaGreat
open Go.RowKit

theorem RRec.at {P : Nat → Prop} {w : World} {ao : Option Addr} {n cap : Nat} {recs : List (List UInt8)} (h : RRec P w ao n cap recs) {j : Nat} (hj : j < n) : ∃ g off xo xm xc, ∃ hl : j < recs.length, ao = some ⟨g, off, none⟩ ∧ w.cell? ⟨g, off + j, none⟩ = some (.slice xo xm xc) ∧ DataP P w xo xm xc recs[j] := by
  have hl := h.len
  have hj2 : j < recs.length := by omega
  obtain ⟨b, off, bo, m, c, h1, -, -, h4, h5⟩ := h.get j hj2
  exact ⟨b, off, bo, m, c, hj2, h1, h4, h5⟩
/-! ### number -/
end Go.Proofs.YtgbgbokcohfnpaaGreat

/-
  THE WALK of the document's frames.
-/
namespace Go.Proofs.YtgbgbokcohfnpaaGreat
open Go.RowKit

end Go.Proofs.YtgbgbokcohfnpaaGreat

/-
  WalRefE, WalRefF in one text.
-/
/-
  THE WALK of the document's Found.
-/
namespace Go.Proofs.YtgbgbokcohfnpaaGreat
open Go.RowKit

structure FBdR (j : Nat) (g : FndR) : Prop where
  ps : g.ps.length ≤ j
  strays : g.strays.length ≤ j
  next : g.next ≤ 1099515822080
  good : g.good ≤ 4194304
theorem fnd1_bd {j : Nat} {g : FndR} (h : FBdR j g) (k : ByteArray) (b : List UInt8) (hb : b.length ≤ 4194304) : FBdR (j + 1) (fnd1 g k b) := by
  have hh := headOf_le (splitL b) (numberN k)
  have h1 := split_len b
  have h2 := split_count b
  have i1 := h.ps
  have i2 := h.strays
  unfold fnd1
  split
  · exact ⟨by omega, by omega, h.next, h.good⟩
  · split
    · exact ⟨by show g.ps.length ≤ _; omega, by simp only [List.length_append, List.length_cons, List.length_nil]; omega, h.next, h.good⟩
    · refine ⟨by simp only [List.length_append, List.length_cons, List.length_nil]; omega, by show g.strays.length ≤ _; omega, ?_, ?_⟩
      · simp only [List.length_tail]
        omega
      · simp only []
        omega
end Go.Proofs.YtgbgbokcohfnpaaGreat

/-
  THE WALKS of the document's log: step, begin; the log's eight cells.
-/
namespace Go.Proofs.YtgbgbokcohfnpaaGreat
open Go.RowKit

theorem three_new (w : World) (A B C : Obj) : (((w.alloc A).alloc B).alloc C).heap[w.heap.size]? = some A ∧ (((w.alloc A).alloc B).alloc C).heap[w.heap.size + 1]? = some B ∧ (((w.alloc A).alloc B).alloc C).heap[w.heap.size + 1 + 1]? = some C ∧ Kp Noone w (((w.alloc A).alloc B).alloc C) ∧ (((w.alloc A).alloc B).alloc C).heap.size = w.heap.size + 3 := by
  have e1 := alloc_size w A
  have e2 := alloc_size (w.alloc A) B
  have e3 := alloc_size ((w.alloc A).alloc B) C
  have h1 := (((Kp.refl Noone (w.alloc A)).alloc B).alloc C).heap (heap_alloc_new w A) id
  have h2 := ((Kp.refl Noone ((w.alloc A).alloc B)).alloc C).heap (heap_alloc_new (w.alloc A) B) id
  have h3 := heap_alloc_new ((w.alloc A).alloc B) C
  rw [e1] at h2 e2
  rw [e2] at h3 e3
  exact ⟨h1, h2, h3, (((Kp.refl _ _).alloc _).alloc _).alloc _, e3⟩
attribute [local irreducible] doE
end Go.Proofs.YtgbgbokcohfnpaaGreat

/-
  THE WALK of the document's log: begin.
-/
namespace Go.Proofs.YtgbgbokcohfnpaaGreat
open Go.RowKit Go.Deep

/-- The cells of a slice of pieces. -/
theorem RPs.row {P : Nat → Prop} {w : World} {ao : Option Addr} {n cap : Nat} {ps : List PcS} (h : RPs P w ao n cap ps) : ∃ hs : Phs, ps.length = hs.length ∧ Row w ao (pcsV ps hs) ∧ ∀ i (h1 : i < hs.length) (h2 : i < ps.length), RRec P w hs[i].1 ps[i].recs.length hs[i].2 ps[i].recs := by
  have each : ∀ i, i < ps.length → ∃ y : Option Addr × Nat, (∀ (hi : i < ps.length), ∃ b off, ao = some ⟨b, off, none⟩ ∧ w.cell? ⟨b, off + i * 3, none⟩ = some (.int .i64 (ps[i].num : Int)) ∧ w.cell? ⟨b, off + i * 3 + 1, none⟩ = some (.int .i64 (ps[i].first : Int)) ∧ w.cell? ⟨b, off + i * 3 + 2, none⟩ = some (.slice y.1 ps[i].recs.length y.2) ∧ RRec P w y.1 ps[i].recs.length y.2 ps[i].recs) := by
    intro i hi
    obtain ⟨b, off, ro, rc, h1, -, -, h4, h5, h6, h7⟩ := h.get i hi
    exact ⟨(ro, rc), fun _ => ⟨b, off, h1, h4, h5, h6, h7⟩⟩
  obtain ⟨f, hf⟩ := choose_lt each
  have hl : ps.length = ((List.range ps.length).map f).length := by simp
  refine ⟨(List.range ps.length).map f, hl, ?_, fun i h1 h2 => ?_⟩
  · by_cases h0 : ps.length = 0
    · left
      rw [List.eq_nil_of_length_eq_zero h0]
      rfl
    · obtain ⟨b, off, rfl, -⟩ := hf 0 (by omega) (by omega)
      refine Or.inr ⟨b, off, rfl, fun i hi => ?_⟩
      have hpl := pcsV_length ps _ hl
      have hi3 : i / 3 < ps.length := by omega
      obtain ⟨b', off', he, c0, c1, c2, -⟩ := hf (i / 3) hi3 hi3
      cases he
      have hg := pcsV_get ps ((List.range ps.length).map f) (i / 3) hi3 (by rw [← hl]; exact hi3)
      have hcs : i = i / 3 * 3 ∨ i = i / 3 * 3 + 1 ∨ i = i / 3 * 3 + 2 := by omega
      simp only [List.getElem_map, List.getElem_range] at hg
      have hq : ∀ (j : Nat) (v : Value) (hj : i = j), (pcsV ps ((List.range ps.length).map f))[j]? = some v → (pcsV ps ((List.range ps.length).map f))[i] = v := fun j v hj hv => by
        subst hj
        rw [List.getElem?_eq_getElem hi] at hv
        exact Option.some.inj hv
      rcases hcs with e | e | e
      · rw [hq _ _ e hg.1]
        conv => lhs; rw [e]
        exact c0
      · rw [hq _ _ e hg.2.1]
        conv => lhs; rw [e]
        exact c1
      · rw [hq _ _ e hg.2.2]
        conv => lhs; rw [e]
        exact c2
  · obtain ⟨b, off, -, -, -, -, hr⟩ := hf i h2 h2
    simp only [List.getElem_map, List.getElem_range]
    exact hr
theorem two_new (w : World) (A B : Obj) : ((w.alloc A).alloc B).heap[w.heap.size]? = some A ∧ ((w.alloc A).alloc B).heap[w.heap.size + 1]? = some B ∧ Kp Noone w ((w.alloc A).alloc B) ∧ ((w.alloc A).alloc B).heap.size = w.heap.size + 2 := by
  have e1 := alloc_size w A
  have e2 := alloc_size (w.alloc A) B
  have h1 := ((Kp.refl Noone (w.alloc A)).alloc B).heap (heap_alloc_new w A) id
  have h2 := heap_alloc_new (w.alloc A) B
  rw [e1] at h2 e2
  exact ⟨h1, h2, ((Kp.refl _ _).alloc _).alloc _, e2⟩
attribute [local irreducible] doE stepR walName headerL
end Go.Proofs.YtgbgbokcohfnpaaGreat

/-
  WalRefH, WalRefI in one text.
-/
/-
  THE WALKS of the document's log: Tail, Next, Recs.
-/
namespace Go.Proofs.YtgbgbokcohfnpaaGreat
open Go.RowKit

end Go.Proofs.YtgbgbokcohfnpaaGreat

/-
  THE WALK of the document's log: Sync.
-/
namespace Go.Proofs.YtgbgbokcohfnpaaGreat
open Go.RowKit

theorem tailP_mem {ps : List PcS} (h : ps ≠ []) : tailP ps ∈ ps := by
  unfold tailP
  rw [List.getLastD_eq_getLast?, List.getLast?_eq_some_getLast h]
  exact List.getLast_mem h
attribute [local irreducible] doE stepR walName headerL
end Go.Proofs.YtgbgbokcohfnpaaGreat

/-
  WalRefK, WalRefL in one text.
-/
/-
  THE WALK of the document's log: Recs.
-/
namespace Go.Proofs.YtgbgbokcohfnpaaGreat
open Go.RowKit

/-- A slice of records in blocks of one kind. -/
def RSP (P : Nat → Prop) (w : World) (ro : Option Addr) (rc : Nat) (recs : Recs) : Prop := ∃ rh, Own P w 76 2 ro recs.length rc (recsV rh) ∧ RecsAt P w rh recs
end Go.Proofs.YtgbgbokcohfnpaaGreat

/-
  What the document finds: bounds; THE WALK of the document's log: Open.
-/
namespace Go.Proofs.YtgbgbokcohfnpaaGreat
open Go.RowKit

structure FOkR (g : FndR) : Prop where
  ps : ∀ p ∈ g.ps, p.num ≤ 999999 ∧ p.first ≤ 1099511627776 ∧ p.recs.length ≤ 4194304 ∧ (pieceD p).length ≤ 4194304
  strays : ∀ x ∈ g.strays, x ≤ 999999
theorem fnd1_ok {g : FndR} (h : FOkR g) (k : ByteArray) (b : List UInt8) (hb : b.length ≤ 4194304) : FOkR (fnd1 g k b) := by
  have hn := numberN_le k
  have hh := headOf_le (splitL b) (numberN k)
  have h1 := split_len b
  have h2 := split_count b
  unfold fnd1
  split
  · exact h
  · split
    · refine ⟨h.ps, fun x hx => ?_⟩
      rcases List.mem_append.1 hx with hx | hx
      · exact h.strays x hx
      · rw [List.mem_singleton.1 hx]; exact hn
    · rename_i hs
      refine ⟨fun p hp => ?_, h.strays⟩
      rcases List.mem_append.1 hp with hp | hp
      · exact h.ps p hp
      · rw [List.mem_singleton.1 hp]
        have hz : (headOf (splitL b) (numberN k)).2 = true := by
          cases hx : (headOf (splitL b) (numberN k)).2 with
          | true => rfl
          | false => exact absurd (Or.inr (Or.inl hx)) hs
        obtain ⟨d, r, e⟩ : ∃ d r, splitL b = d :: r := by
          cases hx : splitL b with
          | nil => rw [hx] at hz; cases hz
          | cons d r => exact ⟨d, r, rfl⟩
        refine ⟨hn, hh, by simp only [List.length_tail]; omega, ?_⟩
        rw [pieceD_frames]
        rw [e] at hz h1 ⊢
        have hf := begins_form hz
        simp only [List.tail_cons]
        have e2 : numL (numberN k) ++ numL (headOf (d :: r) (numberN k)).1 = d := hf.symm
        rw [e2]
        omega
theorem fold_ok : ∀ (L : Dat) (g : FndR) (j : Nat), FOkR g → FBdR j g → (∀ x ∈ L, x.2.length ≤ 4194304) → FOkR (L.foldl (fun g x => fnd1 g x.1 x.2) g) ∧ FBdR (j + L.length) (L.foldl (fun g x => fnd1 g x.1 x.2) g)
  | [], _, _, h, hb, _ => ⟨h, hb⟩
  | x :: r, g, j, h, hb, hx => by
    have h1 := fold_ok r (fnd1 g x.1 x.2) (j + 1) (fnd1_ok h x.1 x.2 (hx x (List.mem_cons_self ..))) (fnd1_bd hb x.1 x.2 (hx x (List.mem_cons_self ..))) (fun y hy => hx y (List.mem_cons_of_mem _ hy))
    rw [List.length_cons, show j + (r.length + 1) = j + 1 + r.length by omega]
    exact h1
theorem foundR_ok {L : Img} (hL : L.length ≤ 64) (hD : ∀ x ∈ L, x.2.data.length ≤ 4194304) : FOkR (foundR (datL L)) ∧ FBdR 64 (foundR (datL L)) := by
  have h := fold_ok (datL L) fnd0 0 ⟨fun p hp => (by cases hp), fun p hp => (by cases hp)⟩ ⟨by simp [fnd0], by simp [fnd0], by simp [fnd0], by simp [fnd0]⟩ (fun x hx => by
    obtain ⟨y, hy, rfl⟩ := List.mem_map.1 hx
    exact hD y hy)
  have hl : (datL L).length = L.length := by simp [datL]
  have h2 := h.2
  rw [hl] at h2
  exact ⟨h.1, ⟨by have := h2.ps; exact Nat.le_trans this (by omega), by have := h2.strays; exact Nat.le_trans this (by omega), h2.next, h2.good⟩⟩
theorem RSP.nil (P : Nat → Prop) (w : World) : RSP P w none 0 [] := ⟨[], Own.nil _ _ _ _ _, RecsAt.nil _ _⟩

end Go.Proofs.YtgbgbokcohfnpaaGreat

/-
  WalSmall2, ReadOpW, WalRunsP, WalRunsK in one text.
-/
/-
  A small disk stays small; the steps of an Append: what WalRuns needs of the plain laws.
-/
namespace Go.Proofs.YtgbgbokcohfnpaaGreat
open Go.RowKit

theorem SmallD.crashUp (ns : List ByteArray) (keep : List Int) {s : DS} (h : SmallD s) : ∀ j, SmallD (crashUp ns keep s j)
  | 0 => h
  | j + 1 => (SmallD.crashUp ns keep h j).crash1 _ _
theorem SmallD.crash {s : DS} (h : SmallD s) (keep : List Int) : SmallD (crashF s keep) := h.crashUp (namesF s) keep _
theorem SmallD.trimLoop (idx : Int) : ∀ (q : List (Nat × Nat)) {s : DS} (l : LogP), SmallD s → SmallD (trimLoop idx q s l).1
  | [], _, _, h => h
  | [_], _, _, h => h
  | a :: b :: r, s, l, h => by
    rw [trimLoop_cons]
    split
    · split
      · exact h.drop _
      · exact SmallD.trimLoop idx (b :: r) _ (h.drop _)
    · exact h
theorem SmallD.trimL {s : DS} (h : SmallD s) (l : LogP) (idx : Int) : SmallD (trimLF s l idx).1 := by
  unfold trimLF
  split
  · exact h
  · exact SmallD.trimLoop idx l.pieces l h
theorem appendLF_steps (s : DS) (l : LogP) (d : List UInt8) : (appendLF s l d).1.steps ≤ s.steps + 6 := by
  have ht : ∀ (s : DS) (l : LogP), (appTail s l d).1.steps ≤ s.steps + 1 := fun s l => by
    have h := appendF_steps s (walName (lastP l).1) (frameL d)
    unfold appTail
    split
    · exact h
    · exact h
  unfold appendLF
  split
  · show s.steps ≤ _; omega
  · split
    · show s.steps ≤ _; omega
    · split
      · split
        · show s.steps ≤ _; omega
        · have h1 := syncF_steps s (walName (lastP l).1)
          generalize syncF s (walName (lastP l).1) = t at *
          unfold rollF
          split
          · show t.1.steps ≤ _; omega
          · have h2 := beginF_steps t.1 l ((lastP l).1 + 1) l.next
            generalize beginF t.1 l ((lastP l).1 + 1) l.next = r at *
            unfold roll2
            split
            · show r.1.steps ≤ _; omega
            · have := ht r.1 r.2.1; omega
      · have := ht s l; omega

end Go.Proofs.YtgbgbokcohfnpaaGreat

/-
  HOW A SCRIPT OF synodlaw09.Op READS, with its bulk (printed by readop.py).
-/
namespace Go.Proofs.YtgbgbokcohfnpaaGreat
open Go.ChangeShapes Go.WideShapes Go.ChangeAt Go.RowKit Go.Deep

theorem trod_opW {H : Type} {enc : TypeId × Value → H} {P : Program} {w : World} {base : Nat} {spare : Nat → Bool} {held : Bool} {t : TypeId} {f0 f1 f2 f3 : Field} {fuel : Nat} {cs : List Value} {x : DataW H × List MemPlace} (ht : P.underlying t = some (.struct #[f0, f1, f2, f3])) (h : DataW.trod enc P w base spare held fuel t cs = some x) :
    ∃ y0 y1 y2 y3 n, x = (.agg [y0.1, y1.1, y2.1, y3.1], y0.2 ++ (y1.2 ++ (y2.2 ++ (y3.2)))) ∧ cs.length = P.cellsOf t ∧ DataW.trod enc P w base spare held n f0.type ((cs.drop f0.offset).take (P.cellsOf f0.type)) = some y0 ∧ DataW.trod enc P w base spare held n f1.type ((cs.drop f1.offset).take (P.cellsOf f1.type)) = some y1 ∧ DataW.trod enc P w base spare held n f2.type ((cs.drop f2.offset).take (P.cellsOf f2.type)) = some y2 ∧ DataW.trod enc P w base spare held n f3.type ((cs.drop f3.offset).take (P.cellsOf f3.type)) = some y3 := by
  obtain ⟨xs, n, _, rfl, hl, hlen, hf⟩ := DataW.trod_struct ht h
  match xs, hlen with
  | [y0, y1, y2, y3], _ => exact ⟨y0, y1, y2, y3, n, by simp, hl, by simpa using hf 0 f0 rfl, by simpa using hf 1 f1 rfl, by simpa using hf 2 f2 rfl, by simpa using hf 3 f3 rfl⟩

structure OpW where
  k : Int
  b : List UInt8
  n : Int
  keep : List Int
instance : Inhabited OpW := ⟨⟨0, [], 0, []⟩⟩
/-- What holds of a step read from memory. -/
structure OpWOk (o : OpW) (M : Nat) : Prop where
  k : -9223372036854775808 ≤ o.k ∧ o.k ≤ 9223372036854775807
  b : o.b.length + 1 ≤ M
  n : -9223372036854775808 ≤ o.n ∧ o.n ≤ 9223372036854775807
  keep : o.keep.length + 1 ≤ M
theorem OpWOk.mono {o : OpW} {M N : Nat} (h : OpWOk o M) (hn : M ≤ N) : OpWOk o N := ⟨h.k, by have := h.b; omega, h.n, by have := h.keep; omega⟩
/-- A script of steps. -/
structure OpWS (W : World) (ao : Option Addr) (n cap : Nat) (ps : List OpW) (M : Nat) : Prop where
  len : ps.length = n
  le : n ≤ cap
  max : cap ≤ maxLen
  get : ∀ i (h : i < ps.length), OpWOk ps[i] M ∧ ∃ b off o1 m1 c1 o3 m3 c3, ao = some ⟨b, off, none⟩ ∧ b < W.heap.size ∧ W.cell? ⟨b, off + i * 4, none⟩ = some (.int .i64 ps[i].k) ∧ W.cell? ⟨b, off + i * 4 + 1, none⟩ = some (.slice o1 m1 c1) ∧ W.cell? ⟨b, off + i * 4 + 2, none⟩ = some (.int .i64 ps[i].n) ∧ W.cell? ⟨b, off + i * 4 + 3, none⟩ = some (.slice o3 m3 c3) ∧ BS W o1 m1 c1 ps[i].b ∧ IS W o3 m3 c3 ps[i].keep
theorem OpWS.mono {W : World} {ao : Option Addr} {n cap : Nat} {ps : List OpW} {M N : Nat} (h : OpWS W ao n cap ps M) (hn : M ≤ N) : OpWS W ao n cap ps N := ⟨h.len, h.le, h.max, fun i hi => ⟨(h.get i hi).1.mono hn, (h.get i hi).2⟩⟩

end Go.Proofs.YtgbgbokcohfnpaaGreat

/-
  Bounds of the document's log that are kept from call to call.
-/
namespace Go.Proofs.YtgbgbokcohfnpaaGreat
open Go.RowKit

theorem stepR_ps (m : RLog) (o : OpD) : (stepR m o).1.ps = m.ps ∧ (stepR m o).1.lim = m.lim := ⟨rfl, rfl⟩
/-- A log behind i calls. -/
structure RB (i : Nat) (m : RLog) : Prop where
  ne : m.ps ≠ []
  lim : m.lim ≤ 65536
  len : m.ps.length ≤ 64 + i
  ps : ∀ p ∈ m.ps, p.num ≤ 999999 ∧ p.first + p.recs.length ≤ 1099515900000 + i ∧ (pieceD p).length ≤ 4194304 + 9000 * i
theorem RB.mono {i j : Nat} {m : RLog} (h : RB i m) (hij : i ≤ j) : RB j m :=
  ⟨h.ne, h.lim, by have := h.len; omega, fun p hp => by have := h.ps p hp; omega⟩
theorem RB.same {i : Nat} {m m' : RLog} (h : RB i m) (e1 : m'.ps = m.ps) (e2 : m'.lim = m.lim) : RB i m' :=
  ⟨by rw [e1]; exact h.ne, by rw [e2]; exact h.lim, by rw [e1]; exact h.len, fun p hp => h.ps p (by rw [← e1]; exact hp)⟩
theorem RB.step {i : Nat} {m : RLog} (h : RB i m) (o : OpD) : RB i (stepR m o).1 := h.same (stepR_ps m o).1 (stepR_ps m o).2
theorem RB.next {i : Nat} {m : RLog} (h : RB i m) (hi : i ≤ 100) : nextP9 m.ps ≤ 1099515900100 := by
  have := h.ps _ (tailP_mem h.ne)
  unfold nextP9
  omega
theorem RB.size {i : Nat} {m : RLog} (h : RB i m) (hi : i ≤ 100) : (pieceD (tailP m.ps)).length ≤ 5194304 := by
  have := h.ps _ (tailP_mem h.ne)
  omega
theorem begR_cases (m : RLog) (a b : Nat) : (begR m a b).1.lim = m.lim ∧ ((begR m a b).1.ps = m.ps ∨ (begR m a b).1.ps = m.ps ++ [⟨a, b, []⟩]) := by
  unfold begR
  split
  · exact ⟨rfl, Or.inl rfl⟩
  · unfold begR2
    split
    · exact ⟨rfl, Or.inl rfl⟩
    · split
      · exact ⟨rfl, Or.inl rfl⟩
      · exact ⟨rfl, Or.inr rfl⟩
theorem tailR_cases (m : RLog) (d : List UInt8) : (tailR m d).1.lim = m.lim ∧ ((tailR m d).1.ps = m.ps ∨ (tailR m d).1.ps = moreP m.ps d) := by
  unfold tailR
  split
  · exact ⟨rfl, Or.inl rfl⟩
  · exact ⟨rfl, Or.inr rfl⟩
theorem pieceD_snoc (a b : Nat) (recs : List (List UInt8)) (d : List UInt8) : (pieceD ⟨a, b, recs ++ [d]⟩).length = (pieceD ⟨a, b, recs⟩).length + (frameL d).length := by
  rw [pieceD_frames, pieceD_frames]
  simp only []
  rw [← List.cons_append, frames_append, List.length_append]
  congr 1
  rw [frames_cons, frames_nil, List.append_nil]
theorem pieceD_new (a b : Nat) : (pieceD ⟨a, b, []⟩).length ≤ 35 := by
  have h := headerL_len a b
  unfold pieceD
  rw [frames_nil, List.append_nil]
  exact h
/-- One piece more, with no record yet. -/
theorem new_rb {i : Nat} {m m' : RLog} (h : RB i m) {a b : Nat} (ha : a ≤ 999999) (hb : b ≤ 1099515900000 + i) (e1 : m'.ps = m.ps ++ [⟨a, b, []⟩]) (e2 : m'.lim = m.lim) : m'.ps ≠ [] ∧ m'.lim ≤ 65536 ∧ m'.ps.length ≤ 65 + i ∧ ∀ p ∈ m'.ps, p.num ≤ 999999 ∧ p.first + p.recs.length ≤ 1099515900000 + i ∧ (pieceD p).length ≤ 4194304 + 9000 * i := by
  refine ⟨by rw [e1]; simp, by rw [e2]; exact h.lim, by rw [e1, List.length_append]; have := h.len; simp only [List.length_cons, List.length_nil]; omega, fun p hp => ?_⟩
  rw [e1] at hp
  rcases List.mem_append.1 hp with hp | hp
  · exact h.ps p hp
  · rw [List.mem_singleton.1 hp]
    have := pieceD_new a b
    simp only [List.length_nil]
    omega
/-- One record more, in the last piece. -/
theorem more_rb {i : Nat} {m m' : RLog} (h0 : m.ps ≠ []) (h1 : m.lim ≤ 65536) (h2 : m.ps.length ≤ 65 + i) (h3 : ∀ p ∈ m.ps, p.num ≤ 999999 ∧ p.first + p.recs.length ≤ 1099515900000 + i ∧ (pieceD p).length ≤ 4194304 + 9000 * i) {d : List UInt8} (hd : d.length ≤ 8192) (e1 : m'.ps = m.ps ∨ m'.ps = moreP m.ps d) (e2 : m'.lim = m.lim) : RB (i + 1) m' := by
  rcases e1 with e1 | e1
  · exact ⟨by rw [e1]; exact h0, by rw [e2]; exact h1, by rw [e1]; omega, fun p hp => by rw [e1] at hp; have := h3 p hp; omega⟩
  · have hl : (moreP m.ps d).length = m.ps.length := by
      conv => rhs; rw [snoc_tail h0]
      unfold moreP
      rw [List.length_append, List.length_append]
      rfl
    refine ⟨fun c => ?_, by rw [e2]; exact h1, by rw [e1, hl]; omega, fun p hp => ?_⟩
    · rw [e1] at c
      rw [c] at hl
      exact h0 (List.eq_nil_of_length_eq_zero hl.symm)
    · rw [e1] at hp
      unfold moreP at hp
      rcases List.mem_append.1 hp with hp | hp
      · have := h3 p (List.dropLast_subset _ hp)
        omega
      · rw [List.mem_singleton.1 hp, pieceD_snoc]
        have h4 := h3 _ (tailP_mem h0)
        have h5 := frameL_le d
        simp only [List.length_append, List.length_cons, List.length_nil]
        refine ⟨h4.1, by omega, ?_⟩
        have h6 : (pieceD ⟨(tailP m.ps).num, (tailP m.ps).first, (tailP m.ps).recs⟩).length = (pieceD (tailP m.ps)).length := rfl
        omega
theorem RB.append {i : Nat} {m : RLog} (h : RB i m) (d : List UInt8) : RB (i + 1) (appendR m d).1 := by
  have hT := h.ps _ (tailP_mem h.ne)
  have hl := h.len
  unfold appendR
  split
  · exact (h.same (m' := shutR m) rfl rfl).mono (by omega)
  · split
    · exact h.mono (by omega)
    · rename_i hd
      split
      · split
        · exact h.mono (by omega)
        · have h1 := h.step (oSync (walName (tailP m.ps).num))
          have e1 := (stepR_ps m (oSync (walName (tailP m.ps).num))).1
          generalize stepR m (oSync (walName (tailP m.ps).num)) = r at *
          unfold rollR
          split
          · exact h1.mono (by omega)
          · have hc := begR_cases r.1 ((tailP r.1.ps).num + 1) (nextP9 r.1.ps)
            have hnx : nextP9 r.1.ps ≤ 1099515900000 + i := by rw [e1]; unfold nextP9; omega
            have hnm : (tailP r.1.ps).num + 1 ≤ 999999 := by rw [e1]; omega
            have hl1 := h1.len
            generalize begR r.1 ((tailP r.1.ps).num + 1) (nextP9 r.1.ps) = x at *
            obtain ⟨c1, c2⟩ := hc
            obtain ⟨k0, k1, k2, k3⟩ : x.1.ps ≠ [] ∧ x.1.lim ≤ 65536 ∧ x.1.ps.length ≤ 65 + i ∧ ∀ p ∈ x.1.ps, p.num ≤ 999999 ∧ p.first + p.recs.length ≤ 1099515900000 + i ∧ (pieceD p).length ≤ 4194304 + 9000 * i := by
              rcases c2 with c2 | c2
              · have h2 := h1.same (m' := x.1) c2 c1
                exact ⟨h2.ne, h2.lim, by have := h2.len; omega, h2.ps⟩
              · exact new_rb h1 hnm hnx c2 c1
            unfold rollR2
            split
            · exact more_rb (d := d) k0 k1 k2 k3 (by omega) (Or.inl rfl) rfl
            · have h4 := tailR_cases x.1 d
              exact more_rb k0 k1 k2 k3 (by omega) h4.2 h4.1
      · have h4 := tailR_cases m d
        exact more_rb h.ne h.lim (by omega) h.ps (by omega) h4.2 h4.1
theorem RB.sync {i : Nat} {m : RLog} (h : RB i m) : RB (i + 1) (syncR m).1 := by
  unfold syncR
  split
  · exact (h.same (m' := shutR m) rfl rfl).mono (by omega)
  · exact (h.step _).mono (by omega)
theorem trimRL_sub (idx : Int) : ∀ (ps : List PcS) (m : RLog), m.ps = ps → (trimRL idx ps m).1.lim = m.lim ∧ (trimRL idx ps m).1.ps.length ≤ ps.length ∧ ∀ p ∈ (trimRL idx ps m).1.ps, p ∈ ps
  | [], m, e => ⟨rfl, by show m.ps.length ≤ _; rw [e]; exact Nat.le_refl _, fun p hp => by rw [← e]; exact hp⟩
  | [a], m, e => ⟨rfl, by show m.ps.length ≤ _; rw [e]; exact Nat.le_refl _, fun p hp => by rw [← e]; exact hp⟩
  | a :: b :: r, m, e => by
    unfold trimRL
    split
    · split
      · exact ⟨rfl, by show m.ps.length ≤ _; rw [e]; exact Nat.le_refl _, fun p hp => by rw [← e]; exact hp⟩
      · have h := trimRL_sub idx (b :: r) ⟨(stepR m (oDrop (walName a.num))).1.d, m.lim, b :: r, (stepR m (oDrop (walName a.num))).1.shut⟩ rfl
        exact ⟨h.1, by have := h.2.1; simp only [List.length_cons] at this ⊢; omega, fun p hp => List.mem_cons_of_mem _ (h.2.2 p hp)⟩
    · exact ⟨rfl, by show m.ps.length ≤ _; rw [e]; exact Nat.le_refl _, fun p hp => by rw [← e]; exact hp⟩
theorem RB.trim {i : Nat} {m : RLog} (h : RB i m) (idx : Int) (h0 : (trimR m idx).1.ps ≠ []) : RB (i + 1) (trimR m idx).1 := by
  unfold trimR at h0 ⊢
  split
  · exact (h.same (m' := shutR m) rfl rfl).mono (by omega)
  · rename_i hc
    rw [if_neg hc] at h0
    obtain ⟨h1, h2, h3⟩ := trimRL_sub idx m.ps m rfl
    exact ⟨h0, by rw [h1]; exact h.lim, by have := h.len; omega, fun p hp => by have := h.ps p (h3 p hp); omega⟩
theorem strayR_ps : ∀ (N : List Nat) (m : RLog), (strayR N m).1.ps = m.ps ∧ (strayR N m).1.lim = m.lim
  | [], m => ⟨rfl, rfl⟩
  | n :: r, m => by
    unfold strayR
    split
    · exact ⟨rfl, rfl⟩
    · exact strayR_ps r (stepR m (oDrop (walName n))).1
theorem RB.open {m : RD} (hL : m.L.length ≤ 64) (hD : ∀ x ∈ m.L, x.2.data.length ≤ 4194304) (n : Int) (h0 : (openR m n).2.2 = 0) : RB 0 (openR m n).1 := by
  obtain ⟨hok, hbd⟩ := foundR_ok hL hD
  unfold openR at h0 ⊢
  split
  · rename_i hc
    rw [if_pos hc] at h0
    cases h0
  · rename_i hc
    rw [if_neg hc] at h0
    generalize foundR (datL m.L) = g at *
    obtain ⟨e1, e2⟩ := strayR_ps g.strays.reverse ⟨m, limF n, [], false⟩
    generalize strayR g.strays.reverse ⟨m, limF n, [], false⟩ = r at *
    have hlim : r.1.lim ≤ 65536 := by rw [e2]; exact limF_le n
    unfold openDropR at h0 ⊢
    split
    · rename_i c
      rw [if_pos c] at h0
      exact absurd h0 c
    · rename_i c
      rw [if_neg c] at h0
      split
      · rename_i c2
        rw [if_pos c2] at h0
        have hz := begR_zero h0
        obtain ⟨c3, c4⟩ := begR_cases r.1 1 1
        generalize begR r.1 1 1 = x at *
        simp only [] at e1
        rw [e1] at c4
        rcases c4 with c4 | c4
        · exact absurd c4 hz
        · refine ⟨hz, by show x.1.lim ≤ _; rw [c3]; exact hlim, by show x.1.ps.length ≤ _; rw [c4]; simp, fun p hp => ?_⟩
          have hp2 : p ∈ x.1.ps := hp
          rw [c4] at hp2
          rw [List.mem_singleton.1 hp2]
          have := pieceD_new 1 1
          simp only [List.length_nil]
          omega
      · rename_i c2
        rw [if_neg c2] at h0
        have key : ∀ y : RLog, y.ps = g.ps → y.lim = r.1.lim → RB 0 y := fun y a1 a2 =>
          ⟨by rw [a1]; exact c2, by rw [a2]; exact hlim, by rw [a1]; have := hbd.ps; omega, fun p hp => by
            rw [a1] at hp
            have := hok.ps p hp
            omega⟩
        unfold openCutR at h0 ⊢
        split
        · exact key _ rfl rfl
        · unfold openSyncR
          split
          · exact key _ rfl rfl
          · exact key _ rfl rfl

end Go.Proofs.YtgbgbokcohfnpaaGreat

/-
  What the law's own open and call keep, in plain Lean.
-/
namespace Go.Proofs.YtgbgbokcohfnpaaGreat
open Go.RowKit

theorem Lg.free {c i : Nat} {col : Nat → Nat} {w w' : World} {p q : Nat} {s : DS} {l : LogP} {F : Nat → Prop} (h : Lg c i col w p q s l) (k : Kp F w w') (hci : c ≠ 0) (hF : ∀ j, F j → col j = 0) : Lg c i col w' p q s l := by
  obtain ⟨hd, po, pc, hl⟩ := h
  refine ⟨hd.free k hF, po, pc, k.heap hl.box (fun a => by have := hF _ a; have := hl.qc; omega), hl.qc, hl.pieces.kp k (fun j d a => by have d1 : col j = c + 1 := d; have := hF _ a; omega)⟩
theorem trimLoop_steps (idx : Int) : ∀ (q : List (Nat × Nat)) (s : DS) (l : LogP), (trimLoop idx q s l).1.steps ≤ s.steps + q.length
  | [], s, _ => by show s.steps ≤ _; simp
  | [_], s, _ => by show s.steps ≤ _; simp only [List.length_cons, List.length_nil]; omega
  | a :: b :: r, s, l => by
    have h1 := dropF_steps s (walName a.1)
    rw [trimLoop_cons]
    split
    · split
      · show (dropF s (walName a.1)).1.steps ≤ _
        simp only [List.length_cons]
        omega
      · refine Int.le_trans (trimLoop_steps idx (b :: r) _ _) ?_
        simp only [List.length_cons]
        omega
    · show s.steps ≤ _
      simp only [List.length_cons]
      omega
theorem trimLF_steps (s : DS) (l : LogP) (idx : Int) : (trimLF s l idx).1.steps ≤ s.steps + l.pieces.length := by
  unfold trimLF
  split
  · show s.steps ≤ _; omega
  · exact trimLoop_steps idx l.pieces s l
theorem syncLF_steps (s : DS) (l : LogP) : (syncLF s l).1.steps ≤ s.steps + 1 := by
  unfold syncLF
  split
  · show s.steps ≤ _; omega
  · exact syncF_steps s _
/-- Both sides behind an Open. -/
theorem open_kept {m : RD} {s : DS} (hs : Sim m s) (hd : DOk s) (hsm : SmallD s) (hst : s.steps < 4611686018420000000) (n : Int) : OpenSim (openR m n) (openF s n) ∧ SmallD (openF s n).1 ∧ (openF s n).1.steps ≤ s.steps + 70 ∧ ((openR m n).2.2 = 0 → RB 0 (openR m n).1) :=
  ⟨open_sim hs hd hst (fun k => hsm.read k) n, hsm.open n, openF_steps hd hsm n, fun h0 => RB.open (by rw [hs.a.len]; exact hd.len) (fun x hx => hsm x (hs.a.perm.subset hx)) n h0⟩

end Go.Proofs.YtgbgbokcohfnpaaGreat

/-
  PLAIN LAWS, NO PROGRAM: whole numbers below 2^53 as floats of 64 bits: sums, differences, products, comparisons, cuts are exact.
-/
namespace Go.Proofs.YtgbgbokcohfnpaaGreat
open Ieee

/-- The word x stands for the whole number n: its datum. -/
def IsDat (d : Datum) (n : Int) : Prop :=
  ∃ (s : Bool) (e m : Nat), d = .number s m (-(e : Int)) ∧ m = n.natAbs * 2 ^ e ∧ (n < 0 → s = true) ∧ (0 < n → s = false)
def IsInt (x : Nat) (n : Int) : Prop := IsDat (double.read x) n

/-! ### The operations -/

/-! ### Words of 64 bits -/

/-- The word x is a float that stands for the whole number n. -/
structure FI (x : Nat) (n : Int) : Prop where
  lt : x < 18446744073709551616
  dat : IsInt x n

/-! ### Complex numbers of whole parts -/
end Go.Proofs.YtgbgbokcohfnpaaGreat

/-
  THE WALKS of package gauss at numbers of whole parts.
-/
namespace Go.Proofs.YtgbgbokcohfnpaaGreat
open Go.RowKit

/-- Within the bounds. -/
def rB (re im : Int) : Bool := decide (-1048576 ≤ re ∧ re ≤ 1048576 ∧ -1048576 ≤ im ∧ im ≤ 1048576)
/-- What a call that reckons answers. -/
def ofT (ok : Bool) (re im : Int) : Value := if ok && rB re im then .tuple #[.complex .f64 (floatOfInt .f64 re) (floatOfInt .f64 im), .bool true] else .tuple #[.complex .f64 0 0, .bool false]
theorem ofT_in {re im : Int} (h : rB re im = true) : ofT true re im = .tuple #[.complex .f64 (floatOfInt .f64 re) (floatOfInt .f64 im), .bool true] := by unfold ofT; rw [h]; rfl
theorem ofT_out {ok : Bool} {re im : Int} (h : rB re im = false) : ofT ok re im = .tuple #[.complex .f64 0 0, .bool false] := by unfold ofT; rw [h]; cases ok <;> rfl
theorem rB_in {re im : Int} (h1 : -1048576 ≤ re ∧ re ≤ 1048576) (h2 : -1048576 ≤ im ∧ im ≤ 1048576) : rB re im = true := by simp [rB]; omega
theorem rB_out {re im : Int} (h : ¬(-1048576 ≤ re ∧ re ≤ 1048576) ∨ ¬(-1048576 ≤ im ∧ im ≤ 1048576)) : rB re im = false := by simp [rB]; omega

set_option maxHeartbeats 1000000 in
theorem of_any (re im : Int) (w : World) : Calls Tryz.prog 174 #[.int .i64 re, .int .i64 im] w fun e w' => e = .returned (ofT true re im) ∧ w = w' := by
  go_enter Tryz.func174, Tryz.ntmps174
  by_cases c1 : -1048576 ≤ re
  · by_cases c2 : re ≤ 1048576
    · by_cases c3 : -1048576 ≤ im
      · by_cases c4 : im ≤ 1048576
        · go_wp2_with fail
          go_ret2
          exact ⟨ret_eq (ofT_in (rB_in ⟨c1, c2⟩ ⟨c3, c4⟩)).symm, rfl⟩
        · go_wp2_with fail
          go_ret2
          exact ⟨ret_eq (ofT_out (rB_out (by omega))).symm, rfl⟩
      · go_wp2_with fail
        go_ret2
        exact ⟨ret_eq (ofT_out (rB_out (by omega))).symm, rfl⟩
    · go_wp2_with fail
      go_ret2
      exact ⟨ret_eq (ofT_out (rB_out (by omega))).symm, rfl⟩
  · go_wp2_with fail
    go_ret2
    exact ⟨ret_eq (ofT_out (rB_out (by omega))).symm, rfl⟩

theorem rB_bound {n m : Int} (h : rB n m = true) : (-1048576 ≤ n ∧ n ≤ 1048576) ∧ (-1048576 ≤ m ∧ m ≤ 1048576) := by simp [rB] at h; omega

end Go.Proofs.YtgbgbokcohfnpaaGreat
