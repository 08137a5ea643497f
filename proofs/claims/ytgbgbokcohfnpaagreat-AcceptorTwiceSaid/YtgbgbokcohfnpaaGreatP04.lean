/-
  The texts RefDiskA, RefMount, RefDiskB, RefDo in one: what the claim reaches of them.
-/
import Derived.Test.YtgbgbokcohfnpaaGreatP03
import Derived.Laws.ResultCell
import Derived.Deep.MidRow
import Derived.BigQuiet
import Derived.Deep.CutRange
import Derived.Test.YtgbgbokcohfnpaaGreatP02
/-
  RefAt, RefWalk, RefWith, RefCopy in one text.
-/
/-
  SLICES OF AREAS of the document's disk: where they lie, how one grows.
-/
namespace Go.Proofs.YtgbgbokcohfnpaaGreat
open Go.RowKit

/-- Bytes in blocks of one kind. -/
def DataP (P : Nat → Prop) (w : World) (ao : Option Addr) (n cap : Nat) (l : List UInt8) : Prop := BS w ao n cap l ∧ (l ≠ [] → ∀ a, ao = some a → P a.block ∧ a.block < w.heap.size)
theorem DataP.kp {P S : Nat → Prop} {w w' : World} {ao : Option Addr} {n cap : Nat} {l : List UInt8} (h : DataP P w ao n cap l) (k : Kp S w w') (hd : ∀ j, j < w.heap.size → P j → ¬ S j) : DataP P w' ao n cap l := by
  refine ⟨?_, fun hx a ha => ⟨(h.2 hx a ha).1, Nat.lt_of_lt_of_le (h.2 hx a ha).2 k.size⟩⟩
  by_cases hx : l = []
  · have := h.1
    rw [hx] at this ⊢
    exact ⟨this.len, this.le, this.max, Row.nil _ _⟩
  · exact h.1.kp k (fun a ha => hd _ (h.2 hx a ha).2 (h.2 hx a ha).1)
theorem DataP.keep {P : Nat → Prop} {w w' : World} {ao : Option Addr} {n cap : Nat} {l : List UInt8} (h : DataP P w ao n cap l) (k : Kp Noone w w') : DataP P w' ao n cap l := h.kp k (fun _ _ _ c => c)
theorem DataP.mono {P Q : Nat → Prop} {w : World} {ao : Option Addr} {n cap : Nat} {l : List UInt8} (h : DataP P w ao n cap l) (hq : ∀ j, j < w.heap.size → P j → Q j) : DataP Q w ao n cap l :=
  ⟨h.1, fun hx a ha => ⟨hq _ (h.2 hx a ha).2 (h.2 hx a ha).1, (h.2 hx a ha).2⟩⟩
theorem BS.dataP {P : Nat → Prop} {w : World} {ao : Option Addr} {n cap : Nat} {l : List UInt8} (h : BS w ao n cap l) (hP : ∀ j, j < w.heap.size → P j) : DataP P w ao n cap l := by
  refine ⟨h, fun hx a ha => ?_⟩
  obtain ⟨b, hb1, hb2⟩ := h.row.lt (by intro c; apply hx; have := congrArg List.length c; rw [length_bv] at this; exact List.eq_nil_of_length_eq_zero this)
  rw [ha] at hb1
  cases hb1
  exact ⟨hP _ hb2, hb2⟩
theorem Own.dataP {F : Nat → Prop} {w : World} {ao : Option Addr} {n cap : Nat} {l : List UInt8} (h : Own F w 5 1 ao n cap (bv l)) : DataP F w ao n cap l := by
  refine ⟨h.bs, fun hx a ha => ?_⟩
  rcases h with ⟨e1, e2, e3, e4⟩
  rcases e4 with h0 | ⟨g, off, cur, h0, hg, e5, e6⟩
  · exfalso
    apply hx
    have : n = 0 := by omega
    subst this
    rw [length_bv] at e1
    exact List.eq_nil_of_length_eq_zero (by simpa using e1)
  · rw [h0] at ha
    cases ha
    exact ⟨hg, (Array.getElem?_eq_some_iff.1 e5).1⟩

/-- A slice of areas in blocks of one kind. -/
structure RA (P : Nat → Prop) (w : World) (ao : Option Addr) (n cap : Nat) (L : Img) : Prop where
  len : L.length = n
  le : n ≤ cap
  max : cap ≤ maxLen
  get : ∀ i (h : i < L.length), ∃ b off bo m c, ao = some ⟨b, off, none⟩ ∧ b < w.heap.size ∧ P b ∧ w.cell? ⟨b, off + i * 3, none⟩ = some (.string L[i].1) ∧ w.cell? ⟨b, off + i * 3 + 1, none⟩ = some (.slice bo m c) ∧
    w.cell? ⟨b, off + i * 3 + 2, none⟩ = some (.int .i64 L[i].2.safe) ∧ DataP P w bo m c L[i].2.data
theorem RA.kp {P S : Nat → Prop} {w w' : World} {ao : Option Addr} {n cap : Nat} {L : Img} (h : RA P w ao n cap L) (k : Kp S w w') (hd : ∀ j, j < w.heap.size → P j → ¬ S j) : RA P w' ao n cap L := by
  refine ⟨h.len, h.le, h.max, fun i hi => ?_⟩
  obtain ⟨b, off, bo, m, c, h1, h2, h3, h4, h5, h6, h7⟩ := h.get i hi
  exact ⟨b, off, bo, m, c, h1, Nat.lt_of_lt_of_le h2 k.size, h3, k.cell h4 (hd _ h2 h3), k.cell h5 (hd _ h2 h3), k.cell h6 (hd _ h2 h3), h7.kp k hd⟩
theorem RA.keep {P : Nat → Prop} {w w' : World} {ao : Option Addr} {n cap : Nat} {L : Img} (h : RA P w ao n cap L) (k : Kp Noone w w') : RA P w' ao n cap L := h.kp k (fun _ _ _ c => c)
theorem RA.mono {P Q : Nat → Prop} {w : World} {ao : Option Addr} {n cap : Nat} {L : Img} (h : RA P w ao n cap L) (hq : ∀ j, j < w.heap.size → P j → Q j) : RA Q w ao n cap L := by
  refine ⟨h.len, h.le, h.max, fun i hi => ?_⟩
  obtain ⟨b, off, bo, m, c, h1, h2, h3, h4, h5, h6, h7⟩ := h.get i hi
  exact ⟨b, off, bo, m, c, h1, h2, hq _ h2 h3, h4, h5, h6, h7.mono hq⟩
theorem RA.nil (P : Nat → Prop) (w : World) (ao : Option Addr) : RA P w ao 0 0 [] := ⟨rfl, Nat.le_refl _, by simp [maxLen], fun i h => by simp at h⟩
theorem RA.as {P : Nat → Prop} {w : World} {ao : Option Addr} {n cap : Nat} {L : Img} (h : RA P w ao n cap L) : AS w ao n cap L := by
  refine ⟨h.len, h.le, h.max, fun i hi => ?_⟩
  obtain ⟨b, off, bo, m, c, h1, h2, h3, h4, h5, h6, h7⟩ := h.get i hi
  exact ⟨b, off, bo, m, c, h1, h2, h4, h5, h6, h7.1⟩
/-- A slice of areas that grows: its row in blocks A of its own, made since z. -/
structure RGA (P : Nat → Prop) (z : Nat) (A : Nat → Prop) (hs : Hs) (w : World) (ao : Option Addr) (n cap : Nat) (L : Img) : Prop where
  base : ∀ j, A j → z ≤ j ∧ j < w.heap.size
  len : L.length = n
  hlen : hs.length = n
  own : Own A w 150 3 ao n cap (imgC L hs)
  data : ∀ j (h1 : j < hs.length) (h2 : j < L.length), DataP (fun k => P k ∧ ¬ A k) w hs[j].1 hs[j].2.1 hs[j].2.2 L[j].2.data
def RG (P : Nat → Prop) (z : Nat) (w : World) (ao : Option Addr) (n cap : Nat) (L : Img) : Prop := ∃ A hs, RGA P z A hs w ao n cap L
theorem RG.nil (P : Nat → Prop) (z : Nat) (w : World) (ao : Option Addr) : RG P z w ao 0 0 [] :=
  ⟨Noone, [], fun _ c => c.elim, rfl, rfl, Own.nil _ _ _ _ _, fun j h => by simp at h⟩
theorem RG.fresh {P : Nat → Prop} {z : Nat} {w : World} (hz : z ≤ w.heap.size) (T : TypeId) (hT : T = 150) : RG P z (w.alloc (.cells #[] T)) (some ⟨w.heap.size, 0, none⟩) 0 0 [] := by
  subst hT
  have h := heap_alloc_new w (.cells #[] 150)
  exact ⟨fun j => j = w.heap.size, [], fun j c => by subst c; exact ⟨hz, (Array.getElem?_eq_some_iff.1 h).1⟩, rfl, rfl, Own.fresh rfl h rfl (by simp [maxLen]), fun j h => by simp at h⟩
theorem RGA.keep {P : Nat → Prop} {z : Nat} {A : Nat → Prop} {hs : Hs} {w w' : World} {ao : Option Addr} {n cap : Nat} {L : Img} (h : RGA P z A hs w ao n cap L) (k : Kp Noone w w') : RGA P z A hs w' ao n cap L :=
  ⟨fun j c => ⟨(h.base j c).1, Nat.lt_of_lt_of_le (h.base j c).2 k.size⟩, h.len, h.hlen, h.own.keep k, fun j a b => (h.data j a b).keep k⟩
theorem RG.keep {P : Nat → Prop} {z : Nat} {w w' : World} {ao : Option Addr} {n cap : Nat} {L : Img} (h : RG P z w ao n cap L) (k : Kp Noone w w') : RG P z w' ao n cap L := by
  obtain ⟨A, hs, h⟩ := h
  exact ⟨A, hs, h.keep k⟩
/-- One area more. -/
theorem RGA.snoc {P : Nat → Prop} {z : Nat} {A : Nat → Prop} {hs : Hs} {w1 w6 w7 : World} {ao : Option Addr} {n cap : Nat} {L : Img} {ao' : Option Addr} {cap' : Nat} {k : ByteArray} {d : List UInt8} {sf : Int} {xo : Option Addr} {xm xc : Nat}
    (h : RGA P z A hs w1 ao n cap L) (hz : z ≤ w6.heap.size) (k16 : Kp Noone w1 w6) (ho : Own (Ex A w6 w7) w7 150 3 ao' (n + 1) cap' (imgC L hs ++ [.string k, .slice xo xm xc, .int .i64 sf])) (k67 : Kp A w6 w7)
    (hd : DataP (fun j => P j ∧ ¬ A j) w6 xo xm xc d) : RG P z w7 ao' (n + 1) cap' (L ++ [(k, ⟨d, sf⟩)]) := by
  have s16 := k16.size
  have s67 := k67.size
  have hl := h.len
  have hhs := h.hlen
  have hmv : ∀ {xo : Option Addr} {xm xc : Nat} {d : List UInt8}, DataP (fun j => P j ∧ ¬ A j) w6 xo xm xc d → DataP (fun j => P j ∧ ¬ Ex A w6 w7 j) w7 xo xm xc d := fun {xo xm xc d} hd => by
    have h1 := (hd.mono (Q := fun j => (P j ∧ ¬ A j) ∧ j < w6.heap.size) (fun j a b => ⟨b, a⟩)).kp k67 (fun j _ c e => c.1.2 e)
    exact h1.mono (fun j _ c => ⟨c.1.1, fun e => by rcases e with e | e; exact c.1.2 e; omega⟩)
  refine ⟨Ex A w6 w7, hs ++ [(xo, xm, xc)], fun j c => ?_, by simp [hl], by simp [hhs], ?_, fun j h1 h2 => ?_⟩
  · rcases c with c | c
    · have := h.base j c; omega
    · omega
  · rw [imgC_snoc L hs (k, ⟨d, sf⟩) _ (by omega)]
    exact ho
  · by_cases hj : j < hs.length
    · have hj2 : j < L.length := by omega
      rw [List.getElem_append_left hj, List.getElem_append_left hj2]
      exact hmv ((h.data j hj hj2).keep k16)
    · have ej : j = hs.length := by simp at h1; omega
      subst ej
      rw [List.getElem_append_right (by omega), List.getElem_append_right (by omega)]
      have e0 : hs.length - L.length = 0 := by omega
      simp only [Nat.sub_self, e0, List.getElem_singleton]
      exact hmv hd
/-! ### The places of names -/

end Go.Proofs.YtgbgbokcohfnpaaGreat

/-
  THE WALKS of the document's At and Safe.
-/
namespace Go.Proofs.YtgbgbokcohfnpaaGreat
open Go.RowKit

def sumL : Img → Int
  | [] => 0
  | x :: r => x.2.safe + sumL r
theorem sumL_append (a b : Img) : sumL (a ++ b) = sumL a + sumL b := by
  induction a with
  | nil => simp [sumL]
  | cons x r ih => simp [sumL, ih]; omega
theorem sumL_bound : ∀ (L : Img) (B : Int), (∀ x ∈ L, 0 ≤ x.2.safe ∧ x.2.safe ≤ B) → 0 ≤ sumL L ∧ sumL L ≤ L.length * B
  | [], B, _ => by simp [sumL]
  | p :: r, B, h => by
    have h1 := h p (by simp)
    have h2 := sumL_bound r B (fun x hx => h x (by simp [hx]))
    have e : ((p :: r).length : Int) * B = r.length * B + B := by rw [List.length_cons, Int.natCast_add, Int.add_mul]; omega
    rw [e]
    unfold sumL
    omega
/-- Small areas. -/
def Img.Small (L : Img) : Prop := L.length ≤ 64 ∧ ∀ x ∈ L, 0 ≤ x.2.safe ∧ x.2.safe ≤ 140737488355328
theorem Img.Small.sum {L : Img} (h : L.Small) : 0 ≤ sumL L ∧ sumL L ≤ 9007199254740992 := by
  have h1 := sumL_bound L 140737488355328 h.2
  have h2 := h.1
  have h3 : (L.length : Int) * 140737488355328 ≤ 64 * 140737488355328 := Int.mul_le_mul_of_nonneg_right (by omega) (by omega)
  omega
theorem Img.Small.take {L : Img} (h : L.Small) (j : Nat) : Img.Small (L.take j) := ⟨by have := h.1; rw [List.length_take]; omega, fun x hx => h.2 x (List.mem_of_mem_take hx)⟩

end Go.Proofs.YtgbgbokcohfnpaaGreat

/-
  THE WALKS of the document's With and Without.
-/
namespace Go.Proofs.YtgbgbokcohfnpaaGreat
open Go.RowKit

def withStep (a : ByteArray × AreaP) (s : Img × Bool) (x : ByteArray × AreaP) : Img × Bool :=
  let s1 := if (!s.2 && !(Op.bytesLess x.1.toList a.1.toList)) = true then (s.1 ++ [a], true) else s
  if x.1 = a.1 then s1 else (s1.1 ++ [x], s1.2)
def withS (a : ByteArray × AreaP) (L : Img) : Img × Bool := L.foldl (withStep a) ([], false)
def withL (L : Img) (a : ByteArray × AreaP) : Img := if (withS a L).2 = true then (withS a L).1 else (withS a L).1 ++ [a]
def withoutStep (k : ByteArray) (s : Img) (x : ByteArray × AreaP) : Img := if x.1 = k then s else s ++ [x]
def withoutL (L : Img) (k : ByteArray) : Img := L.foldl (withoutStep k) []
/-- Between two areas of With. -/
structure WR (P : Nat → Prop) (z n : Nat) (wB : World) (S : Nat → Img × Bool) (v o d : Value) (wr : World) : Prop where
  ex : ∃ (j : Nat) (ao : Option Addr) (cap : Nat), v = .int .i64 (j : Int) ∧ j ≤ n ∧ o = .slice ao (S j).1.length cap ∧ d = .bool (S j).2 ∧ RG P z wr ao (S j).1.length cap (S j).1 ∧ Kp (fun i => z ≤ i) wB wr
theorem alloc_size (w : World) (o : Obj) : (w.alloc o).heap.size = w.heap.size + 1 := by simp
end Go.Proofs.YtgbgbokcohfnpaaGreat

/-
  THE WALKS of the document's Without and Copy.
-/
namespace Go.Proofs.YtgbgbokcohfnpaaGreat
open Go.RowKit

end Go.Proofs.YtgbgbokcohfnpaaGreat

/-
  THE WALKS of the document's New and Mount.
-/
namespace Go.Proofs.YtgbgbokcohfnpaaGreat
open Go.RowKit

/-- The document's disk. -/
structure RD where
  L : Img
  room : Int
  steps : Int
  fuse : Int
  down : Bool
def newR (room : Int) : RD := ⟨[], max 0 (min room 4194304), 0, 0, false⟩
/-! ### Mount -/

end Go.Proofs.YtgbgbokcohfnpaaGreat

/-
  RefRow, RefCrash, RefWhy, RefChange in one text.
-/
/-
  ROWS OF AREAS that are changed in place; the document's crash in plain Lean.
-/
namespace Go.Proofs.YtgbgbokcohfnpaaGreat
open Go.RowKit

theorem RA.row {P : Nat → Prop} {w : World} {ao : Option Addr} {n cap : Nat} {L : Img} (h : RA P w ao n cap L) :
    ∃ hs : Hs, hs.length = L.length ∧ Row w ao (imgC L hs) ∧ ∀ j (h1 : j < hs.length) (h2 : j < L.length), DataP P w hs[j].1 hs[j].2.1 hs[j].2.2 L[j].2.data := by
  have hex : ∀ i (hi : i < L.length), ∃ x : Option Addr × Nat × Nat, (∃ b off, ao = some ⟨b, off, none⟩ ∧ w.cell? ⟨b, off + i * 3, none⟩ = some (.string L[i].1) ∧ w.cell? ⟨b, off + i * 3 + 1, none⟩ = some (.slice x.1 x.2.1 x.2.2) ∧
      w.cell? ⟨b, off + i * 3 + 2, none⟩ = some (.int .i64 L[i].2.safe)) ∧ DataP P w x.1 x.2.1 x.2.2 L[i].2.data := fun i hi => by
    obtain ⟨b, off, bo, m, c, h1, h2, h3, h4, h5, h6, h7⟩ := h.get i hi
    exact ⟨(bo, m, c), ⟨b, off, h1, h4, h5, h6⟩, h7⟩
  obtain ⟨hs, hl, hp⟩ : ∃ hs : Hs, hs.length = L.length ∧ ∀ j (h1 : j < hs.length) (h2 : j < L.length), (∃ b off, ao = some ⟨b, off, none⟩ ∧ w.cell? ⟨b, off + j * 3, none⟩ = some (.string L[j].1) ∧ w.cell? ⟨b, off + j * 3 + 1, none⟩ = some (.slice hs[j].1 hs[j].2.1 hs[j].2.2) ∧
      w.cell? ⟨b, off + j * 3 + 2, none⟩ = some (.int .i64 L[j].2.safe)) ∧ DataP P w hs[j].1 hs[j].2.1 hs[j].2.2 L[j].2.data :=
    ⟨List.ofFn fun i : Fin L.length => Classical.choose (hex i.1 i.2), by simp, fun j h1 h2 => by
      simp only [List.getElem_ofFn]
      exact Classical.choose_spec (hex j h2)⟩
  refine ⟨hs, hl, ?_, fun j h1 h2 => (hp j h1 h2).2⟩
  have hc := imgC_length L hs hl
  by_cases h0 : L.length = 0
  · left
    exact List.eq_nil_of_length_eq_zero (by rw [hc, h0])
  · right
    obtain ⟨⟨b, off, hao, -⟩, -⟩ := hp 0 (by omega) (by omega)
    refine ⟨b, off, hao, fun k hk => ?_⟩
    have hq : k / 3 < L.length := by omega
    obtain ⟨⟨b', off', e, c0, c1, c2⟩, -⟩ := hp (k / 3) (by omega) hq
    rw [hao] at e
    obtain ⟨rfl, rfl⟩ : b = b' ∧ off = off' := by
      have e1 := Option.some.inj e
      exact ⟨congrArg Addr.block e1, congrArg Addr.off e1⟩
    obtain ⟨g0, g1, g2⟩ := imgC_get L hs (k / 3) hq (by omega)
    rw [← List.getElem?_eq_getElem hk]
    rcases (by omega : k = k / 3 * 3 ∨ k = k / 3 * 3 + 1 ∨ k = k / 3 * 3 + 2) with e | e | e
    · rw [e, g0, ← c0, ← e]
    · rw [e, g1, ← c1, Nat.add_assoc, ← e]
    · rw [e, g2, ← c2, Nat.add_assoc, ← e]

/-! ### crash in plain Lean -/

/-- How much of an area is left. -/
def keepA (sum room : Int) (a : AreaP) (k : Option Int) : Int := max a.safe (min (keepN a k) (room - sum + a.safe))
def crX (sum room : Int) (x : ByteArray × AreaP) (k : Option Int) : ByteArray × AreaP := (x.1, ⟨x.2.data.take (keepA sum room x.2 k).toNat, keepA sum room x.2 k⟩)
def crR1 (room : Int) (M : Img) (i : Nat) (k : Option Int) : Img := match M[i]? with
  | some x => M.set i (crX (sumL M) room x k)
  | none => M
def crUp (room : Int) (keep : List Int) (L : Img) : Nat → Img
  | 0 => L
  | i + 1 => crR1 room (crUp room keep L i) i keep[i]?
def crashR (m : RD) (keep : List Int) : RD := ⟨crUp m.room keep m.L m.L.length, m.room, m.steps, 0, false⟩
theorem crR1_len (room : Int) (M : Img) (i : Nat) (k : Option Int) : (crR1 room M i k).length = M.length := by
  unfold crR1
  split <;> simp
theorem crUp_len (room : Int) (keep : List Int) (L : Img) (i : Nat) : (crUp room keep L i).length = L.length := by
  induction i with
  | zero => rfl
  | succ i ih => unfold crUp; rw [crR1_len, ih]
theorem crUp_succ (room : Int) (keep : List Int) (L : Img) (i : Nat) (h : i < (crUp room keep L i).length) : crUp room keep L (i + 1) = (crUp room keep L i).set i (crX (sumL (crUp room keep L i)) room (crUp room keep L i)[i] keep[i]?) := by
  show crR1 room (crUp room keep L i) i keep[i]? = _
  unfold crR1
  rw [List.getElem?_eq_getElem h]
/-- What holds of each area. -/
def Img.Fit (L : Img) : Prop := ∀ x ∈ L, 0 ≤ x.2.safe ∧ x.2.safe ≤ x.2.data.length ∧ x.2.data.length ≤ 140737488355328
theorem Img.Fit.small {L : Img} (h : L.Fit) (h64 : L.length ≤ 64) : L.Small := ⟨h64, fun x hx => by have := h x hx; omega⟩

end Go.Proofs.YtgbgbokcohfnpaaGreat

/-
  THE WALK of the document's crash.
-/
namespace Go.Proofs.YtgbgbokcohfnpaaGreat
open Go.RowKit

theorem RGA.kp {P S : Nat → Prop} {z : Nat} {A : Nat → Prop} {hs : Hs} {w w' : World} {ao : Option Addr} {n cap : Nat} {L : Img} (h : RGA P z A hs w ao n cap L) (k : Kp S w w') (hA : ∀ j, A j → ¬ S j) (hP : ∀ j, P j → ¬ S j) : RGA P z A hs w' ao n cap L :=
  ⟨fun j c => ⟨(h.base j c).1, Nat.lt_of_lt_of_le (h.base j c).2 k.size⟩, h.len, h.hlen, h.own.kp k hA, fun j a b => (h.data j a b).kp k (fun i _ c => hP i c.1)⟩
/-- What holds of the document's disk. -/
structure ROk (m : RD) : Prop where
  room : 0 ≤ m.room ∧ m.room ≤ 4194304
  len : m.L.length ≤ 64
  fit : m.L.Fit
  steps : 0 ≤ m.steps ∧ m.steps ≤ 4611686018427387904
  fuse : 0 ≤ m.fuse ∧ m.fuse ≤ 9223372036854775807

end Go.Proofs.YtgbgbokcohfnpaaGreat

/-
  THE WALK of the document's why.
-/
namespace Go.Proofs.YtgbgbokcohfnpaaGreat
open Go.RowKit

def whyR (m : RD) (o : OpD) : Nat :=
  if m.down = true then 2
  else if nameOk o.name = false then 40
  else if 0 < o.k ∧ alGet o.name m.L = none then 41
  else if o.k = 0 then (if alGet o.name m.L = none ∧ 64 ≤ m.L.length then 43 else if 4194304 < ((get0 o.name m.L).data.length : Int) + o.b.length then 12 else 0)
  else if o.k = 1 then (if m.room < sumL m.L - (get0 o.name m.L).safe + (get0 o.name m.L).data.length then 42 else 0)
  else if o.k = 2 then (if o.n < 0 ∨ ((get0 o.name m.L).data.length : Int) < o.n then 1 else 0)
  else if o.k = 3 then (if nameOk o.dest = false then 40 else 0)
  else 0

end Go.Proofs.YtgbgbokcohfnpaaGreat

/-
  THE WALK of the document's change.
-/
namespace Go.Proofs.YtgbgbokcohfnpaaGreat
open Go.RowKit

def changeL (L : Img) (o : OpD) : Img :=
  if o.k = 0 then withL L (o.name, ⟨(get0 o.name L).data ++ o.b, (get0 o.name L).safe⟩)
  else if o.k = 1 then withL L (o.name, ⟨(get0 o.name L).data, (get0 o.name L).data.length⟩)
  else if o.k = 2 then withL L (o.name, cutA (get0 o.name L) o.n)
  else if o.k = 3 then withL (withoutL L o.name) (o.dest, get0 o.name L)
  else withoutL L o.name
end Go.Proofs.YtgbgbokcohfnpaaGreat

/-
  THE WALK of the document's Do.
-/
namespace Go.Proofs.YtgbgbokcohfnpaaGreat
open Go.RowKit

def doR (m : RD) (o : OpD) : RD × List UInt8 × Nat :=
  if o.k = 6 then ({ m with fuse := max 0 o.n }, [], 0)
  else if o.k = 7 then (crashR m o.keep, [], 0)
  else if o.k < 0 ∨ 7 < o.k then (m, [], 0)
  else if whyR m o ≠ 0 then (m, [], whyR m o)
  else if o.k = 5 then (m, (get0 o.name m.L).data, 0)
  else if m.fuse = 1 then ({ m with L := (if o.k = 0 then changeL m.L o else m.L), fuse := 0, down := true }, [], 2)
  else ({ m with L := changeL m.L o, steps := m.steps + 1, fuse := max 0 (m.fuse - 1) }, [], 0)
theorem DataP.nil (P : Nat → Prop) (w : World) (ao : Option Addr) : DataP P w ao 0 0 [] := ⟨⟨rfl, Nat.le_refl _, by simp [maxLen], Row.nil _ _⟩, fun h => absurd rfl h⟩
theorem BS.nil (w : World) (ao : Option Addr) : BS w ao 0 0 [] := ⟨rfl, Nat.le_refl _, by simp [maxLen], Row.nil _ _⟩

end Go.Proofs.YtgbgbokcohfnpaaGreat
