/-
  SLICES OF AREAS of the document's disk: where they lie, how one grows.
-/
import Derived.Test.YtmmdojnjognccaaRefSame
import Derived.Laws.ResultCell
import Derived.Deep.MidRow
namespace Go.Proofs.Ytmmdojnjognccaa
open Go.RowKit

/-- Bytes in blocks of one kind. -/
def DataP (P : Nat → Prop) (w : World) (ao : Option Addr) (n cap : Nat) (l : List UInt8) : Prop := BS w ao n cap l ∧ (l ≠ [] → ∀ a, ao = some a → P a.block ∧ a.block < w.heap.size)
theorem DataP.kp {P S : Nat → Prop} {w w' : World} {ao : Option Addr} {n cap : Nat} {l : List UInt8} (h : DataP P w ao n cap l) (k : Kp S w w') (hd : ∀ j, j < w.heap.size → P j → ¬ S j) : DataP P w' ao n cap l := by
  refine ⟨?_, fun hx a ha => ⟨(h.2 hx a ha).1, Nat.lt_of_lt_of_le (h.2 hx a ha).2 k.size⟩⟩
  by_cases hx : l = []
  · have := h.1
    rw [hx] at this ⊢
    exact ⟨this.len, this.le, this.max, Row.nil _ _⟩
  · exact h.1.kp k (fun a ha => hd _ (h.2 hx a ha).2 (h.2 hx a ha).1)
theorem DataP.keep {P : Nat → Prop} {w w' : World} {ao : Option Addr} {n cap : Nat} {l : List UInt8} (h : DataP P w ao n cap l) (k : Kp Noone w w') : DataP P w' ao n cap l := h.kp k (fun _ _ _ c => c)
theorem DataP.mono {P Q : Nat → Prop} {w : World} {ao : Option Addr} {n cap : Nat} {l : List UInt8} (h : DataP P w ao n cap l) (hq : ∀ j, j < w.heap.size → P j → Q j) : DataP Q w ao n cap l :=
  ⟨h.1, fun hx a ha => ⟨hq _ (h.2 hx a ha).2 (h.2 hx a ha).1, (h.2 hx a ha).2⟩⟩
theorem BS.dataP {P : Nat → Prop} {w : World} {ao : Option Addr} {n cap : Nat} {l : List UInt8} (h : BS w ao n cap l) (hP : ∀ j, j < w.heap.size → P j) : DataP P w ao n cap l := by
  refine ⟨h, fun hx a ha => ?_⟩
  obtain ⟨b, hb1, hb2⟩ := h.row.lt (by intro c; apply hx; have := congrArg List.length c; rw [length_bv] at this; exact List.eq_nil_of_length_eq_zero this)
  rw [ha] at hb1
  cases hb1
  exact ⟨hP _ hb2, hb2⟩
theorem Own.dataP {F : Nat → Prop} {w : World} {ao : Option Addr} {n cap : Nat} {l : List UInt8} (h : Own F w 5 1 ao n cap (bv l)) : DataP F w ao n cap l := by
  refine ⟨h.bs, fun hx a ha => ?_⟩
  rcases h with ⟨e1, e2, e3, e4⟩
  rcases e4 with h0 | ⟨g, off, cur, h0, hg, e5, e6⟩
  · exfalso
    apply hx
    have : n = 0 := by omega
    subst this
    rw [length_bv] at e1
    exact List.eq_nil_of_length_eq_zero (by simpa using e1)
  · rw [h0] at ha
    cases ha
    exact ⟨hg, (Array.getElem?_eq_some_iff.1 e5).1⟩

/-- A slice of areas in blocks of one kind. -/
structure RA (P : Nat → Prop) (w : World) (ao : Option Addr) (n cap : Nat) (L : Img) : Prop where
  len : L.length = n
  le : n ≤ cap
  max : cap ≤ maxLen
  get : ∀ i (h : i < L.length), ∃ b off bo m c, ao = some ⟨b, off, none⟩ ∧ b < w.heap.size ∧ P b ∧ w.cell? ⟨b, off + i * 3, none⟩ = some (.string L[i].1) ∧ w.cell? ⟨b, off + i * 3 + 1, none⟩ = some (.slice bo m c) ∧
    w.cell? ⟨b, off + i * 3 + 2, none⟩ = some (.int .i64 L[i].2.safe) ∧ DataP P w bo m c L[i].2.data
theorem RA.kp {P S : Nat → Prop} {w w' : World} {ao : Option Addr} {n cap : Nat} {L : Img} (h : RA P w ao n cap L) (k : Kp S w w') (hd : ∀ j, j < w.heap.size → P j → ¬ S j) : RA P w' ao n cap L := by
  refine ⟨h.len, h.le, h.max, fun i hi => ?_⟩
  obtain ⟨b, off, bo, m, c, h1, h2, h3, h4, h5, h6, h7⟩ := h.get i hi
  exact ⟨b, off, bo, m, c, h1, Nat.lt_of_lt_of_le h2 k.size, h3, k.cell h4 (hd _ h2 h3), k.cell h5 (hd _ h2 h3), k.cell h6 (hd _ h2 h3), h7.kp k hd⟩
theorem RA.keep {P : Nat → Prop} {w w' : World} {ao : Option Addr} {n cap : Nat} {L : Img} (h : RA P w ao n cap L) (k : Kp Noone w w') : RA P w' ao n cap L := h.kp k (fun _ _ _ c => c)
theorem RA.mono {P Q : Nat → Prop} {w : World} {ao : Option Addr} {n cap : Nat} {L : Img} (h : RA P w ao n cap L) (hq : ∀ j, j < w.heap.size → P j → Q j) : RA Q w ao n cap L := by
  refine ⟨h.len, h.le, h.max, fun i hi => ?_⟩
  obtain ⟨b, off, bo, m, c, h1, h2, h3, h4, h5, h6, h7⟩ := h.get i hi
  exact ⟨b, off, bo, m, c, h1, h2, hq _ h2 h3, h4, h5, h6, h7.mono hq⟩
theorem RA.nil (P : Nat → Prop) (w : World) (ao : Option Addr) : RA P w ao 0 0 [] := ⟨rfl, Nat.le_refl _, by simp [maxLen], fun i h => by simp at h⟩
theorem RA.as {P : Nat → Prop} {w : World} {ao : Option Addr} {n cap : Nat} {L : Img} (h : RA P w ao n cap L) : AS w ao n cap L := by
  refine ⟨h.len, h.le, h.max, fun i hi => ?_⟩
  obtain ⟨b, off, bo, m, c, h1, h2, h3, h4, h5, h6, h7⟩ := h.get i hi
  exact ⟨b, off, bo, m, c, h1, h2, h4, h5, h6, h7.1⟩
theorem AS.ra {P : Nat → Prop} {w : World} {ao : Option Addr} {n cap : Nat} {L : Img} (h : AS w ao n cap L) (hP : ∀ j, j < w.heap.size → P j) : RA P w ao n cap L := by
  refine ⟨h.len, h.le, h.max, fun i hi => ?_⟩
  obtain ⟨b, off, bo, m, c, h1, h2, h3, h4, h5, h6⟩ := h.get i hi
  exact ⟨b, off, bo, m, c, h1, h2, hP _ h2, h3, h4, h5, h6.dataP hP⟩

/-- A slice of areas that grows: its row in blocks A of its own, made since z. -/
structure RGA (P : Nat → Prop) (z : Nat) (A : Nat → Prop) (hs : Hs) (w : World) (ao : Option Addr) (n cap : Nat) (L : Img) : Prop where
  base : ∀ j, A j → z ≤ j ∧ j < w.heap.size
  len : L.length = n
  hlen : hs.length = n
  own : Own A w 46 3 ao n cap (imgC L hs)
  data : ∀ j (h1 : j < hs.length) (h2 : j < L.length), DataP (fun k => P k ∧ ¬ A k) w hs[j].1 hs[j].2.1 hs[j].2.2 L[j].2.data
def RG (P : Nat → Prop) (z : Nat) (w : World) (ao : Option Addr) (n cap : Nat) (L : Img) : Prop := ∃ A hs, RGA P z A hs w ao n cap L
theorem RG.nil (P : Nat → Prop) (z : Nat) (w : World) (ao : Option Addr) : RG P z w ao 0 0 [] :=
  ⟨Noone, [], fun _ c => c.elim, rfl, rfl, Own.nil _ _ _ _ _, fun j h => by simp at h⟩
theorem RG.fresh {P : Nat → Prop} {z : Nat} {w : World} (hz : z ≤ w.heap.size) (T : TypeId) (hT : T = 46) : RG P z (w.alloc (.cells #[] T)) (some ⟨w.heap.size, 0, none⟩) 0 0 [] := by
  subst hT
  have h := heap_alloc_new w (.cells #[] 46)
  exact ⟨fun j => j = w.heap.size, [], fun j c => by subst c; exact ⟨hz, (Array.getElem?_eq_some_iff.1 h).1⟩, rfl, rfl, Own.fresh rfl h rfl (by simp [maxLen]), fun j h => by simp at h⟩
theorem RGA.keep {P : Nat → Prop} {z : Nat} {A : Nat → Prop} {hs : Hs} {w w' : World} {ao : Option Addr} {n cap : Nat} {L : Img} (h : RGA P z A hs w ao n cap L) (k : Kp Noone w w') : RGA P z A hs w' ao n cap L :=
  ⟨fun j c => ⟨(h.base j c).1, Nat.lt_of_lt_of_le (h.base j c).2 k.size⟩, h.len, h.hlen, h.own.keep k, fun j a b => (h.data j a b).keep k⟩
theorem RG.keep {P : Nat → Prop} {z : Nat} {w w' : World} {ao : Option Addr} {n cap : Nat} {L : Img} (h : RG P z w ao n cap L) (k : Kp Noone w w') : RG P z w' ao n cap L := by
  obtain ⟨A, hs, h⟩ := h
  exact ⟨A, hs, h.keep k⟩
/-- One area more. -/
theorem RGA.snoc {P : Nat → Prop} {z : Nat} {A : Nat → Prop} {hs : Hs} {w1 w6 w7 : World} {ao : Option Addr} {n cap : Nat} {L : Img} {ao' : Option Addr} {cap' : Nat} {k : ByteArray} {d : List UInt8} {sf : Int} {xo : Option Addr} {xm xc : Nat}
    (h : RGA P z A hs w1 ao n cap L) (hz : z ≤ w6.heap.size) (k16 : Kp Noone w1 w6) (ho : Own (Ex A w6 w7) w7 46 3 ao' (n + 1) cap' (imgC L hs ++ [.string k, .slice xo xm xc, .int .i64 sf])) (k67 : Kp A w6 w7)
    (hd : DataP (fun j => P j ∧ ¬ A j) w6 xo xm xc d) : RG P z w7 ao' (n + 1) cap' (L ++ [(k, ⟨d, sf⟩)]) := by
  have s16 := k16.size
  have s67 := k67.size
  have hl := h.len
  have hhs := h.hlen
  have hmv : ∀ {xo : Option Addr} {xm xc : Nat} {d : List UInt8}, DataP (fun j => P j ∧ ¬ A j) w6 xo xm xc d → DataP (fun j => P j ∧ ¬ Ex A w6 w7 j) w7 xo xm xc d := fun {xo xm xc d} hd => by
    have h1 := (hd.mono (Q := fun j => (P j ∧ ¬ A j) ∧ j < w6.heap.size) (fun j a b => ⟨b, a⟩)).kp k67 (fun j _ c e => c.1.2 e)
    exact h1.mono (fun j _ c => ⟨c.1.1, fun e => by rcases e with e | e; exact c.1.2 e; omega⟩)
  refine ⟨Ex A w6 w7, hs ++ [(xo, xm, xc)], fun j c => ?_, by simp [hl], by simp [hhs], ?_, fun j h1 h2 => ?_⟩
  · rcases c with c | c
    · have := h.base j c; omega
    · omega
  · rw [imgC_snoc L hs (k, ⟨d, sf⟩) _ (by omega)]
    exact ho
  · by_cases hj : j < hs.length
    · have hj2 : j < L.length := by omega
      rw [List.getElem_append_left hj, List.getElem_append_left hj2]
      exact hmv ((h.data j hj hj2).keep k16)
    · have ej : j = hs.length := by simp at h1; omega
      subst ej
      rw [List.getElem_append_right (by omega), List.getElem_append_right (by omega)]
      have e0 : hs.length - L.length = 0 := by omega
      simp only [Nat.sub_self, e0, List.getElem_singleton]
      exact hmv hd
theorem RGA.ra {P Q : Nat → Prop} {z : Nat} {A : Nat → Prop} {hs : Hs} {w : World} {ao : Option Addr} {n cap : Nat} {L : Img} (h : RGA P z A hs w ao n cap L) (hA : ∀ j, z ≤ j → j < w.heap.size → Q j) (hP : ∀ j, j < w.heap.size → P j → Q j) : RA Q w ao n cap L := by
  have hl := h.len
  have hhs := h.hlen
  refine ⟨h.len, h.own.2.1, h.own.2.2.1, fun i hi => ?_⟩
  have hih : i < hs.length := by omega
  have hlc := imgC_length L hs (by omega)
  obtain ⟨g1, g2, g3⟩ := imgC_get L hs i hi hih
  have hb := h.data i hih hi
  rcases h.own with ⟨e1, e2, e3, e4⟩
  rcases e4 with h0 | ⟨b, off, cur, rfl, hA1, hh, hsz, hr⟩
  · omega
  · have hbl := (Array.getElem?_eq_some_iff.1 hh).1
    have hc : ∀ j v, (imgC L hs)[j]? = some v → w.cell? ⟨b, off + j, none⟩ = some v := fun j v hv => by
      obtain ⟨hj, rfl⟩ := List.getElem?_eq_some_iff.1 hv
      rw [cell_of_row w b _ cur _ (0, 0) hh]; exact hr j hj
    exact ⟨b, off, _, _, _, rfl, hbl, hA _ (h.base b hA1).1 hbl, hc _ _ g1, by rw [Nat.add_assoc]; exact hc _ _ g2, by rw [Nat.add_assoc]; exact hc _ _ g3, hb.mono (fun j hj c => hP j hj c.1)⟩
theorem RG.ra {P Q : Nat → Prop} {z : Nat} {w : World} {ao : Option Addr} {n cap : Nat} {L : Img} (h : RG P z w ao n cap L) (hA : ∀ j, z ≤ j → j < w.heap.size → Q j) (hP : ∀ j, j < w.heap.size → P j → Q j) : RA Q w ao n cap L := by
  obtain ⟨A, hs, h⟩ := h
  exact h.ra hA hP

/-! ### The places of names -/

def idxL (k : ByteArray) : Img → Option Nat
  | [] => none
  | x :: r => if x.1 = k then some 0 else (idxL k r).map (· + 1)
def atL (L : Img) (k : ByteArray) : Int := match idxL k L with
  | some i => (i : Int)
  | none => -1
theorem idxL_cons (k : ByteArray) (x : ByteArray × AreaP) (r : Img) : idxL k (x :: r) = if x.1 = k then some 0 else (idxL k r).map (· + 1) := rfl
theorem idxL_none {k : ByteArray} : ∀ {L : Img}, idxL k L = none ↔ alGet k L = none
  | [] => by simp [idxL, alGet_nil]
  | x :: r => by
    rw [alGet_cons]
    unfold idxL
    by_cases h : x.1 = k
    · rw [if_pos h, if_pos h.symm]; simp
    · rw [if_neg h, if_neg (fun c => h c.symm)]
      simpa using idxL_none (L := r)
theorem idxL_some {k : ByteArray} : ∀ {L : Img} {i : Nat}, idxL k L = some i → ∃ h : i < L.length, L[i].1 = k ∧ alGet k L = some L[i].2
  | [], i, h => by simp [idxL] at h
  | x :: r, i, h => by
    rw [alGet_cons]
    unfold idxL at h
    by_cases hx : x.1 = k
    · rw [if_pos hx] at h
      obtain rfl := Option.some.inj h
      rw [if_pos hx.symm]
      exact ⟨by simp, hx, rfl⟩
    · rw [if_neg hx] at h
      rw [if_neg (fun c => hx c.symm)]
      cases hr : idxL k r with
      | none => rw [hr] at h; cases h
      | some j =>
        rw [hr] at h
        obtain rfl := Option.some.inj h
        obtain ⟨h1, h2, h3⟩ := idxL_some (L := r) hr
        exact ⟨by simpa using h1, by simpa using h2, by simpa using h3⟩
theorem idxL_skip {k : ByteArray} {L : Img} {j : Nat} (h : ∀ i (hi : i < L.length), i < j → L[i].1 ≠ k) (hj : j ≤ L.length) : idxL k L = (idxL k (L.drop j)).map (· + j) := by
  induction j generalizing L with
  | zero => simp
  | succ j ih =>
    cases L with
    | nil => simp at hj
    | cons x r =>
      have h0 := h 0 (by simp) (by omega)
      have e : idxL k (x :: r) = (idxL k r).map (· + 1) := by
        show (if x.1 = k then some 0 else (idxL k r).map (· + 1)) = _
        rw [if_neg (by simpa using h0)]
      rw [e, List.drop_succ_cons, ih (L := r) (fun i hi hij => by have := h (i + 1) (by simpa using hi) (by omega); simpa using this) (by simpa using hj)]
      cases idxL k (r.drop j) <;> simp; omega

end Go.Proofs.Ytmmdojnjognccaa
