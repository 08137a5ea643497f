/-
  RefAt, RefWalk, RefWith, RefCopy in one text.
-/
import Derived.Test.YtigdhdclfdojgaaGreatDiskWhole
import Derived.Laws.ResultCell
import Derived.Deep.MidRow
import Derived.BigQuiet
import Derived.Deep.CutRange
/-
  SLICES OF AREAS of the document's disk: where they lie, how one grows.
-/
namespace Go.Proofs.YtigdhdclfdojgaaGreat
open Go.RowKit

/-- Bytes in blocks of one kind. -/
def DataP (P : Nat → Prop) (w : World) (ao : Option Addr) (n cap : Nat) (l : List UInt8) : Prop := BS w ao n cap l ∧ (l ≠ [] → ∀ a, ao = some a → P a.block ∧ a.block < w.heap.size)
theorem DataP.kp {P S : Nat → Prop} {w w' : World} {ao : Option Addr} {n cap : Nat} {l : List UInt8} (h : DataP P w ao n cap l) (k : Kp S w w') (hd : ∀ j, j < w.heap.size → P j → ¬ S j) : DataP P w' ao n cap l := by
  refine ⟨?_, fun hx a ha => ⟨(h.2 hx a ha).1, Nat.lt_of_lt_of_le (h.2 hx a ha).2 k.size⟩⟩
  by_cases hx : l = []
  · have := h.1
    rw [hx] at this ⊢
    exact ⟨this.len, this.le, this.max, Row.nil _ _⟩
  · exact h.1.kp k (fun a ha => hd _ (h.2 hx a ha).2 (h.2 hx a ha).1)
theorem DataP.keep {P : Nat → Prop} {w w' : World} {ao : Option Addr} {n cap : Nat} {l : List UInt8} (h : DataP P w ao n cap l) (k : Kp Noone w w') : DataP P w' ao n cap l := h.kp k (fun _ _ _ c => c)
theorem DataP.mono {P Q : Nat → Prop} {w : World} {ao : Option Addr} {n cap : Nat} {l : List UInt8} (h : DataP P w ao n cap l) (hq : ∀ j, j < w.heap.size → P j → Q j) : DataP Q w ao n cap l :=
  ⟨h.1, fun hx a ha => ⟨hq _ (h.2 hx a ha).2 (h.2 hx a ha).1, (h.2 hx a ha).2⟩⟩
theorem BS.dataP {P : Nat → Prop} {w : World} {ao : Option Addr} {n cap : Nat} {l : List UInt8} (h : BS w ao n cap l) (hP : ∀ j, j < w.heap.size → P j) : DataP P w ao n cap l := by
  refine ⟨h, fun hx a ha => ?_⟩
  obtain ⟨b, hb1, hb2⟩ := h.row.lt (by intro c; apply hx; have := congrArg List.length c; rw [length_bv] at this; exact List.eq_nil_of_length_eq_zero this)
  rw [ha] at hb1
  cases hb1
  exact ⟨hP _ hb2, hb2⟩
theorem Own.dataP {F : Nat → Prop} {w : World} {ao : Option Addr} {n cap : Nat} {l : List UInt8} (h : Own F w 5 1 ao n cap (bv l)) : DataP F w ao n cap l := by
  refine ⟨h.bs, fun hx a ha => ?_⟩
  rcases h with ⟨e1, e2, e3, e4⟩
  rcases e4 with h0 | ⟨g, off, cur, h0, hg, e5, e6⟩
  · exfalso
    apply hx
    have : n = 0 := by omega
    subst this
    rw [length_bv] at e1
    exact List.eq_nil_of_length_eq_zero (by simpa using e1)
  · rw [h0] at ha
    cases ha
    exact ⟨hg, (Array.getElem?_eq_some_iff.1 e5).1⟩

/-- A slice of areas in blocks of one kind. -/
structure RA (P : Nat → Prop) (w : World) (ao : Option Addr) (n cap : Nat) (L : Img) : Prop where
  len : L.length = n
  le : n ≤ cap
  max : cap ≤ maxLen
  get : ∀ i (h : i < L.length), ∃ b off bo m c, ao = some ⟨b, off, none⟩ ∧ b < w.heap.size ∧ P b ∧ w.cell? ⟨b, off + i * 3, none⟩ = some (.string L[i].1) ∧ w.cell? ⟨b, off + i * 3 + 1, none⟩ = some (.slice bo m c) ∧
    w.cell? ⟨b, off + i * 3 + 2, none⟩ = some (.int .i64 L[i].2.safe) ∧ DataP P w bo m c L[i].2.data
theorem RA.kp {P S : Nat → Prop} {w w' : World} {ao : Option Addr} {n cap : Nat} {L : Img} (h : RA P w ao n cap L) (k : Kp S w w') (hd : ∀ j, j < w.heap.size → P j → ¬ S j) : RA P w' ao n cap L := by
  refine ⟨h.len, h.le, h.max, fun i hi => ?_⟩
  obtain ⟨b, off, bo, m, c, h1, h2, h3, h4, h5, h6, h7⟩ := h.get i hi
  exact ⟨b, off, bo, m, c, h1, Nat.lt_of_lt_of_le h2 k.size, h3, k.cell h4 (hd _ h2 h3), k.cell h5 (hd _ h2 h3), k.cell h6 (hd _ h2 h3), h7.kp k hd⟩
theorem RA.keep {P : Nat → Prop} {w w' : World} {ao : Option Addr} {n cap : Nat} {L : Img} (h : RA P w ao n cap L) (k : Kp Noone w w') : RA P w' ao n cap L := h.kp k (fun _ _ _ c => c)
theorem RA.mono {P Q : Nat → Prop} {w : World} {ao : Option Addr} {n cap : Nat} {L : Img} (h : RA P w ao n cap L) (hq : ∀ j, j < w.heap.size → P j → Q j) : RA Q w ao n cap L := by
  refine ⟨h.len, h.le, h.max, fun i hi => ?_⟩
  obtain ⟨b, off, bo, m, c, h1, h2, h3, h4, h5, h6, h7⟩ := h.get i hi
  exact ⟨b, off, bo, m, c, h1, h2, hq _ h2 h3, h4, h5, h6, h7.mono hq⟩
theorem RA.nil (P : Nat → Prop) (w : World) (ao : Option Addr) : RA P w ao 0 0 [] := ⟨rfl, Nat.le_refl _, by simp [maxLen], fun i h => by simp at h⟩
theorem RA.as {P : Nat → Prop} {w : World} {ao : Option Addr} {n cap : Nat} {L : Img} (h : RA P w ao n cap L) : AS w ao n cap L := by
  refine ⟨h.len, h.le, h.max, fun i hi => ?_⟩
  obtain ⟨b, off, bo, m, c, h1, h2, h3, h4, h5, h6, h7⟩ := h.get i hi
  exact ⟨b, off, bo, m, c, h1, h2, h4, h5, h6, h7.1⟩
theorem AS.ra {P : Nat → Prop} {w : World} {ao : Option Addr} {n cap : Nat} {L : Img} (h : AS w ao n cap L) (hP : ∀ j, j < w.heap.size → P j) : RA P w ao n cap L := by
  refine ⟨h.len, h.le, h.max, fun i hi => ?_⟩
  obtain ⟨b, off, bo, m, c, h1, h2, h3, h4, h5, h6⟩ := h.get i hi
  exact ⟨b, off, bo, m, c, h1, h2, hP _ h2, h3, h4, h5, h6.dataP hP⟩

/-- A slice of areas that grows: its row in blocks A of its own, made since z. -/
structure RGA (P : Nat → Prop) (z : Nat) (A : Nat → Prop) (hs : Hs) (w : World) (ao : Option Addr) (n cap : Nat) (L : Img) : Prop where
  base : ∀ j, A j → z ≤ j ∧ j < w.heap.size
  len : L.length = n
  hlen : hs.length = n
  own : Own A w 67 3 ao n cap (imgC L hs)
  data : ∀ j (h1 : j < hs.length) (h2 : j < L.length), DataP (fun k => P k ∧ ¬ A k) w hs[j].1 hs[j].2.1 hs[j].2.2 L[j].2.data
def RG (P : Nat → Prop) (z : Nat) (w : World) (ao : Option Addr) (n cap : Nat) (L : Img) : Prop := ∃ A hs, RGA P z A hs w ao n cap L
theorem RG.nil (P : Nat → Prop) (z : Nat) (w : World) (ao : Option Addr) : RG P z w ao 0 0 [] :=
  ⟨Noone, [], fun _ c => c.elim, rfl, rfl, Own.nil _ _ _ _ _, fun j h => by simp at h⟩
theorem RG.fresh {P : Nat → Prop} {z : Nat} {w : World} (hz : z ≤ w.heap.size) (T : TypeId) (hT : T = 67) : RG P z (w.alloc (.cells #[] T)) (some ⟨w.heap.size, 0, none⟩) 0 0 [] := by
  subst hT
  have h := heap_alloc_new w (.cells #[] 67)
  exact ⟨fun j => j = w.heap.size, [], fun j c => by subst c; exact ⟨hz, (Array.getElem?_eq_some_iff.1 h).1⟩, rfl, rfl, Own.fresh rfl h rfl (by simp [maxLen]), fun j h => by simp at h⟩
theorem RGA.keep {P : Nat → Prop} {z : Nat} {A : Nat → Prop} {hs : Hs} {w w' : World} {ao : Option Addr} {n cap : Nat} {L : Img} (h : RGA P z A hs w ao n cap L) (k : Kp Noone w w') : RGA P z A hs w' ao n cap L :=
  ⟨fun j c => ⟨(h.base j c).1, Nat.lt_of_lt_of_le (h.base j c).2 k.size⟩, h.len, h.hlen, h.own.keep k, fun j a b => (h.data j a b).keep k⟩
theorem RG.keep {P : Nat → Prop} {z : Nat} {w w' : World} {ao : Option Addr} {n cap : Nat} {L : Img} (h : RG P z w ao n cap L) (k : Kp Noone w w') : RG P z w' ao n cap L := by
  obtain ⟨A, hs, h⟩ := h
  exact ⟨A, hs, h.keep k⟩
/-- One area more. -/
theorem RGA.snoc {P : Nat → Prop} {z : Nat} {A : Nat → Prop} {hs : Hs} {w1 w6 w7 : World} {ao : Option Addr} {n cap : Nat} {L : Img} {ao' : Option Addr} {cap' : Nat} {k : ByteArray} {d : List UInt8} {sf : Int} {xo : Option Addr} {xm xc : Nat}
    (h : RGA P z A hs w1 ao n cap L) (hz : z ≤ w6.heap.size) (k16 : Kp Noone w1 w6) (ho : Own (Ex A w6 w7) w7 67 3 ao' (n + 1) cap' (imgC L hs ++ [.string k, .slice xo xm xc, .int .i64 sf])) (k67 : Kp A w6 w7)
    (hd : DataP (fun j => P j ∧ ¬ A j) w6 xo xm xc d) : RG P z w7 ao' (n + 1) cap' (L ++ [(k, ⟨d, sf⟩)]) := by
  have s16 := k16.size
  have s67 := k67.size
  have hl := h.len
  have hhs := h.hlen
  have hmv : ∀ {xo : Option Addr} {xm xc : Nat} {d : List UInt8}, DataP (fun j => P j ∧ ¬ A j) w6 xo xm xc d → DataP (fun j => P j ∧ ¬ Ex A w6 w7 j) w7 xo xm xc d := fun {xo xm xc d} hd => by
    have h1 := (hd.mono (Q := fun j => (P j ∧ ¬ A j) ∧ j < w6.heap.size) (fun j a b => ⟨b, a⟩)).kp k67 (fun j _ c e => c.1.2 e)
    exact h1.mono (fun j _ c => ⟨c.1.1, fun e => by rcases e with e | e; exact c.1.2 e; omega⟩)
  refine ⟨Ex A w6 w7, hs ++ [(xo, xm, xc)], fun j c => ?_, by simp [hl], by simp [hhs], ?_, fun j h1 h2 => ?_⟩
  · rcases c with c | c
    · have := h.base j c; omega
    · omega
  · rw [imgC_snoc L hs (k, ⟨d, sf⟩) _ (by omega)]
    exact ho
  · by_cases hj : j < hs.length
    · have hj2 : j < L.length := by omega
      rw [List.getElem_append_left hj, List.getElem_append_left hj2]
      exact hmv ((h.data j hj hj2).keep k16)
    · have ej : j = hs.length := by simp at h1; omega
      subst ej
      rw [List.getElem_append_right (by omega), List.getElem_append_right (by omega)]
      have e0 : hs.length - L.length = 0 := by omega
      simp only [Nat.sub_self, e0, List.getElem_singleton]
      exact hmv hd
theorem RGA.ra {P Q : Nat → Prop} {z : Nat} {A : Nat → Prop} {hs : Hs} {w : World} {ao : Option Addr} {n cap : Nat} {L : Img} (h : RGA P z A hs w ao n cap L) (hA : ∀ j, z ≤ j → j < w.heap.size → Q j) (hP : ∀ j, j < w.heap.size → P j → Q j) : RA Q w ao n cap L := by
  have hl := h.len
  have hhs := h.hlen
  refine ⟨h.len, h.own.2.1, h.own.2.2.1, fun i hi => ?_⟩
  have hih : i < hs.length := by omega
  have hlc := imgC_length L hs (by omega)
  obtain ⟨g1, g2, g3⟩ := imgC_get L hs i hi hih
  have hb := h.data i hih hi
  rcases h.own with ⟨e1, e2, e3, e4⟩
  rcases e4 with h0 | ⟨b, off, cur, rfl, hA1, hh, hsz, hr⟩
  · omega
  · have hbl := (Array.getElem?_eq_some_iff.1 hh).1
    have hc : ∀ j v, (imgC L hs)[j]? = some v → w.cell? ⟨b, off + j, none⟩ = some v := fun j v hv => by
      obtain ⟨hj, rfl⟩ := List.getElem?_eq_some_iff.1 hv
      rw [cell_of_row w b _ cur _ (0, 0) hh]; exact hr j hj
    exact ⟨b, off, _, _, _, rfl, hbl, hA _ (h.base b hA1).1 hbl, hc _ _ g1, by rw [Nat.add_assoc]; exact hc _ _ g2, by rw [Nat.add_assoc]; exact hc _ _ g3, hb.mono (fun j hj c => hP j hj c.1)⟩
theorem RG.ra {P Q : Nat → Prop} {z : Nat} {w : World} {ao : Option Addr} {n cap : Nat} {L : Img} (h : RG P z w ao n cap L) (hA : ∀ j, z ≤ j → j < w.heap.size → Q j) (hP : ∀ j, j < w.heap.size → P j → Q j) : RA Q w ao n cap L := by
  obtain ⟨A, hs, h⟩ := h
  exact h.ra hA hP

/-! ### The places of names -/

def idxL (k : ByteArray) : Img → Option Nat
  | [] => none
  | x :: r => if x.1 = k then some 0 else (idxL k r).map (· + 1)
def atL (L : Img) (k : ByteArray) : Int := match idxL k L with
  | some i => (i : Int)
  | none => -1
theorem idxL_cons (k : ByteArray) (x : ByteArray × AreaP) (r : Img) : idxL k (x :: r) = if x.1 = k then some 0 else (idxL k r).map (· + 1) := rfl
theorem idxL_none {k : ByteArray} : ∀ {L : Img}, idxL k L = none ↔ alGet k L = none
  | [] => by simp [idxL, alGet_nil]
  | x :: r => by
    rw [alGet_cons]
    unfold idxL
    by_cases h : x.1 = k
    · rw [if_pos h, if_pos h.symm]; simp
    · rw [if_neg h, if_neg (fun c => h c.symm)]
      simpa using idxL_none (L := r)
theorem idxL_some {k : ByteArray} : ∀ {L : Img} {i : Nat}, idxL k L = some i → ∃ h : i < L.length, L[i].1 = k ∧ alGet k L = some L[i].2
  | [], i, h => by simp [idxL] at h
  | x :: r, i, h => by
    rw [alGet_cons]
    unfold idxL at h
    by_cases hx : x.1 = k
    · rw [if_pos hx] at h
      obtain rfl := Option.some.inj h
      rw [if_pos hx.symm]
      exact ⟨by simp, hx, rfl⟩
    · rw [if_neg hx] at h
      rw [if_neg (fun c => hx c.symm)]
      cases hr : idxL k r with
      | none => rw [hr] at h; cases h
      | some j =>
        rw [hr] at h
        obtain rfl := Option.some.inj h
        obtain ⟨h1, h2, h3⟩ := idxL_some (L := r) hr
        exact ⟨by simpa using h1, by simpa using h2, by simpa using h3⟩
theorem idxL_skip {k : ByteArray} {L : Img} {j : Nat} (h : ∀ i (hi : i < L.length), i < j → L[i].1 ≠ k) (hj : j ≤ L.length) : idxL k L = (idxL k (L.drop j)).map (· + j) := by
  induction j generalizing L with
  | zero => simp
  | succ j ih =>
    cases L with
    | nil => simp at hj
    | cons x r =>
      have h0 := h 0 (by simp) (by omega)
      have e : idxL k (x :: r) = (idxL k r).map (· + 1) := by
        show (if x.1 = k then some 0 else (idxL k r).map (· + 1)) = _
        rw [if_neg (by simpa using h0)]
      rw [e, List.drop_succ_cons, ih (L := r) (fun i hi hij => by have := h (i + 1) (by simpa using hi) (by omega); simpa using this) (by simpa using hj)]
      cases idxL k (r.drop j) <;> simp; omega

end Go.Proofs.YtigdhdclfdojgaaGreat

/-
  THE WALKS of the document's At and Safe.
-/
namespace Go.Proofs.YtigdhdclfdojgaaGreat
open Go.RowKit

/-- The document's disk as a value. -/
def diskV (ao : Option Addr) (n cap : Nat) (room steps fuse : Int) (down : Bool) : Value := .agg #[.slice ao n cap, .int .i64 room, .int .i64 steps, .int .i64 fuse, .bool down]

theorem ba_ne {x y : ByteArray} (h : x ≠ y) : (x == y) = false ∧ (x != y) = true ∧ (x.toList == y.toList) = false ∧ ¬ x.toList = y.toList := by
  have h1 : ¬ x.toList = y.toList := fun c => h (by
    rw [ByteArray.toList_eq, ByteArray.toList_eq] at c
    exact ByteArray.ext (by rw [← Array.toArray_toList (xs := x.data), c, Array.toArray_toList]))
  have h2 : (x == y) = false := by rw [ba_beq]; simpa using h
  exact ⟨h2, by show (!(x == y)) = true; rw [h2]; rfl, by simpa using h1, h1⟩

set_option maxRecDepth 100000 in
theorem at_ref (P : Nat → Prop) (ao : Option Addr) (n cap : Nat) (L : Img) (room steps fuse : Int) (down : Bool) (k : ByteArray) (w : World) (h : RA P w ao n cap L) (hn : n ≤ 1048576) :
    Calls Tryz.prog 24 #[diskV ao n cap room steps fuse down, .string k] w fun e w' => e = .returned (.int .i64 (atL L k)) ∧ Kp Noone w w' := by
  have hlen := h.len
  have kA : Kp Noone w (w.alloc (.cells #[.slice ao n cap, .int .i64 room, .int .i64 steps, .int .i64 fuse, .bool down] 26)) := (Kp.refl _ _).alloc _
  have hA := heap_alloc_new w (.cells #[.slice ao n cap, .int .i64 room, .int .i64 steps, .int .i64 fuse, .bool down] 26)
  have hRA := Lib.hid (h.keep kA)
  have HK := Lib.hid kA
  obtain ⟨v, hv⟩ : ∃ v, Hid (atL L k = v) := ⟨_, Lib.hid rfl⟩
  rw [hv.out]
  clear h kA
  unfold diskV
  go_enter Tryz.func24, Tryz.ntmps24
  go_upto_region 1 with fail
  generalize w.alloc (.cells #[.slice ao n cap, .int .i64 room, .int .i64 steps, .int .i64 fuse, .bool down] 26) = wA at *
  obtain ⟨⟨q0, -, -, -, -⟩, -⟩ := cells_five hA
  go_wp2_with fail
  go_loopw [9] (fun v wr => ∃ j : Nat, v = .int .i64 (j : Int) ∧ j ≤ n ∧ (∀ i (hi : i < L.length), i < j → L[i].1 ≠ k) ∧ wr = wA) (fun v _ => n - (intOf v).toNat)
  case atStart => exact ⟨0, by rfl, Nat.zero_le _, fun i _ h => by omega, rfl⟩
  case round =>
    obtain ⟨j, rfl, hj, hno, rfl⟩ := hrel
    have HNO := Lib.hid hno
    clear hno
    by_cases hlt : j < n
    · have hjl : j < L.length := by omega
      obtain ⟨b, off, bo, m, c, rfl, hbl, hPb, c0, c1, c2, hd⟩ := hRA.out.get j hjl
      have hwj : IntKind.i64.wrap ((j : Int) + 1) = (j : Int) + 1 := IntWalk.i64_in _ (by omega)
      have hex : Hid (∀ i (hi : i < L.length), i = j → L[i].1 = L[j].1) := Lib.hid (fun i hi e => by subst e; rfl)
      have hat : Hid (L[j].1 = k → atL L k = (j : Int)) := Lib.hid (fun e => by
        have h1 := idxL_skip (k := k) HNO.out (by omega)
        rw [List.drop_eq_getElem_cons hjl] at h1
        rw [idxL_cons, if_pos e] at h1
        simp at h1
        unfold atL
        rw [h1])
      generalize L[j].1 = nm at *
      generalize L[j].2.safe = sf at *
      clear hd c1 c2
      by_cases he : nm = k
      · have hv2 := hv.out
        rw [hat.out he] at hv2
        have HV2 := Lib.hid hv2
        subst he
        clear hv2
        go_wp2_with fail
        go_ret
        exact ⟨by rw [HV2.out]; rfl, HK.out⟩
      · obtain ⟨n1, n2, n3, n4⟩ := ba_ne he
        have R : Hid (∀ i (hi : i < L.length), i < j + 1 → L[i].1 ≠ k) := Lib.hid (fun i hi hij => by
          by_cases e : i = j
          · rw [hex.out i hi e]; exact he
          · exact HNO.out i hi (by omega))
        clear hat hex he
        go_wp2_with fail
        go_roundw
        case rel => exact ⟨j + 1, by rfl, by omega, R.out, by trivial⟩
        case measure => simp [intOf]; omega
    · have hv2 : Hid (v = -1) := Lib.hid (by
        rw [← hv.out]
        have h1 := idxL_skip (k := k) (L := L) (j := L.length) (fun i hi _ => HNO.out i hi (by omega)) (Nat.le_refl _)
        rw [List.drop_length] at h1
        unfold atL
        rw [h1]
        rfl)
      go_wp2_with fail
      go_ret
      exact ⟨by rw [hv2.out]; rfl, HK.out⟩

def sumL : Img → Int
  | [] => 0
  | x :: r => x.2.safe + sumL r
theorem sumL_append (a b : Img) : sumL (a ++ b) = sumL a + sumL b := by
  induction a with
  | nil => simp [sumL]
  | cons x r ih => simp [sumL, ih]; omega
theorem sumL_bound : ∀ (L : Img) (B : Int), (∀ x ∈ L, 0 ≤ x.2.safe ∧ x.2.safe ≤ B) → 0 ≤ sumL L ∧ sumL L ≤ L.length * B
  | [], B, _ => by simp [sumL]
  | p :: r, B, h => by
    have h1 := h p (by simp)
    have h2 := sumL_bound r B (fun x hx => h x (by simp [hx]))
    have e : ((p :: r).length : Int) * B = r.length * B + B := by rw [List.length_cons, Int.natCast_add, Int.add_mul]; omega
    rw [e]
    unfold sumL
    omega
/-- Small areas. -/
def Img.Small (L : Img) : Prop := L.length ≤ 64 ∧ ∀ x ∈ L, 0 ≤ x.2.safe ∧ x.2.safe ≤ 140737488355328
theorem Img.Small.sum {L : Img} (h : L.Small) : 0 ≤ sumL L ∧ sumL L ≤ 9007199254740992 := by
  have h1 := sumL_bound L 140737488355328 h.2
  have h2 := h.1
  have h3 : (L.length : Int) * 140737488355328 ≤ 64 * 140737488355328 := Int.mul_le_mul_of_nonneg_right (by omega) (by omega)
  omega
theorem Img.Small.take {L : Img} (h : L.Small) (j : Nat) : Img.Small (L.take j) := ⟨by have := h.1; rw [List.length_take]; omega, fun x hx => h.2 x (List.mem_of_mem_take hx)⟩

set_option maxRecDepth 100000 in
theorem safe_ref (P : Nat → Prop) (ao : Option Addr) (n cap : Nat) (L : Img) (room steps fuse : Int) (down : Bool) (w : World) (h : RA P w ao n cap L) (hs : L.Small) :
    Calls Tryz.prog 27 #[diskV ao n cap room steps fuse down] w fun e w' => e = .returned (.int .i64 (sumL L)) ∧ Kp Noone w w' := by
  have hlen := h.len
  have h64 := hs.1
  have kA : Kp Noone w (w.alloc (.cells #[.slice ao n cap, .int .i64 room, .int .i64 steps, .int .i64 fuse, .bool down] 26)) := (Kp.refl _ _).alloc _
  have hA := heap_alloc_new w (.cells #[.slice ao n cap, .int .i64 room, .int .i64 steps, .int .i64 fuse, .bool down] 26)
  have hRA := Lib.hid (h.keep kA)
  have HK := Lib.hid kA
  have HS := Lib.hid hs
  obtain ⟨v, hv⟩ : ∃ v, Hid (sumL L = v) := ⟨_, Lib.hid rfl⟩
  rw [hv.out]
  clear h kA hs
  unfold diskV
  go_enter Tryz.func27, Tryz.ntmps27
  go_upto_region 2 with fail
  generalize w.alloc (.cells #[.slice ao n cap, .int .i64 room, .int .i64 steps, .int .i64 fuse, .bool down] 26) = wA at *
  obtain ⟨⟨q0, -, -, -, -⟩, -⟩ := cells_five hA
  go_wp2_with fail
  go_loopw [8, 3] (fun v sv wr => ∃ j : Nat, v = .int .i64 (j : Int) ∧ j ≤ n ∧ sv = .int .i64 (sumL (L.take j)) ∧ wr = wA) (fun v _ _ => n - (intOf v).toNat)
  case atStart => exact ⟨0, by rfl, Nat.zero_le _, by rw [List.take_zero]; rfl, rfl⟩
  case round =>
    obtain ⟨j, rfl, hj, rfl, rfl⟩ := hrel
    by_cases hlt : j < n
    · have hjl : j < L.length := by omega
      obtain ⟨b, off, bo, m, c, rfl, hbl, hPb, c0, c1, c2, hd⟩ := hRA.out.get j hjl
      have hwj : IntKind.i64.wrap ((j : Int) + 1) = (j : Int) + 1 := IntWalk.i64_in _ (by omega)
      have hst : Hid (sumL (L.take (j + 1)) = sumL (L.take j) + L[j].2.safe) := Lib.hid (by
        rw [List.take_succ_eq_append_getElem hjl, sumL_append]
        simp [sumL])
      have hsb := (HS.out.take j).sum
      have hsf := HS.out.2 _ (List.getElem_mem hjl)
      generalize L[j].2.safe = sf at *
      have hwa : IntKind.i64.wrap (sumL (L.take j) + sf) = sumL (L.take j) + sf := IntWalk.i64_in _ (by omega)
      generalize sumL (L.take j) = sm at *
      clear hd c1 c0
      go_wp2_with fail
      go_roundw
      case rel => exact ⟨j + 1, by rfl, by omega, by rw [hst.out], by trivial⟩
      case measure => simp [intOf]; omega
    · have he : Hid (sumL (L.take j) = v) := Lib.hid (by rw [List.take_of_length_le (by omega)]; exact hv.out)
      go_wp2_with fail
      go_ret
      exact ⟨by rw [he.out]; rfl, HK.out⟩

end Go.Proofs.YtigdhdclfdojgaaGreat

/-
  THE WALKS of the document's With and Without.
-/
namespace Go.Proofs.YtigdhdclfdojgaaGreat
open Go.RowKit

def withStep (a : ByteArray × AreaP) (s : Img × Bool) (x : ByteArray × AreaP) : Img × Bool :=
  let s1 := if (!s.2 && !(Op.bytesLess x.1.toList a.1.toList)) = true then (s.1 ++ [a], true) else s
  if x.1 = a.1 then s1 else (s1.1 ++ [x], s1.2)
def withS (a : ByteArray × AreaP) (L : Img) : Img × Bool := L.foldl (withStep a) ([], false)
def withL (L : Img) (a : ByteArray × AreaP) : Img := if (withS a L).2 = true then (withS a L).1 else (withS a L).1 ++ [a]
theorem withS_take (a : ByteArray × AreaP) (L : Img) (j : Nat) (h : j < L.length) : withS a (L.take (j + 1)) = withStep a (withS a (L.take j)) L[j] := by
  unfold withS
  rw [List.take_succ_eq_append_getElem h, List.foldl_append]
  rfl
theorem withStep_len (a : ByteArray × AreaP) (s : Img × Bool) (x : ByteArray × AreaP) : (withStep a s x).1.length ≤ s.1.length + 2 := by
  unfold withStep
  simp only []
  split <;> split <;> simp
theorem withS_len (a : ByteArray × AreaP) (L : Img) (j : Nat) (h : j ≤ L.length) : (withS a (L.take j)).1.length ≤ 2 * j := by
  induction j with
  | zero => simp [withS]
  | succ j ih =>
    rw [withS_take a L j h]
    have h1 := withStep_len a (withS a (L.take j)) L[j]
    have h2 := ih (by omega)
    omega
def withoutStep (k : ByteArray) (s : Img) (x : ByteArray × AreaP) : Img := if x.1 = k then s else s ++ [x]
def withoutL (L : Img) (k : ByteArray) : Img := L.foldl (withoutStep k) []
theorem withoutL_take (k : ByteArray) (L : Img) (j : Nat) (h : j < L.length) : withoutL (L.take (j + 1)) k = withoutStep k (withoutL (L.take j) k) L[j] := by
  unfold withoutL
  rw [List.take_succ_eq_append_getElem h, List.foldl_append]
  rfl
theorem withoutL_len (k : ByteArray) (L : Img) (j : Nat) (h : j ≤ L.length) : (withoutL (L.take j) k).length ≤ j := by
  induction j with
  | zero => simp [withoutL]
  | succ j ih =>
    rw [withoutL_take k L j h]
    have h2 := ih (by omega)
    unfold withoutStep
    split
    · omega
    · simp; omega
theorem area_one (k : ByteArray) (xo : Option Addr) (xm xc : Nat) (sf : Int) : ∀ u ∈ [Value.string k, .slice xo xm xc, .int .i64 sf], u.oneCell' = true := by
  intro u hu
  simp at hu
  rcases hu with rfl | rfl | rfl <;> rfl

/-- Between two areas of With. -/
structure WR (P : Nat → Prop) (z n : Nat) (wB : World) (S : Nat → Img × Bool) (v o d : Value) (wr : World) : Prop where
  ex : ∃ (j : Nat) (ao : Option Addr) (cap : Nat), v = .int .i64 (j : Int) ∧ j ≤ n ∧ o = .slice ao (S j).1.length cap ∧ d = .bool (S j).2 ∧ RG P z wr ao (S j).1.length cap (S j).1 ∧ Kp (fun i => z ≤ i) wB wr
/-- Behind the first half of one. -/
structure WM (P : Nat → Prop) (z : Nat) (wr : World) (M : Img) (dn : Bool) (o d : Value) (wx : World) : Prop where
  ex : ∃ (ao : Option Addr) (cap : Nat), o = .slice ao M.length cap ∧ d = .bool dn ∧ RG P z wx ao M.length cap M ∧ Kp (fun i => z ≤ i) wr wx
theorem alloc_size (w : World) (o : Obj) : (w.alloc o).heap.size = w.heap.size + 1 := by simp
def ifW (q : Bool) (M : Img) (dn : Bool) (a : ByteArray × AreaP) : Img × Bool := if q = true then (M ++ [a], true) else (M, dn)
def ifX (S : Img × Bool) (x : ByteArray × AreaP) (k : ByteArray) : Img × Bool := if x.1 = k then S else (S.1 ++ [x], S.2)

set_option maxHeartbeats 2000000 in
set_option maxRecDepth 100000 in
theorem with_any (P : Nat → Prop) (ao : Option Addr) (n cap : Nat) (L : Img) (k : ByteArray) (xo : Option Addr) (xm xc : Nat) (d : List UInt8) (sf : Int) (w : World) (h : RA P w ao n cap L) (hd : DataP P w xo xm xc d) (hP : ∀ j, w.heap.size ≤ j → P j) (hn : n ≤ 1048576) :
    Calls Tryz.prog 25 #[.slice ao n cap, .agg #[.string k, .slice xo xm xc, .int .i64 sf]] w fun e w' => ∃ ao' cap', e = .returned (.slice ao' (withL L (k, ⟨d, sf⟩)).length cap') ∧ RA P w' ao' (withL L (k, ⟨d, sf⟩)).length cap' (withL L (k, ⟨d, sf⟩)) ∧ Kp Noone w w' := by
  obtain ⟨i0, hi, hz0, hz1, hz2⟩ := info_parts info_area
  have hlen := h.len
  have hA := heap_alloc_new w (.cells #[.string k, .slice xo xm xc, .int .i64 sf] 67)
  have eA := alloc_size w (.cells #[.string k, .slice xo xm xc, .int .i64 sf] 67)
  have kB : Kp Noone w ((w.alloc (.cells #[.string k, .slice xo xm xc, .int .i64 sf] 67)).alloc (.cells #[] 67)) := ((Kp.refl _ _).alloc _).alloc _
  have hB := ((Kp.refl Noone (w.alloc (.cells #[.string k, .slice xo xm xc, .int .i64 sf] 67))).alloc (.cells #[] 67)).heap hA id
  have hsB := alloc_size (w.alloc (.cells #[.string k, .slice xo xm xc, .int .i64 sf] 67)) (.cells #[] 67)
  rw [eA] at hsB
  have hG0 : RG (fun j => P j ∧ j < w.heap.size) (w.heap.size + 1) ((w.alloc (.cells #[.string k, .slice xo xm xc, .int .i64 sf] 67)).alloc (.cells #[] 67)) (some ⟨w.heap.size + 1, 0, none⟩) 0 0 [] := by
    rw [← eA]
    exact RG.fresh (Nat.le_refl _) _ rfl
  have HL := Lib.hid h
  have HD := Lib.hid (hd.mono (Q := fun j => P j ∧ j < w.heap.size) (fun i hi c => ⟨c, hi⟩))
  have HP := Lib.hid hP
  have R0 : Hid (WR (fun j => P j ∧ j < w.heap.size) (w.heap.size + 1) n _ (fun j => withS (k, ⟨d, sf⟩) (L.take j)) (.int .i64 0) (.slice (some ⟨w.heap.size + 1, 0, none⟩) 0 0) (.bool false) _) := Lib.hid ⟨⟨0, some ⟨w.heap.size + 1, 0, none⟩, 0, by rfl, Nat.zero_le _, rfl, rfl, hG0, Kp.refl _ _⟩⟩
  have HKB := Lib.hid kB
  obtain ⟨RES, hRES⟩ : ∃ x, Hid (withL L (k, ⟨d, sf⟩) = x) := ⟨_, Lib.hid rfl⟩
  rw [hRES.out]
  clear h hd hP hA hG0 kB eA
  go_enter Tryz.func25, Tryz.ntmps25
  go_upto_region 3 with fail
  generalize (w.alloc (.cells #[.string k, .slice xo xm xc, .int .i64 sf] 67)).alloc (.cells #[] 67) = wB at *
  go_wp2_with fail
  go_loopw [11, 5, 6] (fun v o dv wr => WR (fun j => P j ∧ j < w.heap.size) (w.heap.size + 1) n wB (fun j => withS (k, ⟨d, sf⟩) (L.take j)) v o dv wr) (fun v _ _ _ => n - (intOf v).toNat)
  case atStart => exact R0.out
  case round =>
    clear R0
    obtain ⟨j, ao1, cap1, rfl, hj, rfl, rfl, hG, kr⟩ := hrel.ex
    have hS1 := withS_len (k, ⟨d, sf⟩) L j (by omega)
    have kwr : Kp Noone w wr := HKB.out.fin kr (fun i c => Or.inr (by omega))
    have hbox := kr.heap hB (by omega)
    obtain ⟨z0, z1, z2, -⟩ := cells_three hbox
    have hszr := kr.size
    by_cases hlt : j < n
    · have hjl : j < L.length := by omega
      have hst : Hid (withS (k, ⟨d, sf⟩) (L.take (j + 1)) = withStep (k, ⟨d, sf⟩) (withS (k, ⟨d, sf⟩) (L.take j)) L[j]) := Lib.hid (withS_take _ L j hjl)
      obtain ⟨b, off, bo, m, c, rfl, hbl, hPb, c0, c1, c2, hda⟩ := HL.out.get j hjl
      have c0 := kwr.cell c0 id
      have c1 := kwr.cell c1 id
      have c2 := kwr.cell c2 id
      have hwj : IntKind.i64.wrap ((j : Int) + 1) = (j : Int) + 1 := IntWalk.i64_in _ (by omega)
      have hda0 := (hda.mono (Q := fun j => P j ∧ j < w.heap.size) (fun i hi c => ⟨c, hi⟩)).keep kwr
      have hdk := HD.out.keep kwr
      generalize L[j] = x at *
      obtain ⟨nm, xd, xs⟩ := x
      try simp only [] at c0 c1 c2 hda0
      try simp only [] at hG hS1
      generalize withS (k, ⟨d, sf⟩) (L.take j) = S at *
      obtain ⟨M, dn⟩ := S
      try simp only [] at hG hS1
      have hst2 : Hid (withS (k, ⟨d, sf⟩) (L.take (j + 1)) = withStep (k, ⟨d, sf⟩) (M, dn) (nm, ⟨xd, xs⟩)) := hst
      have HG := Lib.hid hG
      have HKR := Lib.hid kr
      have HDA := Lib.hid hda0
      have HDK := Lib.hid hdk
      clear hG hst hda hda0 kr kwr hdk
      generalize hls : Op.bytesLess nm.toList k.toList = ls at *
      have HLS := Lib.hid hls
      clear hls
      go_upto_region 6 with fail
      go_cut [25] from 12 to 25 (fun v wx => v = .bool (!dn && !ls) ∧ Kp Noone wr wx)
      case first =>
        have hls := HLS.out
        cases dn with
        | true =>
          go_quiet (fail)
          go_wp2_with fail
          go_meet
          case rel => exact ⟨rfl, (Kp.refl _ _).drewN _⟩
        | false =>
          go_quiet (fail)
          go_wp2_with fail
          go_meet
          case rel => exact ⟨by first | rfl | (rw [hls]; rfl) | (cases ls <;> simp_all), (Kp.refl _ _).drewN _⟩
      case rest =>
      obtain ⟨rfl, kx⟩ := hcut
      have hboxC := kx.heap hbox id
      have d0 := kx.cell c0 id
      have d1 := kx.cell c1 id
      have d2 := kx.cell c2 id
      have HKC := Lib.hid (HKR.out.trans kx.none)
      have HGC := Lib.hid (HG.out.keep kx)
      have HDX := Lib.hid (HDK.out.keep kx)
      have HDY := Lib.hid (HDA.out.keep kx)
      have hszc : w.heap.size + 2 ≤ wc.heap.size := by have := kx.size; omega
      clear z0 z1 z2 c0 c1 c2 kx hbox HKR HG HDA HDK
      obtain ⟨z0, z1, z2, -⟩ := cells_three hboxC
      generalize hq : (!dn && !ls) = q at *
      have HST : Hid (withS (k, ⟨d, sf⟩) (L.take (j + 1)) = ifX (ifW q M dn (k, ⟨d, sf⟩)) (nm, ⟨xd, xs⟩) k) := Lib.hid (by
        rw [hst2.out]
        unfold withStep ifX ifW
        simp only []
        rw [HLS.out, hq])
      clear hst2 HLS hq
      go_upto_if 25 with fail
      go_cut [5, 6] from 12 to 45 (fun o dv wx => WM (fun j => P j ∧ j < w.heap.size) (w.heap.size + 1) wc (ifW q M dn (k, ⟨d, sf⟩)).1 (ifW q M dn (k, ⟨d, sf⟩)).2 o dv wx)
      case first =>
        cases q with
        | true =>
          obtain ⟨A, hs, hg⟩ := HGC.out
          have k6 : Kp Noone wc (wc.alloc (.cells #[.string k, .slice xo xm xc, .int .i64 sf] 67)) := (Kp.refl _ _).alloc _
          have hown := hg.own.keep k6
          go_wp2_with (at_builtin; refine wpList_append_gen _ rfl (.tmp 26) (.tmp 28) 22 rfl 67 i0 (.agg #[.string ByteArray.empty, .slice none 0 0, .int .i64 0]) 3 48 Tryz.underlying22 hi hz0 hz1 hz2 rfl ao1 M.length cap1 rfl (some ⟨wc.heap.size, 0, none⟩) 1 1 rfl _ _ hown [.string k, .slice xo xm xc, .int .i64 sf] rfl (Row.ofHeap (heap_alloc_new wc _)) (area_one _ _ _ _ _) (by omega) (by unfold maxLen; omega) ?_)
          intro ao' cap' w7 ho7 k7
          have R := hg.snoc (w6 := wc.alloc (.cells #[.string k, .slice xo xm xc, .int .i64 sf] 67)) (k := k) (d := d) (sf := sf) (xo := xo) (xm := xm) (xc := xc) (by have := k6.size; omega) k6 ho7 k7 ((HDX.out.keep k6).mono (fun i hi c => ⟨c, fun e => by have := (hg.base i e).1; omega⟩))
          have K : Kp (fun i => w.heap.size + 1 ≤ i) wc w7 := (k6.none).trans (k7.mono (fun i _ c => (hg.base i c).1))
          have HR := Lib.hid R
          have HK := Lib.hid K
          clear R K k6 k7 ho7 hown hg
          go_wp2_with fail
          go_meet
          case rel => exact ⟨⟨ao', cap', by simp [ifW], rfl, by simpa [ifW] using HR.out, HK.out⟩⟩
        | false =>
          go_wp2_with fail
          go_meet
          case rel => exact ⟨⟨ao1, cap1, rfl, rfl, HGC.out, Kp.refl _ _⟩⟩
      case rest =>
      obtain ⟨ao2, cap2, rfl, rfl, hG2, kx2⟩ := hcut.ex
      have hbox2 := kx2.heap hboxC (fun c => by have h : w.heap.size + 1 ≤ w.heap.size := c; omega)
      have hnb : ¬ (w.heap.size + 1 ≤ b) := by omega
      have d0 := kx2.cell d0 hnb
      have d1 := kx2.cell d1 hnb
      have d2 := kx2.cell d2 hnb
      have HK2 := Lib.hid (HKC.out.trans kx2)
      have kwx := (HKB.out.fin HKC.out (fun i c => Or.inr (by omega))).fin kx2 (fun i c => Or.inr (by omega))
      have HDY2 := Lib.hid (HDY.out.kp kx2 (fun i _ c e => by have := c.2; omega))
      have hsz2 := Nat.le_trans hszc kx2.size
      have hS2 : (ifW q M dn (k, ⟨d, sf⟩)).1.length ≤ M.length + 1 := by unfold ifW; split <;> simp
      have HG2 := Lib.hid hG2
      clear z0 z1 z2 hboxC HKC HGC HDX HDY kx2 hG2 hcut kwx
      have HST2 : Hid (withS (k, ⟨d, sf⟩) (L.take (j + 1)) = ifX ((ifW q M dn (k, ⟨d, sf⟩)).1, (ifW q M dn (k, ⟨d, sf⟩)).2) (nm, ⟨xd, xs⟩) k) := HST
      clear HST
      generalize (ifW q M dn (k, ⟨d, sf⟩)).1 = M2 at *
      generalize (ifW q M dn (k, ⟨d, sf⟩)).2 = dn2 at *
      obtain ⟨z0, z1, z2, -⟩ := cells_three hbox2
      by_cases he : nm = k
      · subst he
        have R : Hid (∀ w', Kp Noone wc w' → WR (fun j => P j ∧ j < w.heap.size) (w.heap.size + 1) n wB (fun j => withS (nm, ⟨d, sf⟩) (L.take j)) (.int .i64 ((j + 1 : Nat) : Int)) (.slice ao2 M2.length cap2) (.bool dn2) w') := Lib.hid (fun w' k' => by
          have e := HST2.out
          unfold ifX at e
          rw [if_pos rfl] at e
          refine ⟨⟨j + 1, ao2, cap2, rfl, by omega, by rw [e], by rw [e], ?_, HK2.out.trans k'.none⟩⟩
          show RG _ _ w' ao2 (withS (nm, ⟨d, sf⟩) (L.take (j + 1))).1.length cap2 (withS (nm, ⟨d, sf⟩) (L.take (j + 1))).1
          rw [e]
          exact HG2.out.keep k')
        clear HG2 HK2 HST2
        go_upto_region 9 with fail
        go_quiet (fail)
        go_wp2_with fail
        go_roundw
        case rel => exact R.out _ ((Kp.refl _ _).drewN _)
        case measure => simp [intOf]; omega
      · have hne := (ba_ne he).2.2.1
        go_upto_region 9 with fail
        go_quiet (fail)
        have kq : Kp Noone wc (wc.drewN nq) := (Kp.refl _ _).drewN _
        have f0 := kq.cell d0 id
        have f1 := kq.cell d1 id
        have f2 := kq.cell d2 id
        obtain ⟨A, hs, hg⟩ := HG2.out
        have k6 : Kp Noone wc ((wc.drewN nq).alloc (.cells #[.string nm, .slice bo m c, .int .i64 xs] 67)) := kq.alloc _
        have hown := hg.own.keep k6
        clear z0 z1 z2 d0 d1 d2 kq
        go_wp2_with (at_builtin; refine wpList_append_gen _ rfl (.tmp 38) (.tmp 43) 22 rfl 67 i0 (.agg #[.string ByteArray.empty, .slice none 0 0, .int .i64 0]) 3 48 Tryz.underlying22 hi hz0 hz1 hz2 rfl ao2 M2.length cap2 rfl (some ⟨(wc.drewN nq).heap.size, 0, none⟩) 1 1 rfl _ _ hown [.string nm, .slice bo m c, .int .i64 xs] rfl (Row.ofHeap (heap_alloc_new (wc.drewN nq) _)) (area_one _ _ _ _ _) (by omega) (by unfold maxLen; omega) ?_)
        intro ao' cap' w7 ho7 k7
        have R7 := hg.snoc (w6 := (wc.drewN nq).alloc (.cells #[.string nm, .slice bo m c, .int .i64 xs] 67)) (k := nm) (d := xd) (sf := xs) (xo := bo) (xm := m) (xc := c) (by have := k6.size; omega) k6 ho7 k7 ((HDY2.out.keep k6).mono (fun i hi c => ⟨c, fun e => by have h1 := (hg.base i e).1; have h2 := c.2; omega⟩))
        have K7 : Kp (fun i => w.heap.size + 1 ≤ i) wc w7 := (k6.none).trans (k7.mono (fun i _ c => (hg.base i c).1))
        have R : Hid (WR (fun j => P j ∧ j < w.heap.size) (w.heap.size + 1) n wB (fun j => withS (k, ⟨d, sf⟩) (L.take j)) (.int .i64 ((j + 1 : Nat) : Int)) (.slice ao' (M2.length + 1) cap') (.bool dn2) w7) := Lib.hid (by
          have e := HST2.out
          unfold ifX at e
          rw [if_neg he] at e
          refine ⟨⟨j + 1, ao', cap', rfl, by omega, by rw [e]; simp, by rw [e], ?_, HK2.out.trans K7⟩⟩
          show RG _ _ w7 ao' (withS (k, ⟨d, sf⟩) (L.take (j + 1))).1.length cap' (withS (k, ⟨d, sf⟩) (L.take (j + 1))).1
          rw [e]
          simpa using R7)
        clear R7 K7 k6 k7 ho7 hown hg HG2 HK2 HST2
        go_wp2_with fail
        go_roundw
        case rel => exact R.out
        case measure => simp [intOf]; omega
    · have he : L.take j = L := List.take_of_length_le (by omega)
      rw [he] at hG hS1 ⊢
      have HR2 : Hid (RES = if (withS (k, ⟨d, sf⟩) L).2 = true then (withS (k, ⟨d, sf⟩) L).1 else (withS (k, ⟨d, sf⟩) L).1 ++ [(k, ⟨d, sf⟩)]) := Lib.hid hRES.out.symm
      generalize (withS (k, ⟨d, sf⟩) L).1 = M at *
      generalize (withS (k, ⟨d, sf⟩) L).2 = dn at *
      have HQP := HP.out
      cases dn with
      | true =>
        have hr := HR2.out
        rw [if_pos rfl] at hr
        have R : Hid (RA P wr ao1 M.length cap1 M) := Lib.hid (hG.ra (fun i h1 _ => HQP i (by omega)) (fun i _ c => c.1))
        have HK := Lib.hid kwr
        clear hG kr kwr HQP HR2 hRES
        go_wp2_with fail
        go_ret
        subst hr
        exact ⟨ao1, cap1, rfl, R.out, HK.out⟩
      | false =>
        have hr := HR2.out
        rw [if_neg (by simp)] at hr
        obtain ⟨A, hs, hg⟩ := hG
        have hdk := HD.out.keep kwr
        have k6 : Kp Noone wr (wr.alloc (.cells #[.string k, .slice xo xm xc, .int .i64 sf] 67)) := (Kp.refl _ _).alloc _
        have hown := hg.own.keep k6
        go_wp2_with (at_builtin; refine wpList_append_gen _ rfl (.tmp 48) (.tmp 50) 22 rfl 67 i0 (.agg #[.string ByteArray.empty, .slice none 0 0, .int .i64 0]) 3 48 Tryz.underlying22 hi hz0 hz1 hz2 rfl ao1 M.length cap1 rfl (some ⟨wr.heap.size, 0, none⟩) 1 1 rfl _ _ hown [.string k, .slice xo xm xc, .int .i64 sf] rfl (Row.ofHeap (heap_alloc_new wr _)) (area_one _ _ _ _ _) (by omega) (by unfold maxLen; omega) ?_)
        intro ao' cap' w7 ho7 k7
        have R7 := hg.snoc (w6 := wr.alloc (.cells #[.string k, .slice xo xm xc, .int .i64 sf] 67)) (k := k) (d := d) (sf := sf) (xo := xo) (xm := xm) (xc := xc) (by have := k6.size; omega) k6 ho7 k7 ((hdk.keep k6).mono (fun i hi c => ⟨c, fun e => by have h1 := (hg.base i e).1; have h2 := c.2; omega⟩))
        have R : Hid (RA P w7 ao' (M.length + 1) cap' (M ++ [(k, ⟨d, sf⟩)])) := Lib.hid (R7.ra (fun i h1 _ => HQP i (by omega)) (fun i _ c => c.1))
        have HK : Hid (Kp Noone w w7) := Lib.hid ((kwr.trans k6).fin k7 (fun i c => Or.inr (by have := (hg.base i c).1; omega)))
        clear R7 k6 k7 ho7 hown hg kr kwr HQP HR2 hRES hdk
        go_wp2_with fail
        go_ret
        subst hr
        exact ⟨ao', cap', by simp, by simpa using R.out, HK.out⟩

end Go.Proofs.YtigdhdclfdojgaaGreat

/-
  THE WALKS of the document's Without and Copy.
-/
namespace Go.Proofs.YtigdhdclfdojgaaGreat
open Go.RowKit

/-- Between two areas of a list that is made anew. -/
structure OR (P : Nat → Prop) (z n : Nat) (wB : World) (S : Nat → Img) (v o : Value) (wr : World) : Prop where
  ex : ∃ (j : Nat) (ao : Option Addr) (cap : Nat), v = .int .i64 (j : Int) ∧ j ≤ n ∧ o = .slice ao (S j).length cap ∧ RG P z wr ao (S j).length cap (S j) ∧ Kp (fun i => z ≤ i) wB wr

set_option maxHeartbeats 2000000 in
set_option maxRecDepth 100000 in
theorem without_any (P : Nat → Prop) (ao : Option Addr) (n cap : Nat) (L : Img) (k : ByteArray) (w : World) (h : RA P w ao n cap L) (hP : ∀ j, w.heap.size ≤ j → P j) (hn : n ≤ 1048576) :
    Calls Tryz.prog 62 #[.slice ao n cap, .string k] w fun e w' => ∃ ao' cap', e = .returned (.slice ao' (withoutL L k).length cap') ∧ RA P w' ao' (withoutL L k).length cap' (withoutL L k) ∧ Kp Noone w w' := by
  obtain ⟨i0, hi, hz0, hz1, hz2⟩ := info_parts info_area
  have hlen := h.len
  have kB : Kp Noone w (w.alloc (.cells #[] 67)) := (Kp.refl _ _).alloc _
  have hG0 : RG (fun j => P j ∧ j < w.heap.size) w.heap.size (w.alloc (.cells #[] 67)) (some ⟨w.heap.size, 0, none⟩) 0 0 [] := RG.fresh (Nat.le_refl _) _ rfl
  have hsB := alloc_size w (.cells #[] 67)
  have HL := Lib.hid h
  have HP := Lib.hid hP
  have R0 : Hid (OR (fun j => P j ∧ j < w.heap.size) w.heap.size n _ (fun j => withoutL (L.take j) k) (.int .i64 0) (.slice (some ⟨w.heap.size, 0, none⟩) 0 0) _) := Lib.hid ⟨⟨0, some ⟨w.heap.size, 0, none⟩, 0, by rfl, Nat.zero_le _, rfl, hG0, Kp.refl _ _⟩⟩
  have HKB := Lib.hid kB
  obtain ⟨RES, hRES⟩ : ∃ x, Hid (withoutL L k = x) := ⟨_, Lib.hid rfl⟩
  rw [hRES.out]
  clear h hP hG0 kB
  go_enter Tryz.func62, Tryz.ntmps62
  go_upto_region 2 with fail
  generalize w.alloc (.cells #[] 67) = wB at *
  go_wp2_with fail
  go_loopw [10, 5] (fun v o wr => OR (fun j => P j ∧ j < w.heap.size) w.heap.size n wB (fun j => withoutL (L.take j) k) v o wr) (fun v _ _ => n - (intOf v).toNat)
  case atStart => exact R0.out
  case round =>
    clear R0
    obtain ⟨j, ao1, cap1, rfl, hj, rfl, hG, kr⟩ := hrel.ex
    have hS1 := withoutL_len k L j (by omega)
    have kwr : Kp Noone w wr := HKB.out.fin kr (fun i c => Or.inr (by omega))
    have hszr := kr.size
    by_cases hlt : j < n
    · have hjl : j < L.length := by omega
      have hst : Hid (withoutL (L.take (j + 1)) k = withoutStep k (withoutL (L.take j) k) L[j]) := Lib.hid (withoutL_take _ L j hjl)
      obtain ⟨b, off, bo, m, c, rfl, hbl, hPb, c0, c1, c2, hda⟩ := HL.out.get j hjl
      have c0 := kwr.cell c0 id
      have c1 := kwr.cell c1 id
      have c2 := kwr.cell c2 id
      have hwj : IntKind.i64.wrap ((j : Int) + 1) = (j : Int) + 1 := IntWalk.i64_in _ (by omega)
      have hda0 := (hda.mono (Q := fun j => P j ∧ j < w.heap.size) (fun i hi c => ⟨c, hi⟩)).keep kwr
      generalize L[j] = x at *
      obtain ⟨nm, xd, xs⟩ := x
      try simp only [] at c0 c1 c2 hda0
      try simp only [] at hG hS1
      generalize withoutL (L.take j) k = M at *
      have hst2 : Hid (withoutL (L.take (j + 1)) k = withoutStep k M (nm, ⟨xd, xs⟩)) := hst
      have HG := Lib.hid hG
      have HKR := Lib.hid kr
      have HDA := Lib.hid hda0
      clear hG hst hda hda0 kr kwr
      by_cases he : nm = k
      · subst he
        have R : Hid (OR (fun j => P j ∧ j < w.heap.size) w.heap.size n wB (fun j => withoutL (L.take j) nm) (.int .i64 ((j + 1 : Nat) : Int)) (.slice ao1 M.length cap1) wr) := Lib.hid (by
          have e := hst2.out
          unfold withoutStep at e
          rw [if_pos rfl] at e
          refine ⟨⟨j + 1, ao1, cap1, rfl, by omega, by rw [e], ?_, HKR.out⟩⟩
          show RG _ _ wr ao1 (withoutL (L.take (j + 1)) nm).length cap1 (withoutL (L.take (j + 1)) nm)
          rw [e]
          exact HG.out)
        clear HG HKR hst2
        go_wp2_with fail
        go_roundw
        case rel => exact R.out
        case measure => simp [intOf]; omega
      · have hne := (ba_ne he).2.2.1
        obtain ⟨A, hs, hg⟩ := HG.out
        have k6 : Kp Noone wr (wr.alloc (.cells #[.string nm, .slice bo m c, .int .i64 xs] 67)) := (Kp.refl _ _).alloc _
        have hown := hg.own.keep k6
        go_wp2_with (at_builtin; refine wpList_append_gen _ rfl (.tmp 20) (.tmp 25) 22 rfl 67 i0 (.agg #[.string ByteArray.empty, .slice none 0 0, .int .i64 0]) 3 48 Tryz.underlying22 hi hz0 hz1 hz2 rfl ao1 M.length cap1 rfl (some ⟨wr.heap.size, 0, none⟩) 1 1 rfl _ _ hown [.string nm, .slice bo m c, .int .i64 xs] rfl (Row.ofHeap (heap_alloc_new wr _)) (area_one _ _ _ _ _) (by omega) (by unfold maxLen; omega) ?_)
        intro ao' cap' w7 ho7 k7
        have R7 := hg.snoc (w6 := wr.alloc (.cells #[.string nm, .slice bo m c, .int .i64 xs] 67)) (k := nm) (d := xd) (sf := xs) (xo := bo) (xm := m) (xc := c) (by have := k6.size; omega) k6 ho7 k7 ((HDA.out.keep k6).mono (fun i hi c => ⟨c, fun e => by have h1 := (hg.base i e).1; have h2 := c.2; omega⟩))
        have K7 : Kp (fun i => w.heap.size ≤ i) wr w7 := (k6.none).trans (k7.mono (fun i _ c => (hg.base i c).1))
        have R : Hid (OR (fun j => P j ∧ j < w.heap.size) w.heap.size n wB (fun j => withoutL (L.take j) k) (.int .i64 ((j + 1 : Nat) : Int)) (.slice ao' (M.length + 1) cap') w7) := Lib.hid (by
          have e := hst2.out
          unfold withoutStep at e
          rw [if_neg he] at e
          refine ⟨⟨j + 1, ao', cap', rfl, by omega, by rw [e]; simp, ?_, HKR.out.trans K7⟩⟩
          show RG _ _ w7 ao' (withoutL (L.take (j + 1)) k).length cap' (withoutL (L.take (j + 1)) k)
          rw [e]
          simpa using R7)
        clear R7 K7 k6 k7 ho7 hown hg HG HKR hst2 HDA
        go_wp2_with fail
        go_roundw
        case rel => exact R.out
        case measure => simp [intOf]; omega
    · have he : L.take j = L := List.take_of_length_le (by omega)
      rw [he] at hG hS1 ⊢
      have HQP := HP.out
      have hr := hRES.out
      rw [hr] at hG hS1 ⊢
      have R : Hid (RA P wr ao1 RES.length cap1 RES) := Lib.hid (hG.ra (fun i h1 _ => HQP i (by omega)) (fun i _ c => c.1))
      have HK := Lib.hid kwr
      clear hG kr kwr HQP hRES hr
      go_wp2_with fail
      go_ret
      exact ⟨ao1, cap1, rfl, R.out, HK.out⟩

set_option maxHeartbeats 2000000 in
set_option maxRecDepth 100000 in
theorem copyR_any (P : Nat → Prop) (ao : Option Addr) (n cap : Nat) (L : Img) (w : World) (h : RA P w ao n cap L) (hP : ∀ j, w.heap.size ≤ j → P j) (hn : n ≤ 1048576) (hd : ∀ x ∈ L, x.2.data.length ≤ 281474976710656) :
    Calls Tryz.prog 7 #[.slice ao n cap] w fun e w' => ∃ ao' cap', e = .returned (.slice ao' L.length cap') ∧ RA P w' ao' L.length cap' L ∧ Kp Noone w w' := by
  obtain ⟨i0, hi, hz0, hz1, hz2⟩ := info_parts info_area
  have hlen := h.len
  have kB : Kp Noone w (w.alloc (.cells #[] 67)) := (Kp.refl _ _).alloc _
  have hG0 : RG P w.heap.size (w.alloc (.cells #[] 67)) (some ⟨w.heap.size, 0, none⟩) 0 0 [] := RG.fresh (Nat.le_refl _) _ rfl
  have hsB := alloc_size w (.cells #[] 67)
  have HL := Lib.hid h
  have HP := Lib.hid hP
  have HD := Lib.hid hd
  have R0 : Hid (OR P w.heap.size n _ (fun j => L.take j) (.int .i64 0) (.slice (some ⟨w.heap.size, 0, none⟩) 0 0) _) := Lib.hid ⟨⟨0, some ⟨w.heap.size, 0, none⟩, 0, by rfl, Nat.zero_le _, rfl, hG0, Kp.refl _ _⟩⟩
  have HKB := Lib.hid kB
  clear h hP hG0 kB hd
  go_enter Tryz.func7, Tryz.ntmps7
  go_upto_region 2 with fail
  generalize w.alloc (.cells #[] 67) = wB at *
  go_wp2_with fail
  go_loopw [8, 3] (fun v o wr => OR P w.heap.size n wB (fun j => L.take j) v o wr) (fun v _ _ => n - (intOf v).toNat)
  case atStart => exact R0.out
  case round =>
    clear R0
    obtain ⟨j, ao1, cap1, rfl, hj, rfl, hG, kr⟩ := hrel.ex
    have hS1 : (L.take j).length = j := by rw [List.length_take]; omega
    have kwr : Kp Noone w wr := HKB.out.fin kr (fun i c => Or.inr (by omega))
    have hszr := kr.size
    by_cases hlt : j < n
    · have hjl : j < L.length := by omega
      have hst : Hid (L.take (j + 1) = L.take j ++ [L[j]]) := Lib.hid (List.take_succ_eq_append_getElem hjl)
      obtain ⟨b, off, bo, m, c, rfl, hbl, hPb, c0, c1, c2, hda⟩ := HL.out.get j hjl
      have hwj : IntKind.i64.wrap ((j : Int) + 1) = (j : Int) + 1 := IntWalk.i64_in _ (by omega)
      have hxl := HD.out _ (List.getElem_mem hjl)
      have hda0 := (hda.keep kwr).1
      have hcs : ∀ w', Kp (fun i => w.heap.size ≤ i) wr w' → w'.cell? ⟨b, off + j * 3, none⟩ = some (.string L[j].1) ∧ w'.cell? ⟨b, off + j * 3 + 1, none⟩ = some (.slice bo m c) ∧ w'.cell? ⟨b, off + j * 3 + 2, none⟩ = some (.int .i64 L[j].2.safe) := fun w' kk => by
        have hnb : ¬ (w.heap.size ≤ b) := by omega
        exact ⟨kk.cell (kwr.cell c0 id) hnb, kk.cell (kwr.cell c1 id) hnb, kk.cell (kwr.cell c2 id) hnb⟩
      generalize L[j] = x at *
      obtain ⟨nm, xd, xs⟩ := x
      try simp only [] at hcs hda0 hxl
      try simp only [] at hG hS1
      have hxm := hda0.len
      generalize L.take j = M at *
      rw [hS1] at hG
      have HG := Lib.hid hG
      have HKR := Lib.hid kr
      have HDA := Lib.hid hda0
      clear hG hda hda0 kr kwr c0 c1 c2
      have c0 := (hcs wr (Kp.refl _ _)).1
      go_upto_region 5 with fail
      clear c0
      obtain ⟨A, hs, hg⟩ := HG.out
      have HGG := Lib.hid hg
      have hK0 : Kp (fun i => w.heap.size ≤ i) wr wr.drew := (Kp.refl _ _).drew
      go_region_held3 (fun w' => w'.cell? ⟨b, off + j * 3, none⟩ = some (.string nm) ∧ w'.cell? ⟨b, off + j * 3 + 1, none⟩ = some (.slice bo m c) ∧ w'.cell? ⟨b, off + j * 3 + 2, none⟩ = some (.int .i64 xs))
        (first | exact hcs _ hK0 | exact hcs _ hK1 | exact hcs _ (hK1.alloc _) | exact hcs _ hK7 | assumption)
        (first
          | (go_at_call 26; refine (copy_exact bo m c xd _ (HDA.out.keep (Kp.refl Noone wr).drew) (by omega)).mono ?_; rintro e w' ⟨rfl, hw'⟩; obtain ⟨hbc, kw⟩ := copied2 hw' hxm (by unfold maxLen; omega); have hcp := (congrArg (fun x => x.heap[wr.heap.size]?) hw').trans (heap_alloc_new wr.drew _); clear hw'; have hK1 : Kp (fun i => w.heap.size ≤ i) wr w' := hK0.trans kw.none)
          | (refine step_append_gen rfl (.tmp 11) (.tmp 29) 22 (by dsimp only) 67 i0 (.agg #[.string ByteArray.empty, .slice none 0 0, .int .i64 0]) 3 48 Tryz.underlying22 hi hz0 hz1 hz2 rfl ao1 j cap1 (by rfl) (some ⟨w'.heap.size, 0, none⟩) 1 1 (by rfl) _ _ (HGG.out.own.keep ((((Kp.refl Noone wr).drew).trans kw).alloc _)) [.string nm, .slice (some ⟨wr.drew.heap.size, 0, none⟩) m m, .int .i64 xs] rfl (Row.ofHeap (heap_alloc_new w' _)) (area_one _ _ _ _ _) (by omega) (by unfold maxLen; omega) ?_; intro ao' cap' w7 ho7 k7; have hK7 : Kp (fun i => w.heap.size ≤ i) wr w7 := (hK1.alloc _).trans' k7 (fun i hi c => (HGG.out.base i c).1)))
      have k6 : Kp Noone wr (w'.alloc (.cells #[.string nm, .slice (some ⟨wr.drew.heap.size, 0, none⟩) m m, .int .i64 xs] 67)) := (((Kp.refl Noone wr).drew).trans kw).alloc _
      have hDN : DataP (fun i => P i ∧ ¬ A i) (w'.alloc (.cells #[.string nm, .slice (some ⟨wr.drew.heap.size, 0, none⟩) m m, .int .i64 xs] 67)) (some ⟨wr.drew.heap.size, 0, none⟩) m m xd := by
        have h1 := (Array.getElem?_eq_some_iff.1 hcp).1
        have h2 : DataP (fun i => i = wr.heap.size) w' (some ⟨wr.drew.heap.size, 0, none⟩) m m xd := ⟨hbc, fun _ a ha => by cases ha; exact ⟨rfl, h1⟩⟩
        exact (h2.keep ((Kp.refl _ _).alloc _)).mono (fun i _ c => by
          subst c
          exact ⟨HP.out _ (by omega), fun e => by have := (HGG.out.base _ e).2; omega⟩)
      have R7 := HGG.out.snoc (k := nm) (d := xd) (sf := xs) (by have := k6.size; omega) k6 ho7 k7 hDN
      have K7 : Kp (fun i => w.heap.size ≤ i) wr w7 := (k6.none).trans (k7.mono (fun i _ c => (HGG.out.base i c).1))
      have R : Hid (OR P w.heap.size n wB (fun j => L.take j) (.int .i64 ((j + 1 : Nat) : Int)) (.slice ao' (j + 1) cap') w7) := Lib.hid (by
        have e := hst.out
        refine ⟨⟨j + 1, ao', cap', rfl, by omega, by rw [e]; simp [hS1], ?_, HKR.out.trans K7⟩⟩
        show RG _ _ w7 ao' (L.take (j + 1)).length cap' (L.take (j + 1))
        rw [e, List.length_append, hS1]
        exact R7)
      clear R7 K7 k6 k7 ho7 HGG HG HKR hst HDA hDN hcs hcp hbc kw hK0 hK1 hK7
      go_wp2_with fail
      go_roundw
      case rel => exact R.out
      case measure => simp [intOf]; omega
    · have he : L.take j = L := List.take_of_length_le (by omega)
      rw [he] at hG hS1 ⊢
      have HQP := HP.out
      have R : Hid (RA P wr ao1 L.length cap1 L) := Lib.hid (hG.ra (fun i h1 _ => HQP i (by omega)) (fun i _ c => c))
      have HK := Lib.hid kwr
      clear hG kr kwr HQP
      go_wp2_with fail
      go_ret
      exact ⟨ao1, cap1, rfl, R.out, HK.out⟩

end Go.Proofs.YtigdhdclfdojgaaGreat

