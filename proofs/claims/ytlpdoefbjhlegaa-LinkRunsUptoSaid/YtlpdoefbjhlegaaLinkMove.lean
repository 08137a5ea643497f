/-
  Frames that lie somewhere; what came out; THE WALK of move.
-/
import Derived.Test.YtlpdoefbjhlegaaLinkOut
import Derived.Test.YtlpdoefbjhlegaaLinkPlain
namespace Go.Proofs.Ytlpdoefbjhlegaa
open Go.RowKit

/-- Frames in blocks of one kind. -/
def FrsP (P : Nat → Prop) (w : World) (fo : Option Addr) (n cap : Nat) (fs : List (List UInt8)) : Prop :=
  fs.length = n ∧ n ≤ cap ∧ cap ≤ maxLen ∧ ∃ hs : Hs, hs.length = n ∧ Row w fo (headsL hs) ∧ (n ≠ 0 → ∀ a, fo = some a → P a.block) ∧
    ∀ j (h1 : j < hs.length) (h2 : j < fs.length), DataAt P w hs[j] fs[j]

theorem FrsP.kp {P S : Nat → Prop} {w w' : World} {fo : Option Addr} {n cap : Nat} {fs : List (List UInt8)} (h : FrsP P w fo n cap fs) (k : Kp S w w') (hS : ∀ j, P j → ¬ S j) : FrsP P w' fo n cap fs := by
  obtain ⟨h1, h2, h3, hs, h4, h5, h6, h7⟩ := h
  refine ⟨h1, h2, h3, hs, h4, ?_, h6, fun j a b => (h7 j a b).kp k hS⟩
  by_cases h0 : n = 0
  · left
    rw [h0] at h4
    simp [headsL, List.eq_nil_of_length_eq_zero h4]
  · exact h5.kp k (fun a ha => hS _ (h6 h0 a ha))
theorem FrsP.mono {P Q : Nat → Prop} {w : World} {fo : Option Addr} {n cap : Nat} {fs : List (List UInt8)} (h : FrsP P w fo n cap fs) (hq : ∀ j, j < w.heap.size → P j → Q j) : FrsP Q w fo n cap fs := by
  obtain ⟨h1, h2, h3, hs, h4, h5, h6, h7⟩ := h
  refine ⟨h1, h2, h3, hs, h4, h5, fun h0 a ha => ?_, fun j a b => (h7 j a b).mono hq⟩
  obtain ⟨a', ha', hl⟩ := h5.lt (by intro c; have := congrArg List.length c; simp [headsL] at this; rw [this] at h4; simp at h4; omega)
  rw [ha] at ha'
  cases ha'
  exact hq _ hl (h6 h0 a ha)
theorem FrsAt.frsP {z : Nat} {w : World} {ao : Option Addr} {n cap : Nat} {fs : List (List UInt8)} (h : FrsAt z w ao n cap fs) : FrsP (fun k => z ≤ k) w ao n cap fs := by
  obtain ⟨hs, A, D, h1, h2, h3, h4, h5, h6, h7⟩ := h
  refine ⟨h4, h6.2.1, h6.2.2.1, hs, h5, h6.row, fun h0 a ha => ?_, fun j a b => (h7.at j a b).mono (fun i _ c => h2 i c)⟩
  rcases h6 with ⟨e1, e2, e3, e4⟩
  rcases e4 with rfl | ⟨g, off, cur, rfl, hg, e5⟩
  · omega
  · cases ha
    exact h1 _ hg
theorem FrsP.at {P : Nat → Prop} {w : World} {fo : Option Addr} {n cap : Nat} {fs : List (List UInt8)} (h : FrsP P w fo n cap fs) {k : Nat} (hk : k < n) :
    ∃ b off bo m c, ∃ hl : k < fs.length, fo = some ⟨b, off, none⟩ ∧ b < w.heap.size ∧ w.cell? ⟨b, off + k, none⟩ = some (.slice bo m c) ∧ BS w bo m c fs[k] := by
  obtain ⟨h1, h2, h3, hs, h4, h5, h6, h7⟩ := h
  exact BSS.at ⟨h1, h2, h3, hs, h4, h5, fun i a b => (h7 i a b).1⟩ hk
theorem FrsP.take {P : Nat → Prop} {w : World} {fo : Option Addr} {n cap : Nat} {fs : List (List UInt8)} (h : FrsP P w fo n cap fs) (k : Nat) (hk : k ≤ n) : FrsP P w fo k cap (fs.take k) := by
  obtain ⟨h1, h2, h3, hs, h4, h5, h6, h7⟩ := h
  refine ⟨by rw [List.length_take]; omega, by omega, h3, hs.take k, by rw [List.length_take]; omega, ?_, fun h0 a ha => h6 (by omega) a ha, fun j a b => ?_⟩
  · rcases h5 with h5 | ⟨b, off, rfl, hr⟩
    · left; simp [headsL] at h5 ⊢; simp [h5]
    · right
      refine ⟨b, off, rfl, fun i hi => ?_⟩
      have e : headsL (hs.take k) = (headsL hs).take k := by simp [headsL, List.map_take]
      simp only [e, List.length_take] at hi
      simp only [e, List.getElem_take]
      exact hr i (by omega)
  · rw [List.getElem_take, List.getElem_take]
    exact h7 j (by simp at a; omega) (by simp at b; omega)

/-- Messages that came out: the row in blocks of colour c, the bytes in blocks of colour c + 1. -/
def GotAt (col : Nat → Nat) (c : Nat) (w : World) (ao : Option Addr) (n cap : Nat) (ls : List (List UInt8)) : Prop :=
  ls.length = n ∧ ∃ hs : Hs, hs.length = n ∧ Own (Col col c) w 31 1 ao n cap (headsL hs) ∧ ∀ j (h1 : j < hs.length) (h2 : j < ls.length), DataAt (Col col (c + 1)) w hs[j] ls[j]

theorem GotAt.nil (col : Nat → Nat) (c : Nat) (w : World) (ao : Option Addr) : GotAt col c w ao 0 0 [] := ⟨rfl, [], rfl, Own.nil _ _ _ _ _, fun j h => by simp at h⟩
theorem GotAt.kp {B : Nat} {col col' : Nat → Nat} {c : Nat} {w w' : World} {S : Nat → Prop} {ao : Option Addr} {n cap : Nat} {ls : List (List UInt8)} (h : GotAt col c w ao n cap ls) (hc : Cols B w col) (hc0 : c ≠ 0) (k : Kp S w w') (hS : ∀ j, S j → col j ≠ c ∧ col j ≠ c + 1) (hold : ∀ j, j < w.heap.size → col' j = col j) : GotAt col' c w' ao n cap ls := by
  obtain ⟨h1, hs, h2, h3, h4⟩ := h
  have hm : ∀ (x : Nat), x ≠ 0 → ∀ (j : Nat), Col col x j → Col col' x j := fun x hx j hj => by
    have := (Col.lt hc hx hj).2
    unfold Col at *; rw [hold j this]; exact hj
  exact ⟨h1, hs, h2, (h3.kp k (fun j hj d => (hS j d).1 hj)).mono (fun j _ d => hm c hc0 j d), fun j a b => ((h4 j a b).kp k (fun i hi d => (hS i d).2 hi)).mono (fun i _ d => hm (c + 1) (by omega) i d)⟩

/-- One message more. -/
theorem GotAt.snoc {B : Nat} {col : Nat → Nat} {c : Nat} {w w3 : World} {ao ao' xo : Option Addr} {n cap cap' xc : Nat} {x : List UInt8} {ls : List (List UInt8)} {z : Nat} {o : Obj} (h : GotAt col c w ao n cap ls) (hc : Cols B w col) (_hB : B ≤ w.heap.size) (hBz : B ≤ z) (hzw : z ≤ w.heap.size) (hc0 : c ≠ 0)
    (hx : Own (fun k => z ≤ k ∧ col k = 0) w 5 1 xo x.length xc (bv x)) (hs : Hs) (hhs : hs.length = n) (hd : ∀ j (h1 : j < hs.length) (h2 : j < ls.length), DataAt (Col col (c + 1)) w hs[j] ls[j])
    (ho : Own (Ex (Col col c) (w.alloc o) w3) w3 31 1 ao' (n + 1) cap' (headsL hs ++ [.slice xo x.length xc])) (k3 : Kp (Col col c) (w.alloc o) w3) :
    ∃ col', GotAt col' c w3 ao' (n + 1) cap' (ls ++ [x]) ∧ Cols B w3 col' ∧ (∀ j, j < z → col' j = col j) ∧ (∀ j, col j ≠ 0 → col' j = col j) ∧ (∀ j, z ≤ j → col j = 0 → col' j ≠ 0 → col' j = c ∨ col' j = c + 1) := by
  have hln := h.1
  have kA : Kp Noone w (w.alloc o) := (Kp.refl _ _).alloc o
  have sA := kA.size
  have s3 := k3.size
  have e0 : ∀ j, w.heap.size ≤ j → col j = 0 := fun j hj => Classical.byContradiction fun d => by have := hc j d; omega
  let colx : Nat → Nat := fun j => if z ≤ j ∧ j < w.heap.size ∧ col j = 0 then c + 1 else if w.heap.size ≤ j ∧ (w.alloc o).heap.size ≤ j ∧ j < w3.heap.size then c else col j
  have hx1 : ∀ j, col j ≠ 0 → colx j = col j := fun j hj => by
    have := (hc j hj).2
    show (if _ then _ else if _ then _ else _) = _
    rw [if_neg (by omega), if_neg (by omega)]
  have hin : ∀ j, z ≤ j → j < w.heap.size → col j = 0 → colx j = c + 1 := fun j a b d => by show (if _ then _ else if _ then _ else _) = _; rw [if_pos ⟨a, b, d⟩]
  refine ⟨colx, ⟨by simp [hln], hs ++ [(xo, x.length, xc)], by simp [hhs], ?_, fun j h1 h2 => ?_⟩, ?_, ?_, hx1, ?_⟩
  · have e : headsL (hs ++ [(xo, x.length, xc)]) = headsL hs ++ [.slice xo x.length xc] := by simp [headsL]
    rw [e]
    refine ho.mono (fun j hj d => ?_)
    unfold Col at *
    rcases d with d | d
    · rw [hx1 j (by omega)]; exact d
    · show (if _ then _ else if _ then _ else _) = _
      rw [if_neg (by omega), if_pos ⟨by omega, d.1, d.2⟩]
  · by_cases hj : j < hs.length
    · have hj2 : j < ls.length := by omega
      rw [List.getElem_append_left hj, List.getElem_append_left hj2]
      have d1 := ((hd j hj hj2).kp kA (fun _ _ q => q)).kp k3 (fun a q d => by unfold Col at q d; omega)
      exact d1.mono (fun a _ q => by unfold Col at *; rw [hx1 a (by omega)]; exact q)
    · have ej : j = hs.length := by simp at h1; omega
      subst ej
      rw [List.getElem_append_right (by omega), List.getElem_append_right (by omega)]
      have e1 : hs.length - ls.length = 0 := by omega
      simp only [Nat.sub_self, e1, List.getElem_singleton]
      have hdx : DataAt (fun k => (z ≤ k ∧ col k = 0) ∧ k < w.heap.size) w (xo, x.length, xc) x := by
        refine ⟨hx.bs, fun hne a ha => ?_⟩
        rcases hx with ⟨f1, f2, f3, f4⟩
        rcases f4 with rfl | ⟨g, off, cur, rfl, hg, f5, -⟩
        · exfalso
          apply hne
          exact List.eq_nil_of_length_eq_zero (by omega)
        · cases ha
          exact ⟨hg, (Array.getElem?_eq_some_iff.1 f5).1⟩
      refine ((hdx.kp kA (fun _ _ q => q)).kp k3 (fun a q d => ?_)).mono (fun a _ q => ?_)
      · have := q.1.2; unfold Col at d; omega
      · exact hin a q.1.1 q.2 q.1.2
  · intro j hj
    by_cases h1 : z ≤ j ∧ j < w.heap.size ∧ col j = 0
    · omega
    · by_cases h2 : w.heap.size ≤ j ∧ (w.alloc o).heap.size ≤ j ∧ j < w3.heap.size
      · omega
      · have : colx j = col j := by show (if _ then _ else if _ then _ else _) = _; rw [if_neg h1, if_neg h2]
        rw [this] at hj
        have := hc j hj
        omega
  · intro j hj
    by_cases h0 : col j = 0
    · show (if _ then _ else if _ then _ else _) = _
      rw [if_neg (by omega), if_neg (by omega)]
    · exact hx1 j h0
  · intro j hj h0 hn
    by_cases h1 : j < w.heap.size
    · right; exact hin j hj h1 h0
    · by_cases h2 : (w.alloc o).heap.size ≤ j ∧ j < w3.heap.size
      · left
        show (if _ then _ else if _ then _ else _) = _
        rw [if_neg (by omega), if_pos ⟨by omega, h2.1, h2.2⟩]
      · exfalso
        apply hn
        show (if _ then _ else if _ then _ else _) = _
        rw [if_neg (by omega), if_neg (by omega)]
        exact h0

/-- What the receiver makes of frames; and what comes out. -/
def moveF (s : LS) : List (List UInt8) → LS × List (List UInt8)
  | [] => (s, [])
  | f :: fs => ((moveF (inF s (parse f)).1 fs).1, if (inF s (parse f)).2.2.1 then (inF s (parse f)).2.1 :: (moveF (inF s (parse f)).1 fs).2 else (moveF (inF s (parse f)).1 fs).2)

theorem moveF_snoc (f : List UInt8) : ∀ (fs : List (List UInt8)) (s : LS), moveF s (fs ++ [f]) =
    ((inF (moveF s fs).1 (parse f)).1, (moveF s fs).2 ++ if (inF (moveF s fs).1 (parse f)).2.2.1 then [(inF (moveF s fs).1 (parse f)).2.1] else [])
  | [], s => by cases h : (inF s (parse f)).2.2.1 <;> simp [moveF, h]
  | g :: r, s => by
    simp only [List.cons_append, moveF]
    rw [moveF_snoc f r]
    by_cases h : (inF s (parse g)).2.2.1 = true <;> by_cases h2 : (inF (moveF (inF s (parse g)).1 r).1 (parse f)).2.2.1 = true <;> simp [h, h2]
theorem moveF_inv : ∀ (fs : List (List UInt8)) {s : LS}, LinkInv s → LinkInv (moveF s fs).1
  | [], _, h => h
  | f :: r, _, h => moveF_inv r (inF_inv h f)
theorem moveF_len : ∀ (fs : List (List UInt8)) (s : LS), (moveF s fs).2.length ≤ fs.length
  | [], s => by simp [moveF]
  | f :: r, s => by
    have := moveF_len r (inF s (parse f)).1
    simp only [moveF]
    split <;> simp <;> omega

/-- The colours of one link. -/
def S5 (i c : Nat) : Prop := i < c ∧ c ≤ i + 5
theorem LinkAt.beside {S : Nat → Prop} {col : Nat → Nat} {i p : Nat} {s : LS} {r : LR} {w w' : World} (h : LinkAt col i w p s r) (k : Kp (fun j => S (col j)) w w') (hd : ∀ c, S5 i c → ¬ S c) : LinkAt col i w' p s r :=
  ⟨h.own, k.heap h.head (by rw [h.own]; exact hd _ ⟨by omega, by omega⟩), h.outs.kp k (fun j c => ⟨fun e => hd (i + 2) ⟨by omega, by omega⟩ (e ▸ c), fun e => hd (i + 5) ⟨by omega, by omega⟩ (e ▸ c)⟩),
    h.acks.kp k (fun j c e => hd (i + 3) ⟨by omega, by omega⟩ (by unfold Col at c; rw [c] at e; exact e)), h.mapc, h.map.kp k (by rw [h.mapc]; exact hd _ ⟨by omega, by omega⟩), h.seen⟩
/-- Blocks that bore no colour may take one. -/
theorem LinkAt.repaint {col col' : Nat → Nat} {i p : Nat} {s : LS} {r : LR} {w : World} (h : LinkAt col i w p s r) (he : ∀ j, col j ≠ 0 → col' j = col j) : LinkAt col' i w p s r := by
  have hm : ∀ (x : Nat), x ≠ 0 → ∀ (j : Nat), Col col x j → Col col' x j := fun x hx j hj => by
    unfold Col at *
    rw [he j (by omega)]; exact hj
  have hP := h.own
  have hM := h.mapc
  exact ⟨by rw [he p (by omega)]; exact h.own, h.head, ⟨h.outs.own.mono (fun j _ => hm _ (by omega) j), h.outs.hlen, fun j h1 h2 => (h.outs.data j h1 h2).mono (fun a _ => hm _ (by omega) a)⟩, h.acks.mono (fun j _ => hm _ (by omega) j), by rw [he _ (by omega)]; exact h.mapc, h.map, h.seen⟩

/-- What move leaves. -/
def MoveTo (B : Nat) (col : Nat → Nat) (i c : Nat) (w : World) (p : Nat) (s' : LS) (go : Option Addr) (n cap : Nat) (gl : List (List UInt8)) (w' : World) : Prop :=
  ∃ col' r', Cols B w' col' ∧ (∀ k, k < w.heap.size → col' k = col k) ∧ (∀ k, w.heap.size ≤ k → col' k ≠ 0 → (i < col' k ∧ col' k ≤ i + 5) ∨ col' k = c ∨ col' k = c + 1) ∧
    Kp (fun j => (i < col j ∧ col j ≤ i + 5) ∨ col j = c) w w' ∧ LinkAt col' i w' p s' r' ∧ GotAt col' c w' go n cap gl
structure MoveR (B : Nat) (col : Nat → Nat) (i c : Nat) (w : World) (p : Nat) (s : LS) (fs gl : List (List UInt8)) (v j : Value) (wr : World) : Prop where
  ex : ∃ (k : Nat) (go : Option Addr) (gn gcap : Nat), j = .int .i64 (k : Int) ∧ k ≤ fs.length ∧ v = .slice go gn gcap ∧ MoveTo B col i c w p (moveF s (fs.take k)).1 go gn gcap (gl ++ (moveF s (fs.take k)).2) wr

set_option maxHeartbeats 2000000 in
set_option maxRecDepth 100000 in
theorem move_any (B : Nat) (col : Nat → Nat) (i c p : Nat) (s : LS) (r : LR) (P : Nat → Prop) (fo : Option Addr) (n fcap : Nat) (fs : List (List UInt8)) (go : Option Addr) (gn gcap : Nat) (gl : List (List UInt8)) (w : World) (h : LinkAt col i w p s r) (hc : Cols B w col) (hinv : LinkInv s) (hBw : B ≤ w.heap.size)
    (hf : FrsP P w fo n fcap fs) (hP : ∀ k, P k → ¬ ((i < col k ∧ col k ≤ i + 5) ∨ col k = c)) (hlen : ∀ f ∈ fs, f.length ≤ 140737488355328) (hg : GotAt col c w go gn gcap gl) (hci : c ≠ 0 ∧ (c + 1 ≤ i ∨ i + 5 < c)) (hgn : gl.length + fs.length ≤ 1048576) :
    Calls Try.prog 21 #[.slice fo n fcap, .pointer (some ⟨p, 0, none⟩), .slice go gn gcap] w fun e w' => ∃ go' gcap', e = .returned (.slice go' (gl ++ (moveF s fs).2).length gcap') ∧ MoveTo B col i c w p (moveF s fs).1 go' (gl ++ (moveF s fs).2).length gcap' (gl ++ (moveF s fs).2) w' := by
  obtain ⟨i0, hi, hz0, hz1, hz2⟩ := info_parts info_bytesL
  have hn := hf.1
  have HL := Lib.hid h
  have HC := Lib.hid hc
  have HG := Lib.hid hg
  have HI := Lib.hid hinv
  have HLEN := Lib.hid hlen
  have HF := Lib.hid hf
  clear h hc hg hinv hlen hf
  go_enter Try.func21, Try.ntmps21
  go_wp2_with fail
  go_loopw [2, 14] (fun v j wr => MoveR B col i c w p s fs gl v j wr) (fun _ j _ => n - (intOf j).toNat)
  case atStart => exact MoveR.mk ⟨0, go, gn, gcap, rfl, Nat.zero_le _, rfl, col, r, HC.out, fun _ _ => rfl, fun k hk hn => by have := HC.out k hn; omega, Kp.refl _ _, by simpa [moveF] using HL.out, by simpa [moveF] using HG.out⟩
  case round =>
    obtain ⟨k, go1, gn1, gcap1, rfl, hk, rfl, hto⟩ := hrel.ex
    by_cases hlt : k < n
    · obtain ⟨col1, r1, m1, m2, m3, m4, m5, m6⟩ := hto
      have hf1 := HF.out.kp m4 (fun j hj => hP j hj)
      obtain ⟨b, off, bo, m, cc, hl, rfl, hbl, hcell, hbs⟩ := hf1.at hlt
      have hinv1 : Hid (LinkInv (moveF s (fs.take k)).1) := Lib.hid (moveF_inv _ HI.out)
      have hml := HLEN.out fs[k] (List.getElem_mem hl)
      have hmm := hbs.len
      have HT : Hid (moveF s (fs.take (k + 1)) = ((inF (moveF s (fs.take k)).1 (parse fs[k])).1, (moveF s (fs.take k)).2 ++ if (inF (moveF s (fs.take k)).1 (parse fs[k])).2.2.1 then [(inF (moveF s (fs.take k)).1 (parse fs[k])).2.1] else [])) := Lib.hid (by
        rw [List.take_succ_eq_append_getElem hl, moveF_snoc])
      have hgl1 := m6.1
      have hml1 := moveF_len (fs.take k) s
      have hgn1 : gn1 ≤ 1048575 := by
        rw [List.length_append] at hgl1
        rw [List.length_take] at hml1
        omega
      clear hml1
      have HGL := Lib.hid hgl1
      clear hgl1
      generalize (moveF s (fs.take k)).1 = t at *
      generalize (moveF s (fs.take k)).2 = out1 at *
      generalize hq : inF t (parse fs[k]) = q at *
      obtain ⟨t', x, ok, er⟩ := q
      have s1 := m4.size
      have hwk : IntKind.i64.wrap ((k : Int) + 1) = (k : Int) + 1 := IntWalk.i64_in _ (by omega)
      have HQ := Lib.hid hq
      have HM6 := Lib.hid m6
      clear hq m6
      go_wp2_with fail
      refine (in_at B col1 i p t r1 bo m cc fs[k] wr m5 m1 hinv1.out.ok (by omega) hbs (by omega) t' x ok er HQ.out).mono ?_
      rintro e w2 ⟨xo, xc, rfl, col2, r2, l1, l2, l3, l4, l5, l6⟩
      have L5 := Lib.hid l5
      have L6 := Lib.hid l6
      have s2 := l4.size
      clear l5 l6 hf1 hbs hcell
      cases ok with
      | false =>
        have HT2 : Hid (moveF s (fs.take (k + 1)) = (t', out1)) := Lib.hid (by rw [HT.out]; simp)
        clear HT
        go_wp2_with fail
        go_roundw
        case rel =>
          refine MoveR.mk ⟨k + 1, go1, gn1, gcap1, by rfl, by omega, rfl, ?_⟩
          rw [HT2.out]
          refine ⟨col2, r2, l1, fun j hj => (l2 j (by omega)).trans (m2 j hj), fun j hj hn => ?_, m4.trans' l4 (fun j hj d => by rw [m2 j hj] at d; exact Or.inl d), L5.out, HM6.out.kp m1 hci.1 l4 (fun j d => by omega) l2⟩
          by_cases hjr : j < wr.heap.size
          · rw [l2 j hjr] at hn ⊢
            exact m3 j hj hn
          · exact Or.inl (l3 j (by omega) hn)
        case measure => simp [intOf]; omega
      | true =>
        have HT2 : Hid (moveF s (fs.take (k + 1)) = (t', out1 ++ [x])) := Lib.hid (by rw [HT.out]; simp)
        clear HT
        obtain ⟨gl1, hs, gh, gown, gdat⟩ := HM6.out.kp m1 hci.1 l4 (fun j d => by omega) l2
        have kal : Kp Noone w2 (w2.alloc (.cells #[.slice xo x.length xc] 31)) := (Kp.refl _ _).alloc _
        have GD := Lib.hid gdat
        clear gdat
        go_wp2_with (at_builtin; refine wpList_append_gen _ rfl (.tmp 26) (.tmp 28) 39 rfl 31 i0 (.slice none 0 0) 1 24 Try.underlying39 hi hz0 hz1 hz2 rfl go1 gn1 gcap1 rfl (some ⟨w2.heap.size, 0, none⟩) 1 1 rfl _ _ (gown.keep kal) [.slice xo x.length xc] rfl (Row.ofHeap (heap_alloc_new w2 _)) (by intro u hu; simp at hu; subst hu; rfl) (by omega) (by unfold maxLen; omega) ?_)
        intro ao' cap' w3 ho k3
        obtain ⟨col3, n1, n2, n3, n4, n5⟩ := GotAt.snoc (z := wr.heap.size) ⟨gl1, hs, gh, gown, GD.out⟩ l1 (by omega) (by omega) (by omega) hci.1 L6.out hs gh GD.out ho k3
        have L7 := ((L5.out.keep kal).beside (S := fun x => x = c) k3 (fun x h d => by unfold S5 at h; omega)).repaint n4
        have K3 : Kp (fun j => (i < col j ∧ col j ≤ i + 5) ∨ col j = c) w w3 :=
          ((m4.trans' l4 (fun j hj d => by rw [m2 j hj] at d; exact Or.inl d)).trans' kal (fun _ _ d => d.elim)).trans' k3 (fun j hj d => by
            unfold Col at d
            rw [l2 j (by omega), m2 j hj] at d
            exact Or.inr d)
        have hga := n1
        rw [List.append_assoc] at hga
        have HM : Hid (MoveTo B col i c w p (moveF s (fs.take (k + 1))).1 ao' (gn1 + 1) cap' (gl ++ (moveF s (fs.take (k + 1))).2) w3) := Lib.hid (by
          rw [HT2.out]
          refine ⟨col3, r2, n2, fun j hj => ((n3 j (by omega)).trans (l2 j (by omega))).trans (m2 j hj), fun j hj hn => ?_, K3, L7, hga⟩
          by_cases h0 : col2 j = 0
          · by_cases hjz : wr.heap.size ≤ j
            · exact Or.inr (n5 j hjz h0 hn)
            · rw [n3 j (by omega)] at hn
              exact absurd h0 hn
          · rw [n4 j h0]
            by_cases hjr : j < wr.heap.size
            · rw [l2 j hjr] at h0 ⊢
              exact m3 j hj h0
            · exact Or.inl (l3 j (by omega) h0))
        clear hga n1 n2 n3 n4 n5 L7 K3 ho k3 kal gown GD HM6 L5 L6
        go_wp2_with fail
        go_roundw
        case rel => exact MoveR.mk ⟨k + 1, ao', gn1 + 1, cap', by rfl, by omega, rfl, HM.out⟩
        case measure => simp [intOf]; omega
    · obtain rfl : k = n := by omega
      have ht : fs.take k = fs := List.take_of_length_le (by omega)
      rw [ht] at hto
      have hgl := hto.choose_spec.choose_spec.2.2.2.2.2.1
      have HTO := Lib.hid hto
      have HGL := Lib.hid hgl
      clear hto hgl
      go_wp2_with fail
      go_ret
      rw [HGL.out]
      exact ⟨go1, gcap1, rfl, HTO.out⟩

end Go.Proofs.Ytlpdoefbjhlegaa
