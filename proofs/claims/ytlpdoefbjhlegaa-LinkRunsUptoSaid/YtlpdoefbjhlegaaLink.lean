/-
  HOW A LINK LIES IN MEMORY; the walk of sweep.
-/
import Derived.Test.YtlpdoefbjhlegaaMapRange
import Derived.Test.YtlpdoefbjhlegaaRefTexts
import Derived.Test.YtlpdoefbjhlegaaCol
import Derived.Deep.LoopGhost
import Derived.Deep.RegionHeld3
import Derived.Deep.DrawnRows
import Derived.Maps.RangeWalk
namespace Go.Proofs.Ytlpdoefbjhlegaa
open Go.RowKit

/-- A message that waits. -/
structure OutH where
  num : Int
  data : List UInt8
  sent : Bool
  time : Int

/-- One end. -/
structure LS where
  boot : Int
  retry : Int
  next : Int
  out : List OutH
  acks : List (Int × Int)
  peer : Int
  low : Int
  seen : Int → Bool

/-- Where it lies. -/
structure LR where
  ao : Option Addr
  cap : Nat
  ko : Option Addr
  kcap : Nat
  b : Nat
  hs : List (Option Addr × Nat × Nat)
  sl : List (Int × Value)

def heldC (h : OutH) (s : Option Addr × Nat × Nat) : List Value := [.int .i64 h.num, .slice s.1 s.2.1 s.2.2, .bool h.sent, .int .i64 h.time]
def outC : List OutH → List (Option Addr × Nat × Nat) → List Value
  | h :: r, s :: t => heldC h s ++ outC r t
  | _, _ => []
def ackC : List (Int × Int) → List Value
  | [] => []
  | a :: r => .int .i64 a.1 :: .int .i64 a.2 :: ackC r

/-- Bytes that lie in blocks of one kind. -/
def DataAt (D : Nat → Prop) (w : World) (s : Option Addr × Nat × Nat) (d : List UInt8) : Prop := BS w s.1 s.2.1 s.2.2 d ∧ (d ≠ [] → ∀ a, s.1 = some a → D a.block)

theorem DataAt.kp {D S : Nat → Prop} {w w' : World} {s : Option Addr × Nat × Nat} {d : List UInt8} (h : DataAt D w s d) (k : Kp S w w') (hd : ∀ j, D j → ¬ S j) : DataAt D w' s d := by
  refine ⟨?_, h.2⟩
  by_cases hl : d = []
  · subst hl
    exact ⟨h.1.len, h.1.le, h.1.max, Row.nil _ _⟩
  · exact h.1.kp k (fun a ha => hd _ (h.2 hl a ha))
theorem DataAt.mono {D E : Nat → Prop} {w : World} {s : Option Addr × Nat × Nat} {d : List UInt8} (h : DataAt D w s d) (he : ∀ j, j < w.heap.size → D j → E j) : DataAt E w s d := by
  refine ⟨h.1, fun hl a ha => he _ ?_ (h.2 hl a ha)⟩
  obtain ⟨b, hb1, hb2⟩ := h.1.row.lt (by simpa [bv] using hl)
  rw [ha] at hb1
  cases hb1
  exact hb2

/-- The waiting messages, in memory. -/
structure OutAt (col : Nat → Nat) (i : Nat) (w : World) (out : List OutH) (ao : Option Addr) (cap : Nat) (hs : List (Option Addr × Nat × Nat)) : Prop where
  own : Own (Col col (i + 2)) w 64 4 ao out.length cap (outC out hs)
  hlen : hs.length = out.length
  data : ∀ j (h1 : j < hs.length) (h2 : j < out.length), DataAt (Col col (i + 5)) w hs[j] out[j].data

theorem OutAt.kp {col : Nat → Nat} {i : Nat} {w w' : World} {S : Nat → Prop} {out : List OutH} {ao : Option Addr} {cap : Nat} {hs : List (Option Addr × Nat × Nat)} (h : OutAt col i w out ao cap hs) (k : Kp S w w') (hS : ∀ j, S j → col j ≠ i + 2 ∧ col j ≠ i + 5) : OutAt col i w' out ao cap hs :=
  ⟨h.own.kp k (fun j hj c => (hS j c).1 hj), h.hlen, fun j h1 h2 => (h.data j h1 h2).kp k (fun a ha c => (hS a c).2 ha)⟩
/-- .. while new blocks take a colour. -/
theorem OutAt.other {B : Nat} {col : Nat → Nat} {i : Nat} {w w' : World} {S : Nat → Prop} {out : List OutH} {ao : Option Addr} {cap : Nat} {hs : List (Option Addr × Nat × Nat)} (h : OutAt col i w out ao cap hs) (hc : Cols B w col) (k : Kp S w w') (hS : ∀ j, S j → col j ≠ i + 2 ∧ col j ≠ i + 5) (c : Nat) : OutAt (paint col w w' c) i w' out ao cap hs := by
  have h' := h.kp k hS
  refine ⟨h'.own.mono (fun j _ hj => paint_old (Col.lt hc (by omega) hj).2 hj), h.hlen, fun j h1 h2 => (h'.data j h1 h2).mono (fun a _ ha => paint_old (Col.lt hc (by omega) ha).2 ha)⟩

/-- A link at block p, of state s, lies as r says; its blocks have the colours i + 1 .. i + 5. -/
structure LinkAt (col : Nat → Nat) (i : Nat) (w : World) (p : Nat) (s : LS) (r : LR) : Prop where
  own : col p = i + 1
  head : w.heap[p]? = some (.cells #[.int .i64 s.boot, .int .i64 s.retry, .int .i64 s.next, .slice r.ao s.out.length r.cap, .slice r.ko s.acks.length r.kcap, .int .i64 s.peer, .int .i64 s.low, .map (some r.b)] 59 (0, 0))
  outs : OutAt col i w s.out r.ao r.cap r.hs
  acks : Own (Col col (i + 3)) w 68 2 r.ko s.acks.length r.kcap (ackC s.acks)
  mapc : col r.b = i + 4
  map : MapIs encI w r.b r.sl
  seen : ∀ k, alGet k r.sl = if s.seen k then some (.bool true) else none

/-- Within the bounds. -/
structure LinkOk (s : LS) : Prop where
  boot : 1 ≤ s.boot ∧ s.boot ≤ 1099511627776
  retry : 1 ≤ s.retry ∧ s.retry ≤ 1048576
  next : 1 ≤ s.next ∧ s.next ≤ 1048576
  outN : ∀ h ∈ s.out, 1 ≤ h.num ∧ h.num < s.next ∧ h.data.length ≤ 65472 ∧ -9223372036854775808 ≤ h.time ∧ h.time ≤ 9223372036854775807
  outL : s.out.length ≤ 64
  acksN : ∀ a ∈ s.acks, (1 ≤ a.1 ∧ a.1 ≤ 1099511627776) ∧ 1 ≤ a.2 ∧ a.2 ≤ 1099511627776
  acksL : s.acks.length ≤ 64
  peer : 0 ≤ s.peer ∧ s.peer ≤ 1099511627776
  low : 0 ≤ s.low ∧ s.low ≤ 1099511627776
  seen : ∀ k, s.seen k = true → s.low < k ∧ k ≤ 1099511627776

/-- What a call leaves of a link: another state, other blocks of the same colours. -/
def LkTo (B : Nat) (col : Nat → Nat) (i : Nat) (w : World) (p : Nat) (s' : LS) (w' : World) : Prop :=
  ∃ col' r', Cols B w' col' ∧ (∀ k, k < w.heap.size → col' k = col k) ∧ (∀ k, w.heap.size ≤ k → col' k ≠ 0 → i < col' k ∧ col' k ≤ i + 5) ∧ Kp (fun j => i < col j ∧ col j ≤ i + 5) w w' ∧ LinkAt col' i w' p s' r'

theorem cells_eight {w : World} {p e : Nat} {c0 c1 c2 c3 c4 c5 c6 c7 : Value} (h : w.heap[p]? = some (.cells #[c0, c1, c2, c3, c4, c5, c6, c7] e (0, 0))) :
    (w.cell? ⟨p, 0, none⟩ = some c0 ∧ w.cell? ⟨p, 1, none⟩ = some c1 ∧ w.cell? ⟨p, 2, none⟩ = some c2 ∧ w.cell? ⟨p, 3, none⟩ = some c3) ∧ (w.cell? ⟨p, 4, none⟩ = some c4 ∧ w.cell? ⟨p, 5, none⟩ = some c5 ∧ w.cell? ⟨p, 6, none⟩ = some c6 ∧ w.cell? ⟨p, 7, none⟩ = some c7) ∧
    ∀ i, w.frozen? ⟨p, i, none⟩ = false := by
  refine ⟨⟨?_, ?_, ?_, ?_⟩, ⟨?_, ?_, ?_, ?_⟩, fun i => ?_⟩
  · rw [cell_of_row w p 0 _ e (0, 0) h]; rfl
  · rw [cell_of_row w p 1 _ e (0, 0) h]; rfl
  · rw [cell_of_row w p 2 _ e (0, 0) h]; rfl
  · rw [cell_of_row w p 3 _ e (0, 0) h]; rfl
  · rw [cell_of_row w p 4 _ e (0, 0) h]; rfl
  · rw [cell_of_row w p 5 _ e (0, 0) h]; rfl
  · rw [cell_of_row w p 6 _ e (0, 0) h]; rfl
  · rw [cell_of_row w p 7 _ e (0, 0) h]; rfl
  · simp [World.frozen?, h]
theorem heap_set_cell {w : World} {p e n : Nat} {cs : Array Value} {u : Value} (h : w.heap[p]? = some (.cells cs e (0, 0))) : (w.setCell ⟨p, n, none⟩ u).heap[p]? = some (.cells (cs.setIfInBounds n u) e (0, 0)) := by
  simp [World.setCell, Array.getElem?_modify, h]

theorem encI_inj : ∀ a c, encI a = encI c → a = c := fun a c h => by cases h; rfl
theorem keyI : KeyKind Try.prog 3 encI := keyKind_int Try.underlying3
theorem zero_bool (w : World) : (zeroValue 4).run Try.prog w = .ok (.bool false) w := by kernel_rfl

/-- So far the sweep goes. -/
structure Swept (S : Int → Bool) (low low' : Int) : Prop where
  le : low ≤ low'
  all : ∀ k, low < k → k ≤ low' → S k = true
  stop : S (low' + 1) = false

/-- How many of the keys are above. -/
def above (l : List (Int × Value)) (low : Int) : Nat := (l.filter fun p => decide (low < p.1)).length
theorem above_step (l : List (Int × Value)) (low : Int) (h : low + 1 ∈ l.map (·.1)) : above l (low + 1) < above l low := by
  unfold above
  induction l with
  | nil => simp at h
  | cons p r ih =>
    have hle : ∀ r : List (Int × Value), (r.filter fun p => decide (low + 1 < p.1)).length ≤ (r.filter fun p => decide (low < p.1)).length := by
      intro r
      induction r with
      | nil => simp
      | cons q r ih =>
        by_cases h1 : low + 1 < q.1
        · rw [List.filter_cons_of_pos (by simpa using h1), List.filter_cons_of_pos (by simp; omega)]; simp; exact ih
        · rw [List.filter_cons_of_neg (by simpa using h1)]
          by_cases h2 : low < q.1
          · rw [List.filter_cons_of_pos (by simpa using h2)]; simp; omega
          · rw [List.filter_cons_of_neg (by simpa using h2)]; exact ih
    by_cases hp : p.1 = low + 1
    · rw [List.filter_cons_of_neg (by simp; omega), List.filter_cons_of_pos (by simp; omega)]
      have := hle r
      simp; omega
    · have hr : low + 1 ∈ r.map (·.1) := by
        rw [List.map_cons, List.mem_cons] at h
        exact h.resolve_left (fun c => hp c.symm)
      have := ih hr
      by_cases h1 : low + 1 < p.1
      · rw [List.filter_cons_of_pos (by simpa using h1), List.filter_cons_of_pos (by simp; omega)]; simp; exact this
      · rw [List.filter_cons_of_neg (by simpa using h1)]
        by_cases h2 : low < p.1
        · rw [List.filter_cons_of_pos (by simpa using h2)]; simp; omega
        · rw [List.filter_cons_of_neg (by simpa using h2)]; exact this

theorem alDel_lt (k : Int) (l : List (Int × Value)) (h : k ∈ l.map (·.1)) : (alDel k l).length < l.length := by
  induction l with
  | nil => simp at h
  | cons p r ih =>
    unfold alDel
    by_cases hk : k = p.1
    · rw [if_pos hk]; simp
    · rw [if_neg hk]
      rw [List.map_cons, List.mem_cons] at h
      have := ih (h.resolve_left hk)
      simp; omega
theorem mem_del {k k' : Int} {l : List (Int × Value)} (hn : (l.map (·.1)).Nodup) (h : k' ∈ l.map (·.1)) (hne : k' ≠ k) : k' ∈ (alDel k l).map (·.1) := by
  refine Classical.byContradiction fun c => ?_
  have h1 := (alGet_none _ _).2 c
  rw [alGet_del k k' l hn, if_neg hne, alGet_none] at h1
  exact h1 h
theorem not_mem_del {k : Int} {l : List (Int × Value)} (hn : (l.map (·.1)).Nodup) : k ∉ (alDel k l).map (·.1) := by
  rw [← alGet_none, alGet_del k k l hn, if_pos rfl]
theorem mem_of_del {k k' : Int} {l : List (Int × Value)} (hn : (l.map (·.1)).Nodup) (h : k' ∈ (alDel k l).map (·.1)) : k' ∈ l.map (·.1) ∧ k' ≠ k := by
  constructor
  · refine Classical.byContradiction fun c => ?_
    have h1 := (alGet_none _ _).2 c
    have h2 := alGet_del k k' l hn
    rw [h1] at h2
    have h3 : alGet k' (alDel k l) = none := by rw [h2]; split <;> rfl
    exact (alGet_none _ _).1 h3 h
  · intro c
    subst c
    exact not_mem_del hn h

/-- The head's block, with the sweep's mark at x. -/
def HeadAt (w : World) (p : Nat) (c0 c1 c2 c3 c4 c5 : Value) (x : Int) (b : Nat) : Prop := w.heap[p]? = some (.cells #[c0, c1, c2, c3, c4, c5, .int .i64 x, .map (some b)] 59 (0, 0))

theorem HeadAt.set {w : World} {p b : Nat} {c0 c1 c2 c3 c4 c5 : Value} {x : Int} (h : HeadAt w p c0 c1 c2 c3 c4 c5 x b) (y : Int) : HeadAt (w.setCell ⟨p, 6, none⟩ (.int .i64 y)) p c0 c1 c2 c3 c4 c5 y b := by
  unfold HeadAt at *
  rw [heap_set_cell h]
  rfl
theorem HeadAt.kp {w w' : World} {S : Nat → Prop} {p b : Nat} {c0 c1 c2 c3 c4 c5 : Value} {x : Int} (h : HeadAt w p c0 c1 c2 c3 c4 c5 x b) (k : Kp S w w') (hs : ¬ S p) : HeadAt w' p c0 c1 c2 c3 c4 c5 x b := k.heap h hs

set_option maxHeartbeats 2000000 in
theorem sweep_any (p b : Nat) (c0 c1 c2 c3 c4 c5 : Value) (low : Int) (sl : List (Int × Value)) (S : Int → Bool) (w : World) (hh : HeadAt w p c0 c1 c2 c3 c4 c5 low b) (hm : MapIs encI w b sl) (hs : ∀ k, alGet k sl = if S k then some (.bool true) else none)
    (h0 : 0 ≤ low) (hmax : ∀ k, S k = true → k ≤ 1099511627776) (h1 : low ≤ 1099511627776) :
    Calls Try.prog 45 #[.pointer (some ⟨p, 0, none⟩)] w fun e w' => ∃ (x : Int) (sl' : List (Int × Value)), e = .returned (.tuple #[]) ∧ Swept S low x ∧ x ≤ 1099511627776 ∧ HeadAt w' p c0 c1 c2 c3 c4 c5 x b ∧ MapIs encI w' b sl' ∧
      (∀ k, alGet k sl' = if (S k && decide (x < k)) then some (.bool true) else none) ∧ Kp (fun j => j = p ∨ j = b) w w' := by
  have HS := Lib.hid hs
  have HM := Lib.hid hmax
  have hpb : p ≠ b := fun c => by subst c; obtain ⟨es, cl, h, -⟩ := hm; unfold HeadAt at hh; rw [h] at hh; cases hh
  clear hs hmax
  go_enter Try.func45, Try.ntmps45
  go_wp2_with fail
  go_loopg [3] (above sl low) (fun g _ wr => ∃ x : Int, g = above sl x ∧ low ≤ x ∧ x ≤ 1099511627776 ∧ Hid (∀ k, low < k → k ≤ x → S k = true) ∧ HeadAt wr p c0 c1 c2 c3 c4 c5 x b ∧ MapIs encI wr b sl ∧ Kp (fun j => j = p ∨ j = b) w wr)
  case atStart => exact ⟨low, rfl, Int.le_refl _, h1, Lib.hid (fun k a c => by omega), hh, hm, Kp.refl _ _⟩
  case round =>
    obtain ⟨x, hg, hx0, hx1, hall, hhd, hmp, kr⟩ := hrel
    have HG := Lib.hid hg
    clear hg
    have hhd' := hhd
    unfold HeadAt at hhd'
    obtain ⟨⟨q0, q1, q2, q3⟩, ⟨q4, q5, q6, q7⟩, qf⟩ := cells_eight hhd'
    have hlk := fun n : Nat => (hmp.kp ((Kp.refl Noone wr).drewN n) id).lookup (P := Try.prog) (t := 3) (m := 55) (e := 4) keyI Try.underlying55 (zero_bool _) (x + 1) false
    have hget := HS.out (x + 1)
    have hw1 : IntKind.i64.wrap (x + 1) = x + 1 := IntWalk.i64_in _ (by omega)
    cases hS : S (x + 1) with
    | true =>
      rw [hS] at hget
      simp only [if_true] at hget
      rw [hget] at hlk
      simp only [Bool.false_eq_true, if_false, Option.getD_some, encI] at hlk
      have hx2 := HM.out _ hS
      have hmem : x + 1 ∈ sl.map (·.1) := by
        cases hn : alGet (x + 1) sl with
        | none => rw [hn] at hget; cases hget
        | some v => exact Classical.byContradiction fun c => by rw [(alGet_none _ _).2 c] at hn; cases hn
      have HLT := Lib.hid (above_step sl x hmem)
      have hall2 : Hid (∀ k, low < k → k ≤ x + 1 → S k = true) := Lib.hid (fun k a c => by
        by_cases hk : k = x + 1
        · rw [hk]; exact hS
        · exact hall.out k a (by omega))
      clear hget hS hmem hall
      go_wp2_with fail
      go_quiet (fail)
      go_wp2_with fail
      go_roundg (above sl (x + 1))
      case measure => rw [HG.out]; exact HLT.out
      case rel => exact ⟨x + 1, rfl, by omega, hx2, hall2, (hhd.kp ((Kp.refl Noone wr).drewN _) id).set (x + 1), (hmp.kp ((Kp.refl Noone wr).drewN _) id).kp (Kp.setCell (S := fun j => j = p) (p := ⟨p, 6, none⟩) (Kp.refl _ _) (fun _ => rfl) _) (fun c => hpb c.symm), (kr.drewN _).setCell (fun _ => Or.inl rfl) _⟩
    | false =>
      rw [hS] at hget
      simp only [Bool.false_eq_true, if_false] at hget
      rw [hget] at hlk
      simp only [Bool.false_eq_true, if_false, Option.getD_none, encI] at hlk
      have hsw : Hid (Swept S low x) := Lib.hid ⟨hx0, hall.out, hS⟩
      clear hget hS hall HG
      go_wp2_with fail
      go_quiet (fail)
      have hmq := hmp.kp ((Kp.refl Noone wr).drewN nq) id
      have hhq := hhd.kp ((Kp.refl Noone wr).drewN nq) id
      have kq := kr.drewN nq
      generalize wr.drewN nq = wq at *
      have hhq' := hhq
      unfold HeadAt at hhq'
      obtain ⟨⟨q0', q1', q2', q3'⟩, ⟨q4', q5', q6', q7'⟩, qf'⟩ := cells_eight hhq'
      clear hlk q0 q1 q2 q3 q4 q5 q6 q7 qf hhd hhd' hmp kr
      go_wp2_with (at_range; refine wpList_range_is _ rfl _ 55 rfl 4 Try.underlying55 b sl rfl hmq ?_)
      intro w2 hit k2 hsz
      have hrp : wq.heap.size ≠ p := fun c => by have := (Array.getElem?_eq_some_iff.1 hhq').1; omega
      have hrb : wq.heap.size ≠ b := fun c => by have := hmq.lt; omega
      have hh2 := hhq.kp k2 id
      have kk2 := kq.trans k2.none
      have hrw : w.heap.size ≤ wq.heap.size := kq.size
      clear hmq hhq hhq' q0' q1' q2' q3' q4' q5' q6' q7' qf' k2 kq
      generalize wq.heap.size = r at *
      go_wp2_with fail
      go_loopg [2, 26] sl.length (fun g _ _ wr => ∃ (l todo : List (Int × Value)), g = todo.length ∧ HeadAt wr p c0 c1 c2 c3 c4 c5 x b ∧ Iter encI wr r b l todo ∧ Hid (∀ k, x < k → alGet k l = alGet k sl) ∧ Hid (∀ k, k ≤ x → k ∈ l.map (·.1) → k ∈ todo.map (·.1)) ∧ Kp (fun j => j = p ∨ j = b) w wr)
      case atStart => exact ⟨sl, sl, rfl, hh2, hit, Lib.hid (fun _ _ => rfl), Lib.hid (fun _ _ h => h), kk2⟩
      case round =>
        obtain ⟨l, todo, hg, hhd, hitr, ha, hbk, kr⟩ := hrel
        have HG := Lib.hid hg
        clear hg hit hh2 kk2
        go_wp2_with (at_next; refine wpList_next_is _ rfl _ rfl encI_inj r b l todo rfl hitr ?_ ?_)
        · intro hdone
          have HD := Lib.hid hdone
          clear hdone
          go_wp2_with fail
          go_end0
          refine ⟨x, l, rfl, hsw.out, hx1, hhd, hitr.map, fun k => ?_, kr⟩
          by_cases hk : x < k
          · rw [ha.out k hk, HS.out k]
            simp [hk]
          · have hn : alGet k l = none := by
              rw [alGet_none]
              intro c
              have := hbk.out k (by omega) c
              rw [HD.out] at this
              simp at this
            rw [hn, if_neg (by simp [hk])]
        · intro k v w3 hmem hit3 k3 hsz3 hen
          have hnd := hitr.nodup encI_inj
          have hkm : k ∈ todo.map (·.1) := List.mem_map_of_mem (f := (·.1)) hmem
          have HLT := Lib.hid (alDel_lt k todo hkm)
          have hnot : k ∉ (alDel k todo).map (·.1) := not_mem_del hnd
          have HNOT := Lib.hid hnot
          have hbk2 : Hid (∀ k', k' ≤ x → k' ∈ l.map (·.1) → k' = k ∨ k' ∈ (alDel k todo).map (·.1)) := Lib.hid (fun k' a c => by
            by_cases hk : k' = k
            · exact Or.inl hk
            · exact Or.inr (mem_del hnd (hbk.out k' a c) hk))
          have hnl := Lib.hid hitr.map.keys
          have hh3 := hhd.kp k3 (fun c => hrp c.symm)
          have kr3 := kr.fin k3 (fun j c => Or.inr (by subst c; omega))
          clear hmem hnot hnd hkm hbk hitr hhd kr k3
          have hhd' := hh3
          unfold HeadAt at hhd'
          obtain ⟨⟨q0, q1, q2, q3⟩, ⟨q4, q5, q6, q7⟩, qf⟩ := cells_eight hhd'
          unfold encI at hen
          by_cases hle : k ≤ x
          · go_wp2_with (at_delete; refine wpList_delete_iter _ rfl _ _ 55 rfl 4 encI_inj keyI Try.underlying55 r b l _ rfl hit3 k HNOT.out rfl ?_)
            intro w4 hit4 k4
            have hh4 := hh3.kp k4 (fun c => hpb c)
            have kr4 := kr3.fin k4 (fun j c => Or.inl (Or.inr c))
            clear hit3 hh3 k4 kr3 hen hhd' q0 q1 q2 q3 q4 q5 q6 q7 qf hsz3
            go_wp2_with fail
            go_roundg (alDel k todo).length
            case measure => rw [HG.out]; exact HLT.out
            case rel =>
              refine ⟨_, _, rfl, hh4, hit4, Lib.hid (fun k' hk' => ?_), Lib.hid (fun k' a c => ?_), kr4⟩
              · rw [alGet_del k k' l hnl.out, if_neg (by omega)]; exact ha.out k' hk'
              · obtain ⟨c1, c2⟩ := mem_of_del hnl.out c
                exact (hbk2.out k' a c1).resolve_left c2
          · go_wp2_with fail
            go_roundg (alDel k todo).length
            case measure => rw [HG.out]; exact HLT.out
            case rel =>
              exact ⟨_, _, rfl, hh3, hit3, ha, Lib.hid (fun k' a c => (hbk2.out k' a c).resolve_left (fun e => by omega)), kr3⟩

end Go.Proofs.Ytlpdoefbjhlegaa
