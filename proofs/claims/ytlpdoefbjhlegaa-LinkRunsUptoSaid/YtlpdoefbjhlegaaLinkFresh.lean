/-
  THE WALK of fresh.
-/
import Derived.Test.YtlpdoefbjhlegaaLink
import Derived.Deep.CutRange
namespace Go.Proofs.Ytlpdoefbjhlegaa
open Go.RowKit

def sweepF (S : Int → Bool) : Nat → Int → Int
  | 0, x => x
  | n + 1, x => if S (x + 1) then sweepF S n (x + 1) else x
/-- The first number behind which one lacks. -/
def sweepTo (S : Int → Bool) (x : Int) : Int := sweepF S 2199023255552 x

theorem sweepF_eq (S : Int → Bool) (n : Nat) : ∀ (x y : Int), Swept S x y → y - x ≤ n → sweepF S n x = y := by
  induction n with
  | zero => intro x y h hn; have := h.le; show x = y; omega
  | succ n ih =>
    intro x y h hn
    unfold sweepF
    by_cases hxy : x = y
    · subst hxy
      rw [h.stop, if_neg (by simp)]
    · have hl := h.le
      rw [h.all (x + 1) (by omega) (by omega), if_pos rfl]
      exact ih (x + 1) y ⟨by omega, fun k a b => h.all k (by omega) b, h.stop⟩ (by omega)
theorem sweepTo_eq {S : Int → Bool} {x y : Int} (h : Swept S x y) (h0 : 0 ≤ x) (h1 : y ≤ 1099511627776) : sweepTo S x = y := sweepF_eq S _ x y h (by omega)

def newLife (s : LS) (mb : Int) : LS := if s.peer < mb then { s with peer := mb, low := 0, acks := [], seen := fun _ => false } else s
def swept (s : LS) (x : Int) : LS := { s with low := sweepTo s.seen x, seen := fun k => s.seen k && decide (sweepTo s.seen x < k) }
def acking (s : LS) (mb mn : Int) : LS := if s.acks.length < 32 then { s with acks := s.acks ++ [(mb, mn)] } else s
def taking (s : LS) (mn : Int) : LS := swept { s with seen := fun k => s.seen k || decide (k = mn) } s.low
def fresh2 (s : LS) (mb mn : Int) : LS × Bool :=
  if s.low + 64 < mn then (s, false)
  else if mn ≤ s.low ∨ s.seen mn = true then (acking s mb mn, false) else (taking (acking s mb mn) mn, true)
/-- Whether a message comes for the first time; and the end behind it. -/
def freshF (s : LS) (mb mn base : Int) : LS × Bool :=
  if mb < s.peer then (s, false)
  else fresh2 (swept (newLife s mb) (max (newLife s mb).low (base - 1))) mb mn

theorem ackC_snoc (l : List (Int × Int)) (a : Int × Int) : ackC (l ++ [a]) = ackC l ++ [.int .i64 a.1, .int .i64 a.2] := by
  induction l with
  | nil => rfl
  | cons b r ih => simp [ackC, ih]
theorem info_mark : (Try.prog.info? 68).map (fun i => (i.zero, i.size, i.bytes)) = some (some (.agg #[.int .i64 0, .int .i64 0]), 2, 16) := by kernel_rfl

/-- In the midst of fresh. -/
structure Mid (B : Nat) (col : Nat → Nat) (i : Nat) (w0 : World) (p b g : Nat) (boot retry next : Int) (out : List OutH) (ao : Option Addr) (cap : Nat) (hs : List (Option Addr × Nat × Nat)) (mb mn : Int) (ko : Option Addr) (kcap : Nat) (acks : List (Int × Int)) (peer low : Int) (sl : List (Int × Value)) (w : World) : Prop where
  head : w.heap[p]? = some (.cells #[.int .i64 boot, .int .i64 retry, .int .i64 next, .slice ao out.length cap, .slice ko acks.length kcap, .int .i64 peer, .int .i64 low, .map (some b)] 59 (0, 0))
  outs : OutAt col i w out ao cap hs
  acks : Own (Col col (i + 3)) w 68 2 ko acks.length kcap (ackC acks)
  map : MapIs encI w b sl
  mark : w.heap[g]? = some (.cells #[.int .i64 mb, .int .i64 mn] 68 (0, 0))
  kp : Kp (fun j => i < col j ∧ col j ≤ i + 5) w0 w
  cols : Cols B w col

section
variable {B : Nat} {col : Nat → Nat} {i : Nat} {w0 : World} {p b g : Nat} {boot retry next : Int} {out : List OutH} {ao : Option Addr} {cap : Nat} {hs : List (Option Addr × Nat × Nat)} {mb mn : Int} {ko : Option Addr} {kcap : Nat} {acks : List (Int × Int)} {peer low : Int} {sl : List (Int × Value)} {w w' : World}

theorem Mid.keep (h : Mid B col i w0 p b g boot retry next out ao cap hs mb mn ko kcap acks peer low sl w) (k : Kp Noone w w') : Mid B col i w0 p b g boot retry next out ao cap hs mb mn ko kcap acks peer low sl w' :=
  ⟨k.heap h.head id, h.outs.kp k (fun _j c => c.elim), h.acks.keep k, h.map.kp k id, k.heap h.mark id, h.kp.trans k.none, h.cols.keep k.size⟩
theorem Mid.drewN (h : Mid B col i w0 p b g boot retry next out ao cap hs mb mn ko kcap acks peer low sl w) (n : Nat) : Mid B col i w0 p b g boot retry next out ao cap hs mb mn ko kcap acks peer low sl (w.drewN n) := h.keep ((Kp.refl _ _).drewN n)
/-- A store into the head's block. -/
theorem Mid.set (h : Mid B col i w0 p b g boot retry next out ao cap hs mb mn ko kcap acks peer low sl w) (hp : col p = i + 1) (hb : col b = i + 4) (hg : g ≠ p) {n : Nat} {v : Value} :
    OutAt col i (w.setCell ⟨p, n, none⟩ v) out ao cap hs ∧ Own (Col col (i + 3)) (w.setCell ⟨p, n, none⟩ v) 68 2 ko acks.length kcap (ackC acks) ∧ MapIs encI (w.setCell ⟨p, n, none⟩ v) b sl ∧
      (w.setCell ⟨p, n, none⟩ v).heap[g]? = some (.cells #[.int .i64 mb, .int .i64 mn] 68 (0, 0)) ∧ Kp (fun j => i < col j ∧ col j ≤ i + 5) w0 (w.setCell ⟨p, n, none⟩ v) ∧ Cols B (w.setCell ⟨p, n, none⟩ v) col := by
  have k : Kp (fun j => j = p) w (w.setCell ⟨p, n, none⟩ v) := Kp.setCell (S := fun j => j = p) (p := ⟨p, n, none⟩) (Kp.refl _ _) (fun _ => rfl) v
  refine ⟨h.outs.kp k (fun j c => by subst c; omega), h.acks.kp k (fun j c d => by subst d; unfold Col at c; omega), h.map.kp k (fun c => by subst c; omega), k.heap h.mark hg, h.kp.trans' k (fun j _ c => by subst c; omega), h.cols.keep k.size⟩
theorem Mid.setPeer (h : Mid B col i w0 p b g boot retry next out ao cap hs mb mn ko kcap acks peer low sl w) (hp : col p = i + 1) (hb : col b = i + 4) (hg : g ≠ p) (x : Int) : Mid B col i w0 p b g boot retry next out ao cap hs mb mn ko kcap acks x low sl (w.setCell ⟨p, 5, none⟩ (.int .i64 x)) := by
  obtain ⟨a1, a2, a3, a4, a5, a6⟩ := h.set hp hb hg (n := 5) (v := .int .i64 x)
  exact ⟨by rw [heap_set_cell h.head]; rfl, a1, a2, a3, a4, a5, a6⟩
theorem Mid.setLow (h : Mid B col i w0 p b g boot retry next out ao cap hs mb mn ko kcap acks peer low sl w) (hp : col p = i + 1) (hb : col b = i + 4) (hg : g ≠ p) (x : Int) : Mid B col i w0 p b g boot retry next out ao cap hs mb mn ko kcap acks peer x sl (w.setCell ⟨p, 6, none⟩ (.int .i64 x)) := by
  obtain ⟨a1, a2, a3, a4, a5, a6⟩ := h.set hp hb hg (n := 6) (v := .int .i64 x)
  exact ⟨by rw [heap_set_cell h.head]; rfl, a1, a2, a3, a4, a5, a6⟩
theorem Mid.noAcks (h : Mid B col i w0 p b g boot retry next out ao cap hs mb mn ko kcap acks peer low sl w) (hp : col p = i + 1) (hb : col b = i + 4) (hg : g ≠ p) : Mid B col i w0 p b g boot retry next out ao cap hs mb mn none 0 [] peer low sl (w.setCell ⟨p, 4, none⟩ (.slice none 0 0)) := by
  obtain ⟨a1, a2, a3, a4, a5, a6⟩ := h.set hp hb hg (n := 4) (v := .slice none 0 0)
  exact ⟨by rw [heap_set_cell h.head]; rfl, a1, Own.nil _ _ _ _ _, a3, a4, a5, a6⟩
/-- The map has turned. -/
theorem Mid.toMap (h : Mid B col i w0 p b g boot retry next out ao cap hs mb mn ko kcap acks peer low sl w) (hp : col p = i + 1) (hb : col b = i + 4) (hg : g ≠ b) {sl' : List (Int × Value)} (hm : MapTo encI w w' b sl') : Mid B col i w0 p b g boot retry next out ao cap hs mb mn ko kcap acks peer low sl' w' := by
  obtain ⟨m, k⟩ := hm
  exact ⟨k.heap h.head (fun c => by subst c; omega), h.outs.kp k (fun j c => by subst c; omega), h.acks.kp k (fun j c d => by subst d; unfold Col at c; omega), m, k.heap h.mark hg, h.kp.trans' k (fun j _ c => by subst c; omega), h.cols.keep k.size⟩
theorem Mid.head' (h : Mid B col i w0 p b g boot retry next out ao cap hs mb mn ko kcap acks peer low sl w) : HeadAt w p (.int .i64 boot) (.int .i64 retry) (.int .i64 next) (.slice ao out.length cap) (.slice ko acks.length kcap) (.int .i64 peer) low b := h.head
/-- Behind a sweep. -/
theorem Mid.sweep (h : Mid B col i w0 p b g boot retry next out ao cap hs mb mn ko kcap acks peer low sl w) (hp : col p = i + 1) (hb : col b = i + 4) (hg : g ≠ p ∧ g ≠ b) {x : Int} {sl' : List (Int × Value)} (hh : HeadAt w' p (.int .i64 boot) (.int .i64 retry) (.int .i64 next) (.slice ao out.length cap) (.slice ko acks.length kcap) (.int .i64 peer) x b) (hm : MapIs encI w' b sl')
    (k : Kp (fun j => j = p ∨ j = b) w w') : Mid B col i w0 p b g boot retry next out ao cap hs mb mn ko kcap acks peer x sl' w' := by
  refine ⟨hh, h.outs.kp k (fun j c => by rcases c with c | c <;> subst c <;> omega), h.acks.kp k (fun j c d => by unfold Col at c; rcases d with d | d <;> subst d <;> omega), hm, k.heap h.mark (fun c => by rcases c with c | c; exact hg.1 c; exact hg.2 c), h.kp.trans' k (fun j _ c => by rcases c with c | c <;> subst c <;> omega), h.cols.keep k.size⟩
/-- At the end, in other colours. -/
theorem Mid.done2 {col2 : Nat → Nat} (h : Mid B col2 i w0 p b g boot retry next out ao cap hs mb mn ko kcap acks peer low sl w) (hp : col2 p = i + 1) (hb : col2 b = i + 4) (he : ∀ k, k < w0.heap.size → col2 k = col k) (hn : ∀ k, w0.heap.size ≤ k → col2 k ≠ 0 → i < col2 k ∧ col2 k ≤ i + 5) (S : Int → Bool) (hs' : ∀ k, alGet k sl = if S k then some (.bool true) else none) :
    LkTo B col i w0 p ⟨boot, retry, next, out, acks, peer, low, S⟩ w :=
  ⟨col2, ⟨ao, cap, ko, kcap, b, hs, sl⟩, h.cols, he, hn, h.kp.mono (fun k hk c => by rw [he k hk] at c; exact c), ⟨hp, h.head, h.outs, h.acks, hb, h.map, hs'⟩⟩
/-- Behind an append to the acknowledgements. -/
theorem Mid.append {w3 w4 : World} {ko' : Option Addr} {kcap' : Nat} {a : Int × Int} (h : Mid B col i w0 p b g boot retry next out ao cap hs mb mn ko kcap acks peer low sl w) (hp : col p = i + 1) (hb : col b = i + 4) (hg : g ≠ p) (hg3 : col g ≠ i + 3) (k3 : Kp Noone w w3) (hB : B ≤ w.heap.size)
    (ho : Own (Ex (Col col (i + 3)) w3 w4) w4 68 2 ko' (acks.length + 1) kcap' (ackC acks ++ [.int .i64 a.1, .int .i64 a.2])) (k4 : Kp (Col col (i + 3)) w3 w4) :
    Mid B (paint col w3 w4 (i + 3)) i w0 p b g boot retry next out ao cap hs mb mn ko' kcap' (acks ++ [a]) peer low sl (w4.setCell ⟨p, 4, none⟩ (.slice ko' (acks.length + 1) kcap')) := by
  have h3 := h.keep k3
  have hc3 := h3.cols.paint (Nat.le_trans hB k3.size) k4.size (i + 3)
  have hplt : p < w3.heap.size := (Array.getElem?_eq_some_iff.1 h3.head).1
  have hglt : g < w3.heap.size := (Array.getElem?_eq_some_iff.1 h3.mark).1
  have hblt := h3.map.lt
  have hp4 := k4.heap h3.head (fun c => by unfold Col at c; omega)
  have hg4 := k4.heap h3.mark hg3
  have hm4 := h3.map.kp k4 (fun c => by unfold Col at c; omega)
  have ho4 := h3.outs.other h3.cols k4 (fun j c => by unfold Col at c; omega) (i + 3)
  have k5 : Kp (fun j => j = p) w4 (w4.setCell ⟨p, 4, none⟩ (.slice ko' (acks.length + 1) kcap')) := Kp.setCell (S := fun j => j = p) (p := ⟨p, 4, none⟩) (Kp.refl _ _) (fun _ => rfl) _
  have hpn : paint col w3 w4 (i + 3) p = i + 1 := by unfold Proofs.Ytlpdoefbjhlegaa.paint; rw [if_neg (by omega)]; exact hp
  have hbn : paint col w3 w4 (i + 3) b = i + 4 := by unfold Proofs.Ytlpdoefbjhlegaa.paint; rw [if_neg (by omega)]; exact hb
  have hold : ∀ j, j < w3.heap.size → paint col w3 w4 (i + 3) j = col j := fun j hj => by unfold Proofs.Ytlpdoefbjhlegaa.paint; rw [if_neg (by omega)]
  refine ⟨by rw [heap_set_cell hp4, List.length_append]; rfl, ho4.kp k5 (fun j c => by subst c; omega), ?_, hm4.kp k5 (fun c => by subst c; omega), k5.heap hg4 hg, ?_, hc3.keep k5.size⟩
  · rw [List.length_append, ackC_snoc]
    exact ho.painted.kp k5 (fun j c d => by subst d; unfold Col at c; omega)
  · have hk : Kp (fun j => i < col j ∧ col j ≤ i + 5) w0 (w4.setCell ⟨p, 4, none⟩ (.slice ko' (acks.length + 1) kcap')) :=
      (h3.kp.trans' k4 (fun j _ c => by unfold Col at c; omega)).trans' k5 (fun j _ c => by subst c; omega)
    exact hk.mono (fun j hj c => by rw [hold j (Nat.lt_of_lt_of_le hj h3.kp.size)]; exact c)
/-- At the end. -/
theorem Mid.done (h : Mid B col i w0 p b g boot retry next out ao cap hs mb mn ko kcap acks peer low sl w) (hp : col p = i + 1) (hb : col b = i + 4) (hc : Cols B w0 col) (S : Int → Bool) (hs' : ∀ k, alGet k sl = if S k then some (.bool true) else none) :
    LkTo B col i w0 p ⟨boot, retry, next, out, acks, peer, low, S⟩ w :=
  ⟨col, ⟨ao, cap, ko, kcap, b, hs, sl⟩, h.cols, fun _ _ => rfl, fun k hk hn => by have := hc k hn; omega, h.kp, ⟨hp, h.head, h.outs, h.acks, hb, h.map, hs'⟩⟩
end

/-- How the colours lie in the midst of fresh, and which numbers have come. -/
structure Pt (col0 col : Nat → Nat) (i : Nat) (w0 : World) (p b g : Nat) (sl : List (Int × Value)) (s : LS) : Prop where
  cp : col p = i + 1
  cb : col b = i + 4
  cg : col g = 0
  gp : g ≠ p
  gb : g ≠ b
  old : ∀ k, k < w0.heap.size → col k = col0 k
  new : ∀ k, w0.heap.size ≤ k → col k ≠ 0 → i < col k ∧ col k ≤ i + 5
  seen : ∀ k, alGet k sl = if s.seen k then some (.bool true) else none
  max : ∀ k, s.seen k = true → k ≤ 1099511627776

theorem Pt.paint {col0 col : Nat → Nat} {i : Nat} {w0 w3 w4 : World} {p b g : Nat} {sl : List (Int × Value)} {s : LS} (h : Pt col0 col i w0 p b g sl s) (hw : w0.heap.size ≤ w3.heap.size) (hp : p < w3.heap.size) (hb : b < w3.heap.size) (hg : g < w3.heap.size) :
    Pt col0 (paint col w3 w4 (i + 3)) i w0 p b g sl s := by
  have hold : ∀ j, j < w3.heap.size → Proofs.Ytlpdoefbjhlegaa.paint col w3 w4 (i + 3) j = col j := fun j hj => by unfold Proofs.Ytlpdoefbjhlegaa.paint; rw [if_neg (by omega)]
  refine ⟨by rw [hold p hp]; exact h.cp, by rw [hold b hb]; exact h.cb, by rw [hold g hg]; exact h.cg, h.gp, h.gb, fun k hk => by rw [hold k (by omega)]; exact h.old k hk, fun k hk hn => ?_, h.seen, h.max⟩
  unfold Proofs.Ytlpdoefbjhlegaa.paint at hn ⊢
  split at hn
  · rename_i hc; rw [if_pos hc]; omega
  · rename_i hc; rw [if_neg hc]; exact h.new k hk hn
theorem acking_low (s : LS) (mb mn : Int) : (acking s mb mn).low = s.low := by unfold acking; split <;> rfl
theorem acking_seen (s : LS) (mb mn : Int) : (acking s mb mn).seen = s.seen := by unfold acking; split <;> rfl

/-- In the midst of fresh, the end's state being s. -/
def St (B : Nat) (col0 : Nat → Nat) (i : Nat) (w0 : World) (p b g : Nat) (ao : Option Addr) (cap : Nat) (hs : List (Option Addr × Nat × Nat)) (mb mn : Int) (s : LS) (w : World) : Prop :=
  ∃ (col : Nat → Nat) (ko : Option Addr) (kcap : Nat) (sl : List (Int × Value)) (peer low : Int) (acks : List (Int × Int)), Mid B col i w0 p b g s.boot s.retry s.next s.out ao cap hs mb mn ko kcap acks peer low sl w ∧ Hid (Pt col0 col i w0 p b g sl s) ∧ Hid (acks = s.acks ∧ peer = s.peer ∧ low = s.low) ∧
    ((0 ≤ low ∧ low ≤ 1099511627776) ∧ acks.length ≤ 64 ∧ w0.heap.size ≤ w.heap.size)
theorem St.done {B : Nat} {col0 : Nat → Nat} {i : Nat} {w0 : World} {p b g : Nat} {ao : Option Addr} {cap : Nat} {hs : List (Option Addr × Nat × Nat)} {mb mn : Int} {s : LS} {w : World}
    (h : St B col0 i w0 p b g ao cap hs mb mn s w) : LkTo B col0 i w0 p s w := by
  obtain ⟨col, ko, kcap, sl, peer, low, acks, hM, hP', hE, _⟩ := h
  obtain ⟨rfl, rfl, rfl⟩ := hE.out
  have hP := hP'.out
  exact hM.done2 hP.cp hP.cb hP.old hP.new s.seen hP.seen
theorem St.drewN {B : Nat} {col0 : Nat → Nat} {i : Nat} {w0 : World} {p b g : Nat} {ao : Option Addr} {cap : Nat} {hs : List (Option Addr × Nat × Nat)} {mb mn : Int} {s : LS} {w : World}
    (h : St B col0 i w0 p b g ao cap hs mb mn s w) (n : Nat) : St B col0 i w0 p b g ao cap hs mb mn s (w.drewN n) := by
  obtain ⟨col, ko, kcap, sl, peer, low, acks, hM, hP, hE, hb⟩ := h
  exact ⟨col, ko, kcap, sl, peer, low, acks, hM.drewN n, hP, hE, hb.1, hb.2.1, Nat.le_trans hb.2.2 ((Kp.refl Noone w).drewN n).size⟩

set_option maxHeartbeats 4000000 in
set_option maxRecDepth 100000 in
theorem fresh_at (B : Nat) (col : Nat → Nat) (i p : Nat) (s : LS) (r : LR) (mb mn base : Int) (w : World) (h : LinkAt col i w p s r) (hc : Cols B w col) (hok : LinkOk s) (hBw : B ≤ w.heap.size)
    (_h1 : 1 ≤ mb ∧ mb ≤ 1099511627776) (h2 : 1 ≤ mn ∧ mn ≤ 1099511627776) (h3 : 1 ≤ base ∧ base ≤ mn) (s' : LS) (ok : Bool) (hR : freshF s mb mn base = (s', ok)) :
    Calls Try.prog 40 #[.pointer (some ⟨p, 0, none⟩), .agg #[.int .i64 mb, .int .i64 mn], .int .i64 base] w fun e w' => e = .returned (.bool ok) ∧ LkTo B col i w p s' w' := by
  obtain ⟨i0, hi, hz0, hz1, hz2⟩ := info_parts info_mark
  obtain ⟨ao, cap, ko, kcap, b, hs, sl⟩ := r
  obtain ⟨hown, hhead, houts, hacks, hmapc, hmap, hseen⟩ := h
  simp only [] at hown hhead houts hacks hmapc hmap hseen
  have HR := Lib.hid hR
  have hplt := (Array.getElem?_eq_some_iff.1 hhead).1
  have hblt := hmap.lt
  have hMA : Mid B col i w p b w.heap.size s.boot s.retry s.next s.out ao cap hs mb mn ko kcap s.acks s.peer s.low sl (w.alloc (.cells #[.int .i64 mb, .int .i64 mn] 68)) :=
    ⟨((Kp.refl Noone w).alloc _).heap hhead id, houts.kp ((Kp.refl Noone w).alloc _) (fun j c => c.elim), hacks.keep ((Kp.refl Noone w).alloc _), hmap.kp ((Kp.refl Noone w).alloc _) id, heap_alloc_new w _, (Kp.refl _ _).alloc _, hc.keep ((Kp.refl Noone w).alloc _).size⟩
  have hPA : Hid (Pt col col i w p b w.heap.size sl s) := Lib.hid ⟨hown, hmapc, Classical.byContradiction fun c => by have := (hc _ c).2; omega, by omega, by omega, fun _ _ => rfl, fun k hk hn => by have := hc k hn; omega, hseen, fun k hk => (hok.seen k hk).2⟩
  have hal := hok.acksL
  have hpe := hok.peer
  have hlo := hok.low
  have hsz : w.heap.size ≤ (w.alloc (.cells #[.int .i64 mb, .int .i64 mn] 68)).heap.size := ((Kp.refl Noone w).alloc _).size
  have HSeen := Lib.hid hok.seen
  have hSA : St B col i w p b w.heap.size ao cap hs mb mn s (w.alloc (.cells #[.int .i64 mb, .int .i64 mn] 68)) := ⟨_, _, _, _, _, _, _, hMA, hPA, Lib.hid ⟨rfl, rfl, rfl⟩, hlo, hal, hsz⟩
  obtain ⟨⟨q0, q1, q2, q3⟩, ⟨q4, q5, q6, q7⟩, qf⟩ := cells_eight hMA.head
  obtain ⟨g0, g1, -, -⟩ := cells_two hMA.mark
  clear hR hseen hown hmapc hhead houts hacks hmap hc hok hPA
  go_enter Try.func40, Try.ntmps40
  go_wp2_with fail
  generalize w.alloc (.cells #[.int .i64 mb, .int .i64 mn] 68) = wA at *
  by_cases c1 : mb < s.peer
  · have HC1 := Lib.hid c1
    go_quiet (fail)
    go_wp2_with fail
    have e := HR.out
    unfold freshF at e
    rw [if_pos HC1.out] at e
    simp only [Prod.mk.injEq] at e
    obtain ⟨rfl, rfl⟩ := e
    go_ret
    exact ⟨rfl, (hSA.drewN _).done⟩
  have HC1 := Lib.hid c1
  have HL : Hid (fresh2 (swept (newLife s mb) (max (newLife s mb).low (base - 1))) mb mn = (s', ok)) := Lib.hid (by
    have e := HR.out
    unfold freshF at e
    rw [if_neg c1] at e
    exact e)
  go_quiet (fail)
  have hMB := hMA.drewN nq
  have hSB := hSA.drewN nq
  generalize wA.drewN nq = wB at *
  clear hMA hSA q0 q1 q2 q3 q4 q5 q6 q7 qf g0 g1 HR HC1
  obtain ⟨⟨q0, q1, q2, q3⟩, ⟨q4, q5, q6, q7⟩, qf⟩ := cells_eight hMB.head
  obtain ⟨g0, g1, -, -⟩ := cells_two hMB.mark
  go_upto_region 3 with fail
  go_quiet (fail)
  have hMC := hMB.drewN nq
  have hSC := hSB.drewN nq
  generalize wB.drewN nq = wC at *
  clear hMB hSB q0 q1 q2 q3 q4 q5 q6 q7 qf g0 g1
  go_upto_if 20 with fail
  go_cut [] from 7 (fun wx => St B col i w p b w.heap.size ao cap hs mb mn (newLife s mb) wx)
  case first =>
    by_cases c2 : s.peer < mb
    · have HN : Hid (newLife s mb = { s with peer := mb, low := 0, acks := [], seen := fun _ => false }) := Lib.hid (by unfold newLife; rw [if_pos c2])
      obtain ⟨col', ko', kcap', sl', peer', low', acks', hM, hP, hE, hb⟩ := hSC
      obtain ⟨⟨q0, q1, q2, q3⟩, ⟨q4, q5, q6, q7⟩, qf⟩ := cells_eight hM.head
      obtain ⟨g0, g1, -, -⟩ := cells_two hM.mark
      have hMD := ((hM.setPeer hP.out.cp hP.out.cb hP.out.gp mb).setLow hP.out.cp hP.out.cb hP.out.gp 0).noAcks hP.out.cp hP.out.cb hP.out.gp
      go_wp2_with (with_reducible refine wpList_clear_is _ rfl _ 55 rfl 4 Try.underlying55 b sl' rfl hMD.map ?_)
      intro w1 hto
      have hM1 := hMD.toMap hP.out.cp hP.out.cb hP.out.gb hto
      go_wp2_with fail
      go_meet
      case rel =>
        rw [HN.out]
        refine ⟨col', _, _, [], mb, 0, [], hM1, Lib.hid ⟨hP.out.cp, hP.out.cb, hP.out.cg, hP.out.gp, hP.out.gb, hP.out.old, hP.out.new, fun k => rfl, fun k hk => by cases hk⟩, Lib.hid ⟨rfl, rfl, rfl⟩, by omega, by simp, Nat.le_trans hb.2.2 ?_⟩
        have := hto.2.size
        simpa using this
    · have HN : Hid (newLife s mb = s) := Lib.hid (by unfold newLife; rw [if_neg c2])
      go_wp2_with fail
      go_meet
      case rel => rw [HN.out]; exact hSC
  case rest =>
  clear hMC hSC
  generalize newLife s mb = s1 at *
  clear c1
  obtain ⟨col1, ko1, kcap1, sl1, peer1, low1, acks1, hM1, hP1, hE1, hb1⟩ := hcut
  obtain ⟨⟨q0, q1, q2, q3⟩, ⟨q4, q5, q6, q7⟩, qf⟩ := cells_eight hM1.head
  have HL2 : Hid (fresh2 (swept s1 (max low1 (base - 1))) mb mn = (s', ok)) := Lib.hid (by rw [hE1.out.2.2]; exact HL.out)
  clear HL
  go_upto_region 6 with fail
  go_cut [] from 7 (fun wx => ∃ y : Int, Hid (y = max low1 (base - 1)) ∧ Mid B col1 i w p b w.heap.size s1.boot s1.retry s1.next s1.out ao cap hs mb mn ko1 kcap1 acks1 peer1 y sl1 wx ∧ (0 ≤ y ∧ y ≤ 1099511627776 ∧ w.heap.size ≤ wx.heap.size))
  case first =>
    by_cases cm : low1 < base - 1
    · have hMX : Hid (base - 1 = max low1 (base - 1)) := Lib.hid (by omega)
      go_wp2_with fail
      go_meet
      case rel => exact ⟨base - 1, hMX, hM1.setLow hP1.out.cp hP1.out.cb hP1.out.gp (base - 1), by omega, by omega, by simpa using hb1.2.2⟩
    · have hMX : Hid (low1 = max low1 (base - 1)) := Lib.hid (by omega)
      go_wp2_with fail
      go_meet
      case rel => exact ⟨low1, hMX, hM1.setLow hP1.out.cp hP1.out.cb hP1.out.gp low1, by omega, by omega, by simpa using hb1.2.2⟩
  case rest =>
  obtain ⟨y, hY, hM2, hb2⟩ := hcut
  clear hM1 q0 q1 q2 q3 q4 q5 q6 q7 qf
  go_wp2_with fail
  refine (sweep_any p b _ _ _ _ _ _ y sl1 s1.seen _ hM2.head' hM2.map hP1.out.seen hb2.1 hP1.out.max hb2.2.1).mono ?_
  rintro e w2 ⟨x, sl2, rfl, hsw, hx, hh2, hmp2, hs2, k2⟩
  have hS3 : St B col i w p b w.heap.size ao cap hs mb mn (swept s1 (max low1 (base - 1))) w2 := by
    have hxy := sweepTo_eq hsw hb2.1 hx
    rw [← hY.out]
    unfold swept
    rw [hxy]
    have hP := hP1.out
    have hle := hsw.le
    exact ⟨col1, ko1, kcap1, sl2, peer1, x, acks1, hM2.sweep hP.cp hP.cb ⟨hP.gp, hP.gb⟩ hh2 hmp2 k2, Lib.hid ⟨hP.cp, hP.cb, hP.cg, hP.gp, hP.gb, hP.old, hP.new, hs2, fun k hk => hP.max k (by simp at hk; exact hk.1)⟩, Lib.hid ⟨hE1.out.1, hE1.out.2.1, rfl⟩, ⟨by omega, by omega⟩, hb1.2.1, Nat.le_trans hb2.2.2 k2.size⟩
  generalize swept s1 (max low1 (base - 1)) = s2 at *
  clear hM2 hsw hh2 hmp2 hs2 k2 hP1 hE1 hb1 hY hb2 hx
  obtain ⟨col2, ko2, kcap2, sl2', peer2, low2, acks2, hM2, hP2, hE2, hb2⟩ := id hS3
  obtain ⟨⟨q0, q1, q2, q3⟩, ⟨q4, q5, q6, q7⟩, qf⟩ := cells_eight hM2.head
  obtain ⟨g0, g1, -, -⟩ := cells_two hM2.mark
  by_cases c3 : low2 + 64 < mn
  · have HE : Hid (s2 = s' ∧ false = ok) := Lib.hid (by
      have e := HL2.out
      unfold fresh2 at e
      rw [← hE2.out.2.2, if_pos c3] at e
      simpa using e)
    go_wp2_with fail
    go_quiet (fail)
    go_wp2_with fail
    go_ret
    obtain ⟨rfl, rfl⟩ := HE.out
    exact ⟨rfl, (hS3.drewN _).done⟩
  have HL3 : Hid ((if mn ≤ low2 ∨ s2.seen mn = true then (acking s2 mb mn, false) else (taking (acking s2 mb mn) mn, true)) = (s', ok)) := Lib.hid (by
      have e := HL2.out
      unfold fresh2 at e
      rw [← hE2.out.2.2, if_neg c3] at e
      exact e)
  go_wp2_with fail
  go_quiet (fail)
  have hM3 := hM2.drewN nq
  have hsz3 : w.heap.size ≤ (w2.drewN nq).heap.size := Nat.le_trans hb2.2.2 ((Kp.refl Noone w2).drewN nq).size
  have hS4 := hS3.drewN nq
  generalize w2.drewN nq = w3 at *
  clear hM2 hS3 q0 q1 q2 q3 q4 q5 q6 q7 qf g0 g1 HL2
  obtain ⟨⟨q0, q1, q2, q3⟩, ⟨q4, q5, q6, q7⟩, qf⟩ := cells_eight hM3.head
  obtain ⟨g0, g1, -, -⟩ := cells_two hM3.mark
  go_upto_if 61 with fail
  go_cut [] from 7 (fun wx => St B col i w p b w.heap.size ao cap hs mb mn (acking s2 mb mn) wx)
  case first =>
    by_cases c4 : acks2.length < 32
    · have HAK : Hid (acking s2 mb mn = { s2 with acks := s2.acks ++ [(mb, mn)] }) := Lib.hid (by unfold acking; rw [if_pos (by rw [← hE2.out.1]; exact c4)])
      have kar : ∀ o : Obj, Kp Noone w3 (w3.alloc o).drew := fun o => ((Kp.refl _ _).alloc o).drew
      have hM3a := fun o : Obj => hM3.keep (kar o)
      have hka4 := fun o : Obj => (cells_eight (hM3a o).head).2.1.1
      have hkg0 := fun o : Obj => (cells_two (hM3a o).mark).1
      have hkg1 := fun o : Obj => (cells_two (hM3a o).mark).2.1
      have HR4 : Hid (∀ W : World, Row (W.alloc (.cells #[.int .i64 mb, .int .i64 mn] 68)) (some ⟨W.heap.size, 0, none⟩) [.int .i64 mb, .int .i64 mn]) := by
        intro W
        refine Row.ofHeap (e := 68) (fr := (0, 0)) ?_
        rw [heap_alloc_new]
      have HONE : Hid (∀ u ∈ [Value.int .i64 mb, Value.int .i64 mn], u.oneCell' = true) := Lib.hid (by intro u hu; simp at hu; rcases hu with rfl | rfl <;> rfl)
      go_wp2_with fail
      go_region_law (refine step_append_gen rfl (.tmp 66) (.tmp 68) 57 rfl 68 i0 (.agg #[.int .i64 0, .int .i64 0]) 2 16 Try.underlying57 hi hz0 hz1 hz2 rfl ko2 acks2.length kcap2 rfl (some ⟨w3.heap.size, 0, none⟩) 1 1 rfl _ _ (hM3a _).acks [.int .i64 mb, .int .i64 mn] rfl ((HR4.out _).keep ((Kp.refl _ _).drew)) HONE.out (by omega) (by unfold maxLen; omega) ?_; intro ko3 kcap3 w4 ho4 k4; have hp4 := k4.heap (hM3a _).head (fun c => by unfold Col at c; have := hP2.out.cp; omega); obtain ⟨⟨r0, r1, r2, r3⟩, ⟨r4, r5, r6, r7⟩, rf⟩ := cells_eight hp4)
      all_goals (
        have hP := hP2.out
        have hMf := hM3.append (a := (mb, mn)) hP.cp hP.cb hP.gp (by have := hP.cg; omega) (kar _) (by omega) ho4 k4
        have hka := (kar (.cells #[.int .i64 mb, .int .i64 mn] 68)).size
        have hPf := Lib.hid (hP.paint (w4 := w4) (Nat.le_trans hsz3 hka) (Array.getElem?_eq_some_iff.1 (hM3a _).head).1 (hM3a _).map.lt (Array.getElem?_eq_some_iff.1 (hM3a _).mark).1)
        have hsf : w.heap.size ≤ w4.heap.size := Nat.le_trans (Nat.le_trans hsz3 hka) k4.size
        have hl33 : (acks2 ++ [(mb, mn)]).length ≤ 64 := by simp; omega
        clear ho4 k4 hp4 r0 r1 r2 r3 hM3a hka4 hkg0 hkg1 kar HR4 hM3 q0 q1 q2 q3 q4 q5 q6 q7 qf g0 g1 hka
        go_wp2_with fail
        go_meet
        case rel =>
          rw [HAK.out]
          exact ⟨_, ko3, kcap3, sl2', peer2, low2, _, hMf, Lib.hid ⟨hPf.out.cp, hPf.out.cb, hPf.out.cg, hPf.out.gp, hPf.out.gb, hPf.out.old, hPf.out.new, hPf.out.seen, hPf.out.max⟩, Lib.hid ⟨by rw [hE2.out.1], hE2.out.2.1, hE2.out.2.2⟩, hb2.1, hl33, by simpa using hsf⟩)
    · have HAK : Hid (acking s2 mb mn = s2) := Lib.hid (by unfold acking; rw [if_neg (by rw [← hE2.out.1]; exact c4)])
      go_wp2_with fail
      go_meet
      case rel => rw [HAK.out]; exact hS4
  case rest =>
  have HL4 : Hid ((if mn ≤ (acking s2 mb mn).low ∨ (acking s2 mb mn).seen mn = true then (acking s2 mb mn, false) else (taking (acking s2 mb mn) mn, true)) = (s', ok)) := Lib.hid (by rw [acking_low, acking_seen, ← hE2.out.2.2]; exact HL3.out)
  generalize acking s2 mb mn = s3 at *
  clear HL3 hM3 hS4 hP2 hE2 hb2 q0 q1 q2 q3 q4 q5 q6 q7 qf g0 g1 hsz3
  obtain ⟨col3, ko3, kcap3, sl3, peer3, low3, acks3, hM, hP3, hE3, hb3⟩ := id hcut
  obtain ⟨⟨q0, q1, q2, q3⟩, ⟨q4, q5, q6, q7⟩, qf⟩ := cells_eight hM.head
  obtain ⟨g0, g1, -, -⟩ := cells_two hM.mark
  have hlk := fun n : Nat => (hM.map.kp ((Kp.refl Noone wc).drewN n) id).lookup (P := Try.prog) (t := 3) (m := 55) (e := 4) keyI Try.underlying55 (zero_bool _) mn false
  have hget := hP3.out.seen mn
  by_cases c6 : mn ≤ low3
  · have HE : Hid (s3 = s' ∧ false = ok) := Lib.hid (by
      have e := HL4.out
      rw [← hE3.out.2.2, if_pos (Or.inl c6)] at e
      simpa using e)
    clear hlk hget
    go_wp2_with fail
    go_quiet (fail)
    go_wp2_with fail
    go_ret
    obtain ⟨rfl, rfl⟩ := HE.out
    exact ⟨rfl, (hcut.drewN _).done⟩
  cases hS : s3.seen mn with
  | true =>
    have HE : Hid (s3 = s' ∧ false = ok) := Lib.hid (by
      have e := HL4.out
      rw [if_pos (Or.inr hS)] at e
      simpa using e)
    rw [hS] at hget
    simp only [if_true] at hget
    rw [hget] at hlk
    simp only [Bool.false_eq_true, if_false, Option.getD_some, encI] at hlk
    clear hget hS
    go_wp2_with fail
    go_quiet (fail)
    go_wp2_with fail
    go_ret
    obtain ⟨rfl, rfl⟩ := HE.out
    exact ⟨rfl, (hcut.drewN _).done⟩
  | false =>
    have HE : Hid (taking s3 mn = s' ∧ true = ok) := Lib.hid (by
      have e := HL4.out
      rw [← hE3.out.2.2, if_neg (by simp [c6, hS])] at e
      simpa using e)
    rw [hS] at hget
    simp only [Bool.false_eq_true, if_false] at hget
    rw [hget] at hlk
    simp only [Bool.false_eq_true, if_false, Option.getD_none, encI] at hlk
    clear hget hS
    go_wp2_with fail
    go_quiet (fail)
    have hM4 := hM.drewN nq
    have hsz4 : w.heap.size ≤ (wc.drewN nq).heap.size := Nat.le_trans hb3.2.2 ((Kp.refl Noone wc).drewN nq).size
    generalize wc.drewN nq = w4 at *
    clear hM hcut hlk q0 q1 q2 q3 q4 q5 q6 q7 qf g0 g1 HL4
    obtain ⟨⟨q0, q1, q2, q3⟩, ⟨q4, q5, q6, q7⟩, qf⟩ := cells_eight hM4.head
    obtain ⟨g0, g1, -, -⟩ := cells_two hM4.mark
    go_wp2_with fail
    obtain ⟨w5, hrun, hto⟩ := (hM4.keep ((Kp.refl Noone w4).drew)).map.update (P := Try.prog) (t := 3) (m := 55) (e := 4) keyI Try.underlying55 mn (.bool true)
    simp only [encI] at hrun
    have hM5 := (hM4.keep ((Kp.refl Noone w4).drew)).toMap hP3.out.cp hP3.out.cb hP3.out.gb hto
    have hsz5 : w.heap.size ≤ w5.heap.size := Nat.le_trans hsz4 (Nat.le_trans ((Kp.refl Noone w4).drew).size hto.2.size)
    clear hto
    go_region
    all_goals (
      clear hrun q0 q1 q2 q3 q4 q5 q6 q7 qf g0 g1 hM4
      go_wp2_with fail
      refine (sweep_any p b _ _ _ _ _ _ low3 _ (fun k => s3.seen k || decide (k = mn)) _ hM5.head' hM5.map (fun k => by
        rw [alGet_put, hP3.out.seen k]
        by_cases hk : k = mn
        · simp [hk]
        · simp [hk]) hb3.1.1 (fun k hk => by
        simp at hk
        rcases hk with hk | hk
        · exact hP3.out.max k hk
        · omega) hb3.1.2).mono ?_
      rintro e w6 ⟨z, sl6, rfl, hsw, hz, hh6, hmp6, hs6, k6⟩
      have hS6 : St B col i w p b w.heap.size ao cap hs mb mn (taking s3 mn) w6 := by
        have hxy := sweepTo_eq hsw hb3.1.1 hz
        unfold taking swept
        simp only [← hE3.out.2.2, hxy]
        have hP := hP3.out
        have hle := hsw.le
        exact ⟨col3, ko3, kcap3, sl6, peer3, z, acks3, hM5.sweep hP.cp hP.cb ⟨hP.gp, hP.gb⟩ hh6 hmp6 k6, Lib.hid ⟨hP.cp, hP.cb, hP.cg, hP.gp, hP.gb, hP.old, hP.new, hs6, fun k hk => by
          simp at hk
          rcases hk.1 with h | h
          · exact hP.max k h
          · omega⟩, Lib.hid ⟨hE3.out.1, hE3.out.2.1, rfl⟩, ⟨by omega, by omega⟩, hb3.2.1, Nat.le_trans hsz5 k6.size⟩
      clear hM5 hsw hh6 hmp6 hs6 k6
      go_wp2_with fail
      go_ret
      obtain ⟨rfl, rfl⟩ := HE.out
      exact ⟨rfl, hS6.done⟩)

end Go.Proofs.Ytlpdoefbjhlegaa
