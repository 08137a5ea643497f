/-
  LINKS SIDE BY SIDE: what a call on one of them leaves of the others; the contracts in that form.
-/
import Derived.Test.YtlpdoefbjhlegaaLinkNet
namespace Go.Proofs.Ytlpdoefbjhlegaa
open Go.RowKit

/-- From one world to a later one: blocks of certain colours alone change, new blocks bear these or none. -/
structure Ext (B : Nat) (S : Nat → Prop) (col : Nat → Nat) (w : World) (col' : Nat → Nat) (w' : World) : Prop where
  cols : Cols B w' col'
  old : ∀ k, k < w.heap.size → col' k = col k
  fresh : ∀ k, w.heap.size ≤ k → col' k ≠ 0 → S (col' k)
  kp : Kp (fun j => S (col j)) w w'
theorem Ext.quiet {B : Nat} {S : Nat → Prop} {col : Nat → Nat} {w w' : World} (hc : Cols B w col) (k : Kp Noone w w') : Ext B S col w col w' :=
  ⟨hc.keep k.size, fun _ _ => rfl, fun k hk hn => by have := hc k hn; omega, k.none⟩
theorem Ext.mono {B : Nat} {S T : Nat → Prop} {col col' : Nat → Nat} {w w' : World} (h : Ext B S col w col' w') (hs : ∀ c, S c → T c) : Ext B T col w col' w' :=
  ⟨h.cols, h.old, fun k a b => hs _ (h.fresh k a b), h.kp.mono (fun _ _ c => hs _ c)⟩
theorem Ext.trans {B : Nat} {S : Nat → Prop} {col col' col2 : Nat → Nat} {w w' w2 : World} (h : Ext B S col w col' w') (k : Ext B S col' w' col2 w2) : Ext B S col w col2 w2 := by
  have s1 := h.kp.size
  refine ⟨k.cols, fun j hj => (k.old j (by omega)).trans (h.old j hj), fun j hj hn => ?_, h.kp.trans' k.kp (fun j hj c => by rw [h.old j hj] at c; exact c)⟩
  by_cases hk : j < w'.heap.size
  · rw [k.old j hk] at hn ⊢
    exact h.fresh j hj hn
  · exact k.fresh j (by omega) hn
theorem Ext.size {B : Nat} {S : Nat → Prop} {col col' : Nat → Nat} {w w' : World} (h : Ext B S col w col' w') : w.heap.size ≤ w'.heap.size := h.kp.size
theorem Ext.drewN {B : Nat} {S : Nat → Prop} {col col' : Nat → Nat} {w w' : World} (h : Ext B S col w col' w') (n : Nat) : Ext B S col w col' (w'.drewN n) := ⟨h.cols, h.old, h.fresh, h.kp.drewN n⟩

def Lk (col : Nat → Nat) (i : Nat) (w : World) (p : Nat) (s : LS) : Prop := (∃ r, LinkAt col i w p s r) ∧ LinkInv s
theorem Lk.ext {B : Nat} {S : Nat → Prop} {col col' : Nat → Nat} {i p : Nat} {s : LS} {w w' : World} (h : Lk col i w p s) (e : Ext B S col w col' w') (hd : ∀ c, S5 i c → ¬ S c) : Lk col' i w' p s := by
  obtain ⟨⟨r, hr⟩, hi⟩ := h
  exact ⟨⟨r, (hr.recol e.old).beside (S := fun c => S c) (e.kp.mono (fun j hj c => by rw [e.old j hj]; exact c)) hd⟩, hi⟩
theorem Lk.keep {col : Nat → Nat} {i p : Nat} {s : LS} {w w' : World} (h : Lk col i w p s) (k : Kp Noone w w') : Lk col i w' p s := by
  obtain ⟨⟨r, hr⟩, hi⟩ := h
  exact ⟨⟨r, hr.keep k⟩, hi⟩
/-- Blocks that nobody owns. -/
def Free (col : Nat → Nat) : Nat → Prop := fun k => col k = 0
theorem FrsP.ext {B : Nat} {S : Nat → Prop} {col col' : Nat → Nat} {w w' : World} {fo : Option Addr} {n cap : Nat} {fs : List (List UInt8)} (h : FrsP (Free col) w fo n cap fs) (e : Ext B S col w col' w') (h0 : ¬ S 0) : FrsP (Free col') w' fo n cap fs :=
  (h.mono (fun j hj c => (e.old j hj).trans c)).kp (e.kp.mono (T := fun j => S (col' j)) (fun j hj c => by rw [e.old j hj]; exact c)) (fun j c d => h0 (c ▸ d))
theorem GotAt.ext {B : Nat} {S : Nat → Prop} {col col' : Nat → Nat} {c : Nat} {w w' : World} {ao : Option Addr} {n cap : Nat} {ls : List (List UInt8)} (h : GotAt col c w ao n cap ls) (hc : Cols B w col) (hc0 : c ≠ 0) (e : Ext B S col w col' w') (h1 : ¬ S c) (h2 : ¬ S (c + 1)) : GotAt col' c w' ao n cap ls :=
  h.kp hc hc0 e.kp (fun _j d => ⟨fun x => h1 (x ▸ d), fun x => h2 (x ▸ d)⟩) e.old

/-- One frame of a row of frames that nobody owns. -/
structure FrAt (col : Nat → Nat) (w : World) (b off : Nat) (bo : Option Addr) (m c : Nat) (f : List UInt8) : Prop where
  free : col b = 0
  lt : b < w.heap.size
  cell : w.cell? ⟨b, off, none⟩ = some (.slice bo m c)
  data : DataAt (Free col) w (bo, m, c) f
theorem FrAt.ext {B : Nat} {S : Nat → Prop} {col col' : Nat → Nat} {w w' : World} {b off : Nat} {bo : Option Addr} {m c : Nat} {f : List UInt8} (h : FrAt col w b off bo m c f) (e : Ext B S col w col' w') (h0 : ¬ S 0) : FrAt col' w' b off bo m c f :=
  ⟨(e.old b h.lt).trans h.free, Nat.lt_of_lt_of_le h.lt e.size, e.kp.cell h.cell (fun d => h0 (h.free ▸ d)),
    ((h.data.mono (E := fun j => col' j = 0) (fun j hj c => (e.old j hj).trans c)).kp (e.kp.mono (T := fun j => S (col' j)) (fun j hj c => by rw [e.old j hj]; exact c)) (fun j c d => h0 (c ▸ d)))⟩
theorem FrAt.keep {col : Nat → Nat} {w w' : World} {b off : Nat} {bo : Option Addr} {m c : Nat} {f : List UInt8} (h : FrAt col w b off bo m c f) (k : Kp Noone w w') : FrAt col w' b off bo m c f :=
  ⟨h.free, Nat.lt_of_lt_of_le h.lt k.size, k.cell h.cell id, h.data.kp k (fun _ _ c => c)⟩
theorem FrsP.get {col : Nat → Nat} {w : World} {fo : Option Addr} {n cap : Nat} {fs : List (List UInt8)} (h : FrsP (Free col) w fo n cap fs) {k : Nat} (hk : k < n) :
    ∃ b off bo m c, ∃ hl : k < fs.length, fo = some ⟨b, off, none⟩ ∧ FrAt col w b (off + k) bo m c fs[k] := by
  have hf := h
  obtain ⟨h1, h2, h3, hs, h4, h5, h6, h7⟩ := h
  have hks : k < hs.length := by omega
  rcases h5 with h5 | ⟨b, off, rfl, hr⟩
  · exfalso
    have := congrArg List.length h5
    simp [headsL] at this
    rw [this] at hks
    simp at hks
  · have hd := h7 k hks (by omega)
    have hc := hr k (by simp [headsL]; omega)
    simp only [headsL, List.getElem_map] at hc
    exact ⟨b, off, hs[k].1, hs[k].2.1, hs[k].2.2, by omega, rfl, h6 (by omega) _ rfl, World.block_lt_of_cell? _ _ hc, hc, hd⟩

theorem new_lk (B : Nat) (col : Nat → Nat) (i : Nat) (boot retry : Int) (w : World) (hc : Cols B w col) (hBw : B ≤ w.heap.size) :
    Calls Try.prog 9 #[.int .i64 boot, .int .i64 retry] w fun e w' => ∃ p col', e = .returned (.pointer (some ⟨p, 0, none⟩)) ∧ Ext B (S5 i) col w col' w' ∧ Lk col' i w' p (newLS boot retry) := by
  refine (new_at B col i boot retry w hc hBw).mono ?_
  rintro e w1 ⟨p, rfl, col', r, k, h1, h2, h3, h4⟩
  exact ⟨p, col', rfl, ⟨h1, h2, h3, k.none⟩, ⟨r, h4⟩, newLS_inv _ _⟩
theorem send_lk (B : Nat) (col : Nat → Nat) (i p : Nat) (s : LS) (fo : Option Addr) (n cap : Nat) (d : List UInt8) (w : World) (h : Lk col i w p s) (hc : Cols B w col) (hBw : B ≤ w.heap.size) (hb : BS w fo n cap d) (hn : s.next < 1048576) :
    Calls Try.prog 13 #[.pointer (some ⟨p, 0, none⟩), .slice fo n cap] w fun e w' => ∃ col', e = .returned (.int .i64 ((sendF s d).2 : Int)) ∧ Ext B (S5 i) col w col' w' ∧ Lk col' i w' p (sendF s d).1 := by
  obtain ⟨⟨r, hr⟩, hi⟩ := h
  refine (send_at B col i p s r fo n cap d w hr hc hi.ok hBw hb _ _ rfl).mono ?_
  rintro e w1 ⟨rfl, col', r', h1, h2, h3, k, h4⟩
  exact ⟨col', rfl, ⟨h1, h2, h3, k⟩, ⟨r', h4⟩, sendF_inv hi d hn⟩
theorem out_lk (B : Nat) (col : Nat → Nat) (i p : Nat) (s : LS) (now : Int) (w : World) (h : Lk col i w p s) (hc : Cols B w col) (hBw : B ≤ w.heap.size) (hnow : -9223372036854775808 ≤ now ∧ now ≤ 9223372036854775807) :
    Calls Try.prog 15 #[.pointer (some ⟨p, 0, none⟩), .int .i64 now] w fun e w' => ∃ fo fcap, e = .returned (.slice fo (emitF s now).2.length fcap) ∧ FrsP (Free col) w' fo (emitF s now).2.length fcap (emitF s now).2 ∧ Ext B (S5 i) col w col w' ∧ Lk col i w' p (emitF s now).1 := by
  obtain ⟨⟨r, hr⟩, hi⟩ := h
  refine (out_at B col i p s r now w hr hc hi.ok hBw hnow).mono ?_
  rintro e w1 ⟨fo, fcap, rfl, h1, h2, k⟩
  refine ⟨fo, fcap, rfl, h1.frsP.mono (fun j _ c => ?_), ⟨hc.keep k.size, fun _ _ => rfl, fun j hj hn => by have := hc j hn; omega, k⟩, h2, emitF_inv hi hnow⟩
  exact Classical.byContradiction fun d => by have := hc j d; omega
theorem in_lk (B : Nat) (col : Nat → Nat) (i p : Nat) (s : LS) (fo : Option Addr) (n cap : Nat) (f : List UInt8) (w : World) (h : Lk col i w p s) (hc : Cols B w col) (hBw : B ≤ w.heap.size) (hb : BS w fo n cap f) (hn : n ≤ 140737488355328)
    (s' : LS) (x : List UInt8) (ok : Bool) (er : Nat) (hR : inF s (parse f) = (s', x, ok, er)) :
    Calls Try.prog 18 #[.pointer (some ⟨p, 0, none⟩), .slice fo n cap] w fun e w' => ∃ xo xc col', e = .returned (.tuple #[.slice xo x.length xc, .bool ok, .int .i64 (er : Int)]) ∧ Ext B (S5 i) col w col' w' ∧ Lk col' i w' p s' ∧ Own (fun k => w.heap.size ≤ k ∧ col' k = 0) w' 5 1 xo x.length xc (bv x) := by
  obtain ⟨⟨r, hr⟩, hi⟩ := h
  have hi2 := inF_inv hi f
  rw [hR] at hi2
  refine (in_at B col i p s r fo n cap f w hr hc hi.ok hBw hb hn s' x ok er hR).mono ?_
  rintro e w1 ⟨xo, xc, rfl, col', r', h1, h2, h3, k, h4, h5⟩
  exact ⟨xo, xc, col', rfl, ⟨h1, h2, h3, k⟩, ⟨⟨r', h4⟩, hi2⟩, h5⟩
theorem waiting_lk (col : Nat → Nat) (i p : Nat) (s : LS) (w : World) (h : Lk col i w p s) :
    Calls Try.prog 20 #[.pointer (some ⟨p, 0, none⟩)] w fun e w' => e = .returned (.int .i64 (s.out.length : Int)) ∧ w = w' := by
  obtain ⟨⟨r, hr⟩, -⟩ := h
  exact waiting_at col i p s r w hr
theorem move_lk (B : Nat) (col : Nat → Nat) (i c p : Nat) (s : LS) (fo : Option Addr) (n fcap : Nat) (fs : List (List UInt8)) (go : Option Addr) (gn gcap : Nat) (gl : List (List UInt8)) (w : World) (h : Lk col i w p s) (hc : Cols B w col) (hBw : B ≤ w.heap.size)
    (hf : FrsP (Free col) w fo n fcap fs) (hlen : ∀ f ∈ fs, f.length ≤ 140737488355328) (hg : GotAt col c w go gn gcap gl) (hci : c ≠ 0 ∧ (c + 1 ≤ i ∨ i + 5 < c)) (hgn : gl.length + fs.length ≤ 1048576) :
    Calls Try.prog 21 #[.slice fo n fcap, .pointer (some ⟨p, 0, none⟩), .slice go gn gcap] w fun e w' => ∃ go' gcap' col', e = .returned (.slice go' (gl ++ (moveF s fs).2).length gcap') ∧ Ext B (fun x => S5 i x ∨ x = c ∨ x = c + 1) col w col' w' ∧ Lk col' i w' p (moveF s fs).1 ∧
      GotAt col' c w' go' (gl ++ (moveF s fs).2).length gcap' (gl ++ (moveF s fs).2) := by
  obtain ⟨⟨r, hr⟩, hi⟩ := h
  refine (move_any B col i c p s r (Free col) fo n fcap fs go gn gcap gl w hr hc hi hBw hf (fun k hk d => by unfold Free at hk; omega) hlen hg hci hgn).mono ?_
  rintro e w1 ⟨go', gcap', rfl, col', r', h1, h2, h3, k, h4, h5⟩
  exact ⟨go', gcap', col', rfl, ⟨h1, h2, h3, k.mono (fun j _ d => d.elim Or.inl (fun d => Or.inr (Or.inl d)))⟩, ⟨⟨r', h4⟩, moveF_inv fs hi⟩, h5⟩

end Go.Proofs.Ytlpdoefbjhlegaa
