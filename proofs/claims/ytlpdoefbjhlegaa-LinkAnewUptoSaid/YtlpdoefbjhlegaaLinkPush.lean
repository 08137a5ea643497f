/-
  A LIST OF MESSAGES GROWS, beside links.
-/
import Derived.Test.YtlpdoefbjhlegaaLinkDuo
namespace Go.Proofs.Ytlpdoefbjhlegaa
open Go.RowKit

theorem GotAt.repaint {col col' : Nat → Nat} {c : Nat} {w : World} {ao : Option Addr} {n cap : Nat} {ls : List (List UInt8)} (h : GotAt col c w ao n cap ls) (hc0 : c ≠ 0) (he : ∀ j, col j ≠ 0 → col' j = col j) : GotAt col' c w ao n cap ls := by
  obtain ⟨h1, hs, h2, h3, h4⟩ := h
  have hm : ∀ (x : Nat), x ≠ 0 → ∀ (j : Nat), Col col x j → Col col' x j := fun x hx j hj => by
    unfold Col at *
    rw [he j (by omega)]; exact hj
  exact ⟨h1, hs, h2, h3.mono (fun j _ d => hm c hc0 j d), fun j a b => (h4 j a b).mono (fun i _ d => hm (c + 1) (by omega) i d)⟩
theorem GotAt.keep {col : Nat → Nat} {c : Nat} {w w' : World} {ao : Option Addr} {n cap : Nat} {ls : List (List UInt8)} (h : GotAt col c w ao n cap ls) (k : Kp Noone w w') : GotAt col c w' ao n cap ls := by
  obtain ⟨h1, hs, h2, h3, h4⟩ := h
  exact ⟨h1, hs, h2, h3.keep k, fun j a b => (h4 j a b).kp k (fun _ _ d => d)⟩
theorem GotAt.bss {col : Nat → Nat} {c : Nat} {w : World} {ao : Option Addr} {n cap : Nat} {ls : List (List UInt8)} (h : GotAt col c w ao n cap ls) : BSS w ao n cap ls := by
  obtain ⟨h1, hs, h2, h3, h4⟩ := h
  exact ⟨h1, h3.2.1, h3.2.2.1, hs, h2, h3.row, fun j a b => (h4 j a b).1⟩
/-- The list's parts, as an append wants them. -/
theorem GotAt.parts {col : Nat → Nat} {c : Nat} {w : World} {ao : Option Addr} {n cap : Nat} {ls : List (List UInt8)} (h : GotAt col c w ao n cap ls) :
    ∃ hs : Hs, hs.length = n ∧ Own (Col col c) w 31 1 ao n cap (headsL hs) ∧ ∀ j (h1 : j < hs.length) (h2 : j < ls.length), DataAt (Col col (c + 1)) w hs[j] ls[j] := h.2
theorem Lk.repaint {col col' : Nat → Nat} {i p : Nat} {s : LS} {w : World} (h : Lk col i w p s) (he : ∀ j, col j ≠ 0 → col' j = col j) : Lk col' i w p s := by
  obtain ⟨⟨r, hr⟩, hi⟩ := h
  exact ⟨⟨r, hr.repaint he⟩, hi⟩
theorem Lk.far {S : Nat → Prop} {col : Nat → Nat} {i p : Nat} {s : LS} {w w' : World} (h : Lk col i w p s) (k : Kp (fun j => S (col j)) w w') (hd : ∀ c, S5 i c → ¬ S c) : Lk col i w' p s := by
  obtain ⟨⟨r, hr⟩, hi⟩ := h
  exact ⟨⟨r, hr.beside k hd⟩, hi⟩

/-- What an append to a list of messages leaves. -/
structure Pushed (B z : Nat) (col : Nat → Nat) (c : Nat) (w : World) (col3 : Nat → Nat) (w3 : World) : Prop where
  cols : Cols B w3 col3
  early : ∀ j, j < z → col3 j = col j
  same : ∀ j, col j ≠ 0 → col3 j = col j
  kp : Kp (Col col c) w w3
theorem Pushed.lk {B z : Nat} {col col3 : Nat → Nat} {c : Nat} {w w3 : World} (h : Pushed B z col c w col3 w3) {i p : Nat} {s : LS} (hl : Lk col i w p s) (hd : ∀ d, S5 i d → d ≠ c) : Lk col3 i w3 p s :=
  (hl.far (S := fun d => d = c) h.kp hd).repaint h.same
theorem Pushed.ext {B z : Nat} {col col3 : Nat → Nat} {c : Nat} {w w3 : World} (h : Pushed B z col c w col3 w3) (hc0 : c ≠ 0) {col0 : Nat → Nat} {w0 : World} (hz : w0.heap.size ≤ z) (hE : Ext B (fun d => d ≠ 0) col0 w0 col w) : Ext B (fun d => d ≠ 0) col0 w0 col3 w3 :=
  ⟨h.cols, fun k hk => (h.early k (by omega)).trans (hE.old k hk), fun _ _ d => d, hE.kp.trans' h.kp (fun j hj d => by unfold Col at d; rw [hE.old j hj] at d; omega)⟩
theorem Pushed.got {B z : Nat} {col col3 : Nat → Nat} {c : Nat} {w w3 : World} (h : Pushed B z col c w col3 w3) {c2 : Nat} {ao : Option Addr} {n cap : Nat} {ls : List (List UInt8)} (hg : GotAt col c2 w ao n cap ls) (h2 : c2 ≠ 0) (hd : c2 ≠ c ∧ c2 + 1 ≠ c) : GotAt col3 c2 w3 ao n cap ls := by
  obtain ⟨h1, hs, h3, h4, h5⟩ := hg
  exact GotAt.repaint ⟨h1, hs, h3, h4.kp h.kp (fun j a d => by unfold Col at a d; omega), fun j a b => (h5 j a b).kp h.kp (fun i a d => by unfold Col at a d; omega)⟩ h2 h.same
theorem GotAt.push {B : Nat} {col : Nat → Nat} {c : Nat} {w w3 : World} {ao ao' xo : Option Addr} {n cap cap' xc : Nat} {x : List UInt8} {ls : List (List UInt8)} {z : Nat} {o : Obj} (h : GotAt col c w ao n cap ls) (hc : Cols B w col) (hB : B ≤ w.heap.size) (hBz : B ≤ z) (hzw : z ≤ w.heap.size) (hc0 : c ≠ 0)
    (hx : Own (fun k => z ≤ k ∧ col k = 0) w 5 1 xo x.length xc (bv x)) (hs : Hs) (hhs : hs.length = n) (hd : ∀ j (h1 : j < hs.length) (h2 : j < ls.length), DataAt (Col col (c + 1)) w hs[j] ls[j])
    (ho : Own (Ex (Col col c) (w.alloc o) w3) w3 31 1 ao' (n + 1) cap' (headsL hs ++ [.slice xo x.length xc])) (k3 : Kp (Col col c) (w.alloc o) w3) :
    ∃ col', GotAt col' c w3 ao' (n + 1) cap' (ls ++ [x]) ∧ Pushed B z col c w col' w3 := by
  obtain ⟨col3, n1, n2, n3, n4, -⟩ := GotAt.snoc h hc hB hBz hzw hc0 hx hs hhs hd ho k3
  exact ⟨col3, n1, n2, n3, n4, ((Kp.refl (Col col c) w).alloc o).trans k3⟩

end Go.Proofs.Ytlpdoefbjhlegaa
