/-
  A LIST OF MESSAGES GROWS, beside links.
-/
import Derived.Test.YtlpdoefbjhlegaaLinkDuo
namespace Go.Proofs.Ytlpdoefbjhlegaa
open Go.RowKit

theorem GotAt.repaint {col col' : Nat → Nat} {c : Nat} {w : World} {ao : Option Addr} {n cap : Nat} {ls : List (List UInt8)} (h : GotAt col c w ao n cap ls) (hc0 : c ≠ 0) (he : ∀ j, col j ≠ 0 → col' j = col j) : GotAt col' c w ao n cap ls := by
  obtain ⟨h1, hs, h2, h3, h4⟩ := h
  have hm : ∀ (x : Nat), x ≠ 0 → ∀ (j : Nat), Col col x j → Col col' x j := fun x hx j hj => by
    unfold Col at *
    rw [he j (by omega)]; exact hj
  exact ⟨h1, hs, h2, h3.mono (fun j _ d => hm c hc0 j d), fun j a b => (h4 j a b).mono (fun i _ d => hm (c + 1) (by omega) i d)⟩
theorem GotAt.keep {col : Nat → Nat} {c : Nat} {w w' : World} {ao : Option Addr} {n cap : Nat} {ls : List (List UInt8)} (h : GotAt col c w ao n cap ls) (k : Kp Noone w w') : GotAt col c w' ao n cap ls := by
  obtain ⟨h1, hs, h2, h3, h4⟩ := h
  exact ⟨h1, hs, h2, h3.keep k, fun j a b => (h4 j a b).kp k (fun _ _ d => d)⟩
theorem GotAt.bss {col : Nat → Nat} {c : Nat} {w : World} {ao : Option Addr} {n cap : Nat} {ls : List (List UInt8)} (h : GotAt col c w ao n cap ls) : BSS w ao n cap ls := by
  obtain ⟨h1, hs, h2, h3, h4⟩ := h
  exact ⟨h1, h3.2.1, h3.2.2.1, hs, h2, h3.row, fun j a b => (h4 j a b).1⟩
/-- The list's parts, as an append wants them. -/
theorem GotAt.parts {col : Nat → Nat} {c : Nat} {w : World} {ao : Option Addr} {n cap : Nat} {ls : List (List UInt8)} (h : GotAt col c w ao n cap ls) :
    ∃ hs : Hs, hs.length = n ∧ Own (Col col c) w 31 1 ao n cap (headsL hs) ∧ ∀ j (h1 : j < hs.length) (h2 : j < ls.length), DataAt (Col col (c + 1)) w hs[j] ls[j] := h.2
theorem Lk.repaint {col col' : Nat → Nat} {i p : Nat} {s : LS} {w : World} (h : Lk col i w p s) (he : ∀ j, col j ≠ 0 → col' j = col j) : Lk col' i w p s := by
  obtain ⟨⟨r, hr⟩, hi⟩ := h
  exact ⟨⟨r, hr.repaint he⟩, hi⟩
theorem Lk.far {S : Nat → Prop} {col : Nat → Nat} {i p : Nat} {s : LS} {w w' : World} (h : Lk col i w p s) (k : Kp (fun j => S (col j)) w w') (hd : ∀ c, S5 i c → ¬ S c) : Lk col i w' p s := by
  obtain ⟨⟨r, hr⟩, hi⟩ := h
  exact ⟨⟨r, hr.beside k hd⟩, hi⟩

/-- What an append to a list of messages leaves. -/
structure Pushed (B z : Nat) (col : Nat → Nat) (c : Nat) (w : World) (col3 : Nat → Nat) (w3 : World) : Prop where
  cols : Cols B w3 col3
  early : ∀ j, j < z → col3 j = col j
  same : ∀ j, col j ≠ 0 → col3 j = col j
  fresh : ∀ j, z ≤ j → col j = 0 → col3 j ≠ 0 → col3 j = c ∨ col3 j = c + 1
  kp : Kp (Col col c) w w3
theorem Pushed.lk {B z : Nat} {col col3 : Nat → Nat} {c : Nat} {w w3 : World} (h : Pushed B z col c w col3 w3) {i p : Nat} {s : LS} (hl : Lk col i w p s) (hd : ∀ d, S5 i d → d ≠ c) : Lk col3 i w3 p s :=
  (hl.far (S := fun d => d = c) h.kp hd).repaint h.same
theorem Pushed.ext {B z : Nat} {col col3 : Nat → Nat} {c : Nat} {w w3 : World} (h : Pushed B z col c w col3 w3) (hc0 : c ≠ 0) {col0 : Nat → Nat} {w0 : World} (hz : w0.heap.size ≤ z) (hE : Ext B (fun d => d ≠ 0) col0 w0 col w) : Ext B (fun d => d ≠ 0) col0 w0 col3 w3 :=
  ⟨h.cols, fun k hk => (h.early k (by omega)).trans (hE.old k hk), fun _ _ d => d, hE.kp.trans' h.kp (fun j hj d => by unfold Col at d; rw [hE.old j hj] at d; omega)⟩
theorem Pushed.extS {B z : Nat} {col col3 : Nat → Nat} {c : Nat} {w w3 : World} (h : Pushed B z col c w col3 w3) {S : Nat → Prop} (_hc0 : c ≠ 0) (h1 : S c) (h2 : S (c + 1)) {col0 : Nat → Nat} {w0 : World} (hz : w0.heap.size ≤ z) (hE : Ext B S col0 w0 col w) : Ext B S col0 w0 col3 w3 := by
  refine ⟨h.cols, fun k hk => (h.early k (by omega)).trans (hE.old k hk), fun k hk hn => ?_, hE.kp.trans' h.kp (fun j hj d => by unfold Col at d; rw [hE.old j hj] at d; rw [d]; exact h1)⟩
  by_cases h0 : col k = 0
  · by_cases hkz : z ≤ k
    · rcases h.fresh k hkz h0 hn with e | e <;> rw [e]
      · exact h1
      · exact h2
    · rw [h.early k (by omega)] at hn
      exact absurd h0 hn
  · rw [h.same k h0]
    exact hE.fresh k hk h0
theorem Pushed.got {B z : Nat} {col col3 : Nat → Nat} {c : Nat} {w w3 : World} (h : Pushed B z col c w col3 w3) {c2 : Nat} {ao : Option Addr} {n cap : Nat} {ls : List (List UInt8)} (hg : GotAt col c2 w ao n cap ls) (h2 : c2 ≠ 0) (hd : c2 ≠ c ∧ c2 + 1 ≠ c) : GotAt col3 c2 w3 ao n cap ls := by
  obtain ⟨h1, hs, h3, h4, h5⟩ := hg
  exact GotAt.repaint ⟨h1, hs, h3, h4.kp h.kp (fun j a d => by unfold Col at a d; omega), fun j a b => (h5 j a b).kp h.kp (fun i a d => by unfold Col at a d; omega)⟩ h2 h.same
theorem GotAt.push {B : Nat} {col : Nat → Nat} {c : Nat} {w w3 : World} {ao ao' xo : Option Addr} {n cap cap' xc : Nat} {x : List UInt8} {ls : List (List UInt8)} {z : Nat} {o : Obj} (h : GotAt col c w ao n cap ls) (hc : Cols B w col) (hB : B ≤ w.heap.size) (hBz : B ≤ z) (hzw : z ≤ w.heap.size) (hc0 : c ≠ 0)
    (hx : Own (fun k => z ≤ k ∧ col k = 0) w 5 1 xo x.length xc (bv x)) (hs : Hs) (hhs : hs.length = n) (hd : ∀ j (h1 : j < hs.length) (h2 : j < ls.length), DataAt (Col col (c + 1)) w hs[j] ls[j])
    (ho : Own (Ex (Col col c) (w.alloc o) w3) w3 31 1 ao' (n + 1) cap' (headsL hs ++ [.slice xo x.length xc])) (k3 : Kp (Col col c) (w.alloc o) w3) :
    ∃ col', GotAt col' c w3 ao' (n + 1) cap' (ls ++ [x]) ∧ Pushed B z col c w col' w3 := by
  obtain ⟨col3, n1, n2, n3, n4, n5⟩ := GotAt.snoc h hc hB hBz hzw hc0 hx hs hhs hd ho k3
  exact ⟨col3, n1, n2, n3, n4, n5, ((Kp.refl (Col col c) w).alloc o).trans k3⟩

/-! ### Rows of frames that nobody owns -/

/-- A row of colour c whose frames lie in blocks that nobody owns. -/
def FrsO (col : Nat → Nat) (c : Nat) (w : World) (ao : Option Addr) (n cap : Nat) (ls : List (List UInt8)) : Prop :=
  ls.length = n ∧ ∃ hs : Hs, hs.length = n ∧ Own (Col col c) w 31 1 ao n cap (headsL hs) ∧ ∀ j (h1 : j < hs.length) (h2 : j < ls.length), DataAt (Free col) w hs[j] ls[j]
theorem FrsO.nil (col : Nat → Nat) (c : Nat) (w : World) (ao : Option Addr) : FrsO col c w ao 0 0 [] := ⟨rfl, [], rfl, Own.nil _ _ _ _ _, fun j h => by simp at h⟩
theorem FrsO.keep {col : Nat → Nat} {c : Nat} {w w' : World} {ao : Option Addr} {n cap : Nat} {ls : List (List UInt8)} (h : FrsO col c w ao n cap ls) (k : Kp Noone w w') : FrsO col c w' ao n cap ls := by
  obtain ⟨h1, hs, h2, h3, h4⟩ := h
  exact ⟨h1, hs, h2, h3.keep k, fun j a b => (h4 j a b).kp k (fun _ _ d => d)⟩
theorem FrsO.ext {B : Nat} {S : Nat → Prop} {col col' : Nat → Nat} {c : Nat} {w w' : World} {ao : Option Addr} {n cap : Nat} {ls : List (List UInt8)} (h : FrsO col c w ao n cap ls) (e : Ext B S col w col' w') (h0 : ¬ S 0) (h1 : ¬ S c) : FrsO col' c w' ao n cap ls := by
  obtain ⟨g1, hs, g2, g3, g4⟩ := h
  have k' : Kp (fun j => S (col' j)) w w' := e.kp.mono (fun j hj c => by rw [e.old j hj]; exact c)
  refine ⟨g1, hs, g2, (g3.mono (G := Col col' c) (fun j hj d => (e.old j hj).trans d)).kp k' (fun j d q => h1 (by unfold Col at d; rw [d] at q; exact q)), fun j a b => ?_⟩
  exact ((g4 j a b).mono (E := Free col') (fun i hi d => (e.old i hi).trans d)).kp k' (fun i d q => h0 (by unfold Free at d; rw [d] at q; exact q))
theorem FrsO.frsP {col : Nat → Nat} {c : Nat} {w : World} {ao : Option Addr} {n cap : Nat} {ls : List (List UInt8)} (h : FrsO col c w ao n cap ls) : FrsP (fun k => col k = c ∨ col k = 0) w ao n cap ls := by
  obtain ⟨g1, hs, g2, g3, g4⟩ := h
  refine ⟨g1, g3.2.1, g3.2.2.1, hs, g2, g3.row, fun h0 a ha => ?_, fun j a b => (g4 j a b).mono (fun i _ d => Or.inr d)⟩
  rcases g3 with ⟨e1, e2, e3, e4⟩
  rcases e4 with rfl | ⟨g, off, cur, rfl, hg, e5⟩
  · omega
  · cases ha
    exact Or.inl hg
/-- More frames at its end. -/
theorem FrsO.push {B : Nat} {col : Nat → Nat} {c : Nat} {w w3 : World} {ao ao' : Option Addr} {n m cap cap' : Nat} {ls xs : List (List UInt8)} {ys : Hs} {o : Obj} (h : FrsO col c w ao n cap ls) (hc : Cols B w col) (hB : B ≤ w.heap.size) (hc0 : c ≠ 0)
    (hs : Hs) (hhs : hs.length = n) (hd : ∀ j (h1 : j < hs.length) (h2 : j < ls.length), DataAt (Free col) w hs[j] ls[j]) (hm : ys.length = m) (hxm : xs.length = m) (hy : ∀ j (h1 : j < ys.length) (h2 : j < xs.length), DataAt (Free col) w ys[j] xs[j])
    (ho : Own (Ex (Col col c) (w.alloc o) w3) w3 31 1 ao' (n + m) cap' (headsL hs ++ headsL ys)) (k3 : Kp (Col col c) (w.alloc o) w3) :
    ∃ col', FrsO col' c w3 ao' (n + m) cap' (ls ++ xs) ∧ Ext B (fun d => d = c) col w col' w3 := by
  have hln := h.1
  have kA : Kp Noone w (w.alloc o) := (Kp.refl _ _).alloc o
  have sA := kA.size
  have s3 := k3.size
  have e0 : ∀ j, w.heap.size ≤ j → col j = 0 := fun j hj => Classical.byContradiction fun d => by have := hc j d; omega
  have kk : Kp (Col col c) w w3 := kA.none.trans k3
  let colx : Nat → Nat := fun j => if (w.alloc o).heap.size ≤ j ∧ j < w3.heap.size then c else col j
  have hx : ∀ j, j < (w.alloc o).heap.size → colx j = col j := fun j hj => by show (if _ then _ else _) = _; rw [if_neg (by omega)]
  have hdat : ∀ {s : Option Addr × Nat × Nat} {d : List UInt8}, DataAt (Free col) w s d → DataAt (Free colx) w3 s d := fun h => by
    have h1 := (h.mono (E := fun j => j < w.heap.size ∧ col j = 0) (fun j hj q => ⟨hj, q⟩)).kp kk (fun j q r => by unfold Col at r; omega)
    exact h1.mono (fun j _ q => (hx j (by omega)).trans q.2)
  refine ⟨colx, ⟨by simp [hln, hxm], hs ++ ys, by simp [hhs, hm], ?_, fun j h1 h2 => ?_⟩, ?_, ?_, ?_, ?_⟩
  · have e : headsL (hs ++ ys) = headsL hs ++ headsL ys := by simp [headsL]
    rw [e]
    refine ho.mono (fun j hj d => ?_)
    unfold Col at *
    rcases d with d | d
    · by_cases hj2 : j < (w.alloc o).heap.size
      · rw [hx j hj2]; exact d
      · have := e0 j (by omega); omega
    · show (if _ then _ else _) = _
      rw [if_pos d]
  · by_cases hj : j < hs.length
    · have hj2 : j < ls.length := by omega
      rw [List.getElem_append_left hj, List.getElem_append_left hj2]
      exact hdat (hd j hj hj2)
    · rw [List.getElem_append_right (by omega), List.getElem_append_right (by omega)]
      have e : j - hs.length = j - ls.length := by omega
      simp only [e]
      exact hdat (hy _ (by simp at h1; omega) (by simp at h2; omega))
  · intro j hj
    by_cases h1 : (w.alloc o).heap.size ≤ j ∧ j < w3.heap.size
    · omega
    · have : colx j = col j := by show (if _ then _ else _) = _; rw [if_neg h1]
      rw [this] at hj
      have := hc j hj
      omega
  · intro j hj
    exact hx j (by omega)
  · intro j hj hn
    by_cases h1 : (w.alloc o).heap.size ≤ j ∧ j < w3.heap.size
    · show (if _ then _ else _) = _; rw [if_pos h1]
    · have : colx j = col j := by show (if _ then _ else _) = _; rw [if_neg h1]
      rw [this, e0 j hj] at hn
      exact absurd rfl hn
  · exact kk

theorem move_of (B : Nat) (col : Nat → Nat) (i c p : Nat) (s : LS) (P : Nat → Prop) (fo : Option Addr) (n fcap : Nat) (fs : List (List UInt8)) (go : Option Addr) (gn gcap : Nat) (gl : List (List UInt8)) (w : World) (h : Lk col i w p s) (hc : Cols B w col) (hBw : B ≤ w.heap.size)
    (hf : FrsP P w fo n fcap fs) (hP : ∀ k, P k → ¬ (S5 i (col k) ∨ col k = c)) (hlen : ∀ f ∈ fs, f.length ≤ 140737488355328) (hg : GotAt col c w go gn gcap gl) (hci : c ≠ 0 ∧ (c + 1 ≤ i ∨ i + 5 < c)) (hgn : gl.length + fs.length ≤ 1048576) :
    Calls Try.prog 21 #[.slice fo n fcap, .pointer (some ⟨p, 0, none⟩), .slice go gn gcap] w fun e w' => ∃ go' gcap' col', e = .returned (.slice go' (gl ++ (moveF s fs).2).length gcap') ∧ Ext B (fun x => S5 i x ∨ x = c ∨ x = c + 1) col w col' w' ∧ Lk col' i w' p (moveF s fs).1 ∧
      GotAt col' c w' go' (gl ++ (moveF s fs).2).length gcap' (gl ++ (moveF s fs).2) := by
  obtain ⟨⟨r, hr⟩, hi⟩ := h
  refine (move_any B col i c p s r P fo n fcap fs go gn gcap gl w hr hc hi hBw hf hP hlen hg hci hgn).mono ?_
  rintro e w1 ⟨go', gcap', rfl, col', r', h1, h2, h3, k, h4, h5⟩
  exact ⟨go', gcap', col', rfl, ⟨h1, h2, h3, k.mono (fun j _ d => d.elim Or.inl (fun d => Or.inr (Or.inl d)))⟩, ⟨⟨r', h4⟩, moveF_inv fs hi⟩, h5⟩

end Go.Proofs.Ytlpdoefbjhlegaa
