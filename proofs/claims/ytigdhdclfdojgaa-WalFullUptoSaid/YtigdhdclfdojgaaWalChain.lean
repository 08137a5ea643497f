/-
  wal: PIECES THAT FOLLOW ONE ANOTHER, in plain Lean: what is found of them.
-/
import Derived.Test.YtigdhdclfdojgaaWalTwiceR
namespace Go.Proofs.Ytigdhdclfdojgaa
open Go.RowKit

structure PcS where
  num : Nat
  first : Nat
  recs : List (List UInt8)
def pieceD (p : PcS) : List UInt8 := headerL p.num p.first ++ frames p.recs
structure PcOk (p : PcS) : Prop where
  num : 1 ≤ p.num ∧ p.num ≤ 999999
  first : 1 ≤ p.first ∧ p.first ≤ 1099511627776
  recs : ∀ d ∈ p.recs, d.length ≤ 8192
def Chain : Nat → List PcS → Prop
  | _, [] => True
  | n, p :: r => p.first = n ∧ Chain (n + p.recs.length) r
def endOf : Nat → List PcS → Nat
  | n, [] => n
  | n, p :: r => endOf (n + p.recs.length) r
def recsOf : List PcS → Recs
  | [] => []
  | p :: r => numbered p.first p.recs ++ recsOf r
def heads (ps : List PcS) : List (Nat × Nat) := ps.map fun p => (p.num, p.first)
def datOf (ps : List PcS) : Dat := ps.map fun p => (walName p.num, pieceD p)
theorem pieceD_frames (p : PcS) : pieceD p = frames ((numL p.num ++ numL p.first) :: p.recs) := by
  rw [frames_cons]
  rfl
theorem splitL_all {ds : List (List UInt8)} (h : ∀ d ∈ ds, d.length ≤ 8192) : splitL (frames ds) = ds := by
  have h1 := splitL_frames ds [] h
  rw [List.append_nil, splitL_nil, List.append_nil] at h1
  exact h1
theorem split_piece {p : PcS} (h : PcOk p) : splitL (pieceD p) = (numL p.num ++ numL p.first) :: p.recs := by
  rw [pieceD_frames]
  refine splitL_all fun d hd => ?_
  rcases List.mem_cons.1 hd with e | e
  · rw [e]; exact header_small _ _
  · exact h.recs d e
theorem scan_piece {p : PcS} (h : PcOk p) {f : FoundS} (hw : f.whole = true) (hn : f.pieces = [] ∨ f.next = p.first) : scan1 f (walName p.num) (pieceD p) = ⟨f.pieces ++ [(p.num, p.first)], f.recs ++ numbered p.first p.recs, p.first + p.recs.length, (pieceD p).length, true, f.rest⟩ := by
  have hsp := split_piece h
  have hnm := number_of p.num h.num.2
  have hh : headOf (splitL (pieceD p)) p.num = (p.first, true) := by
    rw [hsp]
    exact begins_header p.num p.first h.num.2 h.first.2 h.first.1
  have hl : (frames (splitL (pieceD p))).length = (pieceD p).length := by rw [hsp, ← pieceD_frames]
  rw [scan1_eq, hnm, if_neg (by have := h.num.1; omega), if_neg]
  · unfold tookF
    rw [hnm, hh, hl, hsp]
    simp
  · unfold strayB
    rw [hnm, hh, hw]
    rintro (c | c | ⟨c1, c2⟩)
    · cases c
    · cases c
    · rcases hn with e | e
      · rw [e] at c1
        simp at c1
      · exact c2 e.symm
theorem scan_chain : ∀ (ps : List PcS) (n : Nat) (f : FoundS), f.whole = true → (f.pieces = [] ∨ f.next = n) → Chain n ps → (∀ p ∈ ps, PcOk p) → ∀ (h0 : ps ≠ []), foldS (datOf ps) f = ⟨f.pieces ++ heads ps, f.recs ++ recsOf ps, endOf n ps, (pieceD (ps.getLast h0)).length, true, f.rest⟩
  | [], _, _, _, _, _, _, h0 => absurd rfl h0
  | [p], n, f, hw, hn, hc, hk, _ => by
    show scan1 f (walName p.num) (pieceD p) = _
    have e := hc.1
    rw [scan_piece (hk p (List.mem_cons_self ..)) hw (by rw [e]; exact hn)]
    simp [heads, recsOf, endOf, e]
  | p :: q :: r, n, f, hw, hn, hc, hk, _ => by
    have e := hc.1
    show foldS (datOf (q :: r)) (scan1 f (walName p.num) (pieceD p)) = _
    rw [scan_piece (hk p (List.mem_cons_self ..)) hw (by rw [e]; exact hn)]
    have ih := scan_chain (q :: r) (n + p.recs.length) ⟨f.pieces ++ [(p.num, p.first)], f.recs ++ numbered p.first p.recs, p.first + p.recs.length, (pieceD p).length, true, f.rest⟩ rfl (Or.inr (by rw [e])) hc.2 (fun x hx => hk x (List.mem_cons_of_mem _ hx)) (List.cons_ne_nil _ _)
    rw [ih]
    simp [heads, recsOf, endOf]
theorem numbered_append : ∀ (i : Nat) (a b : List (List UInt8)), numbered i (a ++ b) = numbered i a ++ numbered (i + a.length) b
  | _, [], _ => rfl
  | i, d :: r, b => by
    show (i, d) :: numbered (i + 1) (r ++ b) = (i, d) :: (numbered (i + 1) r ++ numbered (i + (r.length + 1)) b)
    rw [numbered_append (i + 1) r b, show i + 1 + r.length = i + (r.length + 1) by omega]
/-- All records behind one another. -/
def allOf (ps : List PcS) : List (List UInt8) := (ps.map (·.recs)).flatten
theorem recs_chain : ∀ (ps : List PcS) (n : Nat), Chain n ps → recsOf ps = numbered n (allOf ps)
  | [], _, _ => rfl
  | p :: r, n, h => by
    have e := h.1
    show numbered p.first p.recs ++ recsOf r = numbered n (p.recs ++ allOf r)
    rw [numbered_append, e, recs_chain r _ h.2]
theorem end_chain : ∀ (ps : List PcS) (n : Nat), endOf n ps = n + (allOf ps).length
  | [], _ => rfl
  | p :: r, n => by
    show endOf (n + p.recs.length) r = n + (p.recs ++ allOf r).length
    rw [end_chain r, List.length_append]
    omega
theorem numbered_get : ∀ (i : Nat) (l : List (List UInt8)) (j : Nat) (h : j < (numbered i l).length) (h2 : j < l.length), (numbered i l)[j] = (i + j, l[j])
  | _, [], _, _, h => by simp at h
  | i, d :: r, 0, _, _ => rfl
  | i, d :: r, j + 1, h, h2 => by
    have := numbered_get (i + 1) r j (by rw [numbered_len]; simpa using h2) (by simpa using h2)
    show (numbered (i + 1) r)[j]'_ = (i + (j + 1), r[j]'_)
    rw [this, show i + 1 + j = i + (j + 1) by omega]
theorem chain_append : ∀ (a b : List PcS) (n : Nat), Chain n (a ++ b) ↔ Chain n a ∧ Chain (endOf n a) b
  | [], b, n => by simp [Chain, endOf]
  | p :: r, b, n => by
    show p.first = n ∧ Chain (n + p.recs.length) (r ++ b) ↔ (p.first = n ∧ Chain (n + p.recs.length) r) ∧ Chain (endOf (n + p.recs.length) r) b
    rw [chain_append r b]
    exact ⟨fun h => ⟨⟨h.1, h.2.1⟩, h.2.2⟩, fun h => ⟨h.1.1, h.1.2, h.2⟩⟩
/-- A new area behind all others. -/
theorem ins_last {k : ByteArray} {a : AreaP} : ∀ {L : Img}, (∀ x ∈ L, toL x.1 < toL k) → ins (k, a) L = L ++ [(k, a)]
  | [], _ => rfl
  | x :: r, h => by
    unfold ins
    rw [if_pos (h x (List.mem_cons_self ..)), ins_last (fun y hy => h y (List.mem_cons_of_mem _ hy))]
    rfl
/-- The last area takes another content. -/
theorem upd_last {k : ByteArray} {a b : AreaP} {L : Img} (h : ∀ x ∈ L, x.1 ≠ k) : upd k b (L ++ [(k, a)]) = L ++ [(k, b)] := by
  have h1 := upd_none (L := L) (k := k) (fun c => by
    obtain ⟨x, hx, e⟩ := List.mem_map.1 c
    exact h x hx e) b
  unfold upd at h1 ⊢
  rw [List.map_append, h1]
  simp
theorem get_last {k : ByteArray} {a : AreaP} : ∀ {L : Img}, (∀ x ∈ L, x.1 ≠ k) → alGet k (L ++ [(k, a)]) = some a
  | [], _ => by rw [List.nil_append, alGet_cons, if_pos rfl]
  | x :: r, h => by
    rw [List.cons_append, alGet_cons, if_neg (fun e => h x (List.mem_cons_self ..) e.symm)]
    exact get_last (fun y hy => h y (List.mem_cons_of_mem _ hy))

end Go.Proofs.Ytigdhdclfdojgaa
