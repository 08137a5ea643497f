/-
  wal: WHAT WAS FOUND, in memory: three lists that grow in a variable's cells.
-/
import Derived.Test.YtigdhdclfdojgaaGreatWalSplit
namespace Go.Proofs.YtigdhdclfdojgaaGreat
open Go.RowKit

theorem info_piece : (Tryz.prog.info? 97).map (fun i => (i.zero, i.size, i.bytes)) = some (some (.agg #[.int .i64 0, .int .i64 0]), 2, 16) := by kernel_rfl
theorem info_rec : (Tryz.prog.info? 118).map (fun i => (i.zero, i.size, i.bytes)) = some (some (.agg #[.int .i64 0, .slice none 0 0]), 2, 32) := by kernel_rfl
abbrev RH := List (Nat × (Option Addr × Nat × Nat))
def piecesV (ps : List (Nat × Nat)) : List Value := ps.flatMap fun p => [.int .i64 (p.1 : Int), .int .i64 (p.2 : Int)]
def recsV (rh : RH) : List Value := rh.flatMap fun r => [.int .i64 (r.1 : Int), .slice r.2.1 r.2.2.1 r.2.2.2]
def restV (l : List Nat) : List Value := l.map fun (n : Nat) => Value.int .i64 (n : Int)
theorem piecesV_snoc (ps : List (Nat × Nat)) (p : Nat × Nat) : piecesV ps ++ [.int .i64 (p.1 : Int), .int .i64 (p.2 : Int)] = piecesV (ps ++ [p]) := by simp [piecesV]
theorem recsV_snoc (rh : RH) (r : Nat × (Option Addr × Nat × Nat)) : recsV rh ++ [.int .i64 (r.1 : Int), .slice r.2.1 r.2.2.1 r.2.2.2] = recsV (rh ++ [r]) := by simp [recsV]
theorem restV_snoc (l : List Nat) (n : Nat) : restV l ++ [.int .i64 (n : Int)] = restV (l ++ [n]) := by simp [restV]
theorem length_piecesV : ∀ (ps : List (Nat × Nat)), (piecesV ps).length = ps.length * 2
  | [] => rfl
  | p :: r => by
    have h := length_piecesV r
    have e : piecesV (p :: r) = .int .i64 (p.1 : Int) :: .int .i64 (p.2 : Int) :: piecesV r := by simp [piecesV]
    rw [e, List.length_cons, List.length_cons, List.length_cons, h]
    omega
theorem piecesV_get : ∀ (ps : List (Nat × Nat)) (j : Nat) (h : j < ps.length), (piecesV ps)[j * 2]? = some (.int .i64 (ps[j].1 : Int)) ∧ (piecesV ps)[j * 2 + 1]? = some (.int .i64 (ps[j].2 : Int))
  | p :: r, 0, _ => by simp [piecesV]
  | p :: r, j + 1, h => by
    have h2 := piecesV_get r j (by simpa using h)
    have e : piecesV (p :: r) = .int .i64 (p.1 : Int) :: .int .i64 (p.2 : Int) :: piecesV r := by simp [piecesV]
    rw [e]
    have e1 : (j + 1) * 2 = j * 2 + 2 := by omega
    rw [e1]
    exact h2
theorem recsV_get : ∀ (rh : RH) (j : Nat) (h : j < rh.length), (recsV rh)[j * 2]? = some (.int .i64 (rh[j].1 : Int)) ∧ (recsV rh)[j * 2 + 1]? = some (.slice rh[j].2.1 rh[j].2.2.1 rh[j].2.2.2)
  | p :: r, 0, _ => by simp [recsV]
  | p :: r, j + 1, h => by
    have h2 := recsV_get r j (by simpa using h)
    have e : recsV (p :: r) = .int .i64 (p.1 : Int) :: .slice p.2.1 p.2.2.1 p.2.2.2 :: recsV r := by simp [recsV]
    rw [e]
    have e1 : (j + 1) * 2 = j * 2 + 2 := by omega
    rw [e1]
    exact h2
theorem length_recsV : ∀ (rh : RH), (recsV rh).length = rh.length * 2
  | [] => rfl
  | p :: r => by
    have h := length_recsV r
    have e : recsV (p :: r) = .int .i64 (p.1 : Int) :: .slice p.2.1 p.2.2.1 p.2.2.2 :: recsV r := by simp [recsV]
    rw [e, List.length_cons, List.length_cons, List.length_cons, h]
    omega

/-- Records in memory. -/
structure RecsAt (P : Nat → Prop) (w : World) (rh : RH) (recs : List (Nat × List UInt8)) : Prop where
  len : rh.length = recs.length
  get : ∀ j (h1 : j < rh.length) (h2 : j < recs.length), rh[j].1 = recs[j].1 ∧ DataP P w rh[j].2.1 rh[j].2.2.1 rh[j].2.2.2 recs[j].2
theorem RecsAt.kp {P S : Nat → Prop} {w w' : World} {rh : RH} {recs : List (Nat × List UInt8)} (h : RecsAt P w rh recs) (k : Kp S w w') (hd : ∀ j, j < w.heap.size → P j → ¬ S j) : RecsAt P w' rh recs :=
  ⟨h.len, fun j h1 h2 => ⟨(h.get j h1 h2).1, (h.get j h1 h2).2.kp k hd⟩⟩
theorem RecsAt.keep {P : Nat → Prop} {w w' : World} {rh : RH} {recs : List (Nat × List UInt8)} (h : RecsAt P w rh recs) (k : Kp Noone w w') : RecsAt P w' rh recs := h.kp k (fun _ _ _ c => c)
theorem RecsAt.mono {P Q : Nat → Prop} {w : World} {rh : RH} {recs : List (Nat × List UInt8)} (h : RecsAt P w rh recs) (hq : ∀ j, j < w.heap.size → P j → Q j) : RecsAt Q w rh recs :=
  ⟨h.len, fun j h1 h2 => ⟨(h.get j h1 h2).1, (h.get j h1 h2).2.mono hq⟩⟩
theorem RecsAt.nil (P : Nat → Prop) (w : World) : RecsAt P w [] [] := ⟨rfl, fun j h => by simp at h⟩
theorem RecsAt.snoc {P : Nat → Prop} {w : World} {rh : RH} {recs : List (Nat × List UInt8)} (h : RecsAt P w rh recs) {i : Nat} {d : List UInt8} {xo : Option Addr} {xm xc : Nat} (hd : DataP P w xo xm xc d) : RecsAt P w (rh ++ [(i, xo, xm, xc)]) (recs ++ [(i, d)]) := by
  refine ⟨by simp [h.len], fun j h1 h2 => ?_⟩
  by_cases hj : j < rh.length
  · have hj2 : j < recs.length := by have := h.len; omega
    have e1 : (rh ++ [(i, xo, xm, xc)])[j] = rh[j] := List.getElem_append_left hj
    have e2 : (recs ++ [(i, d)])[j] = recs[j] := List.getElem_append_left hj2
    rw [e1, e2]
    exact h.get j hj hj2
  · have hl := h.len
    have hj1 : j = rh.length := by rw [List.length_append] at h1; simp at h1; omega
    have e1 : (rh ++ [(i, xo, xm, xc)])[j] = (i, xo, xm, xc) := by subst hj1; simp
    have e2 : (recs ++ [(i, d)])[j] = (i, d) := by
      have : j = recs.length := by omega
      subst this
      simp
    rw [e1, e2]
    exact ⟨rfl, hd⟩

/-- The cells of what was found. -/
def fndC (po : Option Addr) (pc : Nat) (ro : Option Addr) (rc : Nat) (so : Option Addr) (sc : Nat) (f : FoundS) : Array Value := #[.slice po f.pieces.length pc, .slice ro f.recs.length rc, .int .i64 (f.next : Int), .int .i64 (f.good : Int), .bool f.whole, .slice so f.rest.length sc]
structure FAt (B : Nat) (col : Nat → Nat) (pf : Nat) (w : World) (f : FoundS) (po : Option Addr) (pc : Nat) (ro : Option Addr) (rc : Nat) (so : Option Addr) (sc : Nat) (rh : RH) : Prop where
  cols : Cols B w col
  box : w.heap[pf]? = some (.cells (fndC po pc ro rc so sc f) 103 (0, 0))
  bcol : col pf = 0
  bB : B ≤ pf
  pieces : Own (Col col 1) w 97 2 po f.pieces.length pc (piecesV f.pieces)
  recs : Own (Col col 2) w 118 2 ro f.recs.length rc (recsV rh)
  rest : Own (Col col 3) w 3 1 so f.rest.length sc (restV f.rest)
  rdat : RecsAt (fun k => col k = 0 ∧ k ≠ pf ∧ B ≤ k) w rh f.recs
/-- From one world to a later one: coloured blocks and the variable alone change. -/
structure Stp (pf : Nat) (col : Nat → Nat) (w : World) (col' : Nat → Nat) (w' : World) : Prop where
  old : ∀ k, k < w.heap.size → col' k = col k
  kp : Kp (fun k => col k ≠ 0 ∨ k = pf) w w'
theorem Stp.quiet {pf : Nat} {col : Nat → Nat} {w w' : World} (k : Kp Noone w w') : Stp pf col w col w' := ⟨fun _ _ => rfl, k.none⟩
theorem Stp.trans {pf : Nat} {col col' col2 : Nat → Nat} {w w' w2 : World} (h : Stp pf col w col' w') (k : Stp pf col' w' col2 w2) : Stp pf col w col2 w2 :=
  ⟨fun j hj => (k.old j (Nat.lt_of_lt_of_le hj h.kp.size)).trans (h.old j hj), h.kp.trans' k.kp (fun j hj c => by rw [h.old j hj] at c; exact c)⟩
theorem Own.stp {pf : Nat} {col col' : Nat → Nat} {w w' : World} {B e sz : Nat} {ao : Option Addr} {n cap : Nat} {xs : List Value} (h : Own (fun k => col k = 0 ∧ k ≠ pf ∧ B ≤ k) w e sz ao n cap xs) (s : Stp pf col w col' w') : Own (fun k => col' k = 0 ∧ k ≠ pf ∧ B ≤ k) w' e sz ao n cap xs :=
  ((h.mono (G := fun k => (col k = 0 ∧ k ≠ pf ∧ B ≤ k) ∧ k < w.heap.size) (fun j hj c => ⟨c, hj⟩)).kp s.kp (fun j c e => by omega)).mono (fun j _ c => ⟨(s.old j c.2).trans c.1.1, c.1.2⟩)
theorem DataP.stp {pf : Nat} {col col' : Nat → Nat} {w w' : World} {B : Nat} {ao : Option Addr} {n cap : Nat} {l : List UInt8} (h : DataP (fun k => col k = 0 ∧ k ≠ pf ∧ B ≤ k) w ao n cap l) (s : Stp pf col w col' w') : DataP (fun k => col' k = 0 ∧ k ≠ pf ∧ B ≤ k) w' ao n cap l :=
  ((h.mono (Q := fun k => (col k = 0 ∧ k ≠ pf ∧ B ≤ k) ∧ k < w.heap.size) (fun j hj c => ⟨c, hj⟩)).kp s.kp (fun j _ c e => by omega)).mono (fun j _ c => ⟨(s.old j c.2).trans c.1.1, c.1.2⟩)
theorem RecsAt.stp {pf : Nat} {col col' : Nat → Nat} {w w' : World} {B : Nat} {rh : RH} {recs : List (Nat × List UInt8)} (h : RecsAt (fun k => col k = 0 ∧ k ≠ pf ∧ B ≤ k) w rh recs) (s : Stp pf col w col' w') : RecsAt (fun k => col' k = 0 ∧ k ≠ pf ∧ B ≤ k) w' rh recs :=
  ⟨h.len, fun j h1 h2 => ⟨(h.get j h1 h2).1, (h.get j h1 h2).2.stp s⟩⟩
theorem FAt.keep {B : Nat} {col : Nat → Nat} {pf : Nat} {w w' : World} {f : FoundS} {po : Option Addr} {pc : Nat} {ro : Option Addr} {rc : Nat} {so : Option Addr} {sc : Nat} {rh : RH} (h : FAt B col pf w f po pc ro rc so sc rh) (k : Kp Noone w w') : FAt B col pf w' f po pc ro rc so sc rh :=
  ⟨h.cols.keep k.size, k.heap h.box id, h.bcol, h.bB, h.pieces.keep k, h.recs.keep k, h.rest.keep k, h.rdat.keep k⟩
/-- Another cell of the variable. -/
theorem FAt.set {B : Nat} {col : Nat → Nat} {pf : Nat} {w w' : World} {f f' : FoundS} {po : Option Addr} {pc : Nat} {ro : Option Addr} {rc : Nat} {so : Option Addr} {sc : Nat} {rh : RH} (h : FAt B col pf w f po pc ro rc so sc rh) (k : Kp (fun j => j = pf) w w') (hb : w'.heap[pf]? = some (.cells (fndC po pc ro rc so sc f') 103 (0, 0))) (e1 : f'.pieces = f.pieces) (e2 : f'.recs = f.recs) (e3 : f'.rest = f.rest) :
    FAt B col pf w' f' po pc ro rc so sc rh ∧ Stp pf col w col w' := by
  have hb0 := h.bcol
  refine ⟨⟨h.cols.keep k.size, hb, h.bcol, h.bB, ?_, ?_, ?_, ?_⟩, ⟨fun _ _ => rfl, k.mono (fun _ _ c => Or.inr c)⟩⟩
  · rw [e1]; exact h.pieces.kp k (fun j c e => by unfold Col at c; subst e; omega)
  · rw [e2]; exact h.recs.kp k (fun j c e => by unfold Col at c; subst e; omega)
  · rw [e3]; exact h.rest.kp k (fun j c e => by unfold Col at c; subst e; omega)
  · rw [e2]; exact h.rdat.kp k (fun j _ c e => c.2.1 e)
theorem cells_6f {w : World} {p e : Nat} {a b c d x y : Value} (h : w.heap[p]? = some (.cells #[a, b, c, d, x, y] e (0, 0))) :
    (w.cell? ⟨p, 0, none⟩ = some a ∧ w.cell? ⟨p, 1, none⟩ = some b ∧ w.cell? ⟨p, 2, none⟩ = some c ∧ w.cell? ⟨p, 3, none⟩ = some d ∧ w.cell? ⟨p, 4, none⟩ = some x ∧ w.cell? ⟨p, 5, none⟩ = some y) ∧ ∀ i, w.frozen? ⟨p, i, none⟩ = false := by
  refine ⟨⟨?_, ?_, ?_, ?_, ?_, ?_⟩, fun i => by simp [World.frozen?, h]⟩
  all_goals (rw [cell_of_row w p _ _ e (0, 0) h]; rfl)

/-- pieces grow. -/
theorem FAt.pushP {B : Nat} {col : Nat → Nat} {pf : Nat} {w wB w2 : World} {f : FoundS} {po : Option Addr} {pc : Nat} {ro : Option Addr} {rc : Nat} {so : Option Addr} {sc : Nat} {rh : RH} {po' : Option Addr} {pc' : Nat} {q : Nat × Nat} (h : FAt B col pf w f po pc ro rc so sc rh) (kA : Kp Noone w wB) (hB : B ≤ w.heap.size)
    (ho : Own (Ex (Col col 1) wB w2) w2 97 2 po' (f.pieces.length + 1) pc' (piecesV f.pieces ++ [.int .i64 (q.1 : Int), .int .i64 (q.2 : Int)])) (k2 : Kp (Col col 1) wB w2) :
    FAt B (paint col wB w2 1) pf (w2.setCell ⟨pf, 0, none⟩ (.slice po' (f.pieces.length + 1) pc')) { f with pieces := f.pieces ++ [q] } po' pc' ro rc so sc rh ∧ Stp pf col w (paint col wB w2 1) (w2.setCell ⟨pf, 0, none⟩ (.slice po' (f.pieces.length + 1) pc')) := by
  have hA := h.keep kA
  have hBB : B ≤ wB.heap.size := Nat.le_trans hB kA.size
  have hbl := (Array.getElem?_eq_some_iff.1 hA.box).1
  have hbp : paint col wB w2 1 pf = 0 := by unfold Proofs.YtigdhdclfdojgaaGreat.paint; rw [if_neg (by omega)]; exact h.bcol
  have kS := (Kp.refl (fun j => j = pf) w2).setCell (p := ⟨pf, 0, none⟩) (fun _ => rfl) (.slice po' (f.pieces.length + 1) pc')
  have hbx := k2.heap hA.box (by unfold Col; rw [h.bcol]; omega)
  have hof : ∀ i, i ≠ 0 → ∀ j, Col (paint col wB w2 1) i j → ¬ j = pf := fun i hi j c e => by unfold Col at c; subst e; omega
  have hdat : RecsAt (fun k => paint col wB w2 1 k = 0 ∧ k ≠ pf ∧ B ≤ k) w2 rh f.recs := ((hA.rdat.mono (Q := fun k => (col k = 0 ∧ k ≠ pf ∧ B ≤ k) ∧ k < wB.heap.size) (fun j hj c => ⟨c, hj⟩)).kp k2 (fun j _ c e => by unfold Col at e; omega)).mono (fun j _ c => ⟨by unfold Proofs.YtigdhdclfdojgaaGreat.paint; rw [if_neg (by omega)]; exact c.1.1, c.1.2⟩)
  refine ⟨⟨(hA.cols.paint hBB k2.size 1).keep kS.size, ?_, hbp, h.bB, (by have hq := ho.painted; rw [piecesV_snoc f.pieces q] at hq; rw [show (f.pieces ++ [q]).length = f.pieces.length + 1 by simp]; exact hq.kp kS (hof 1 (by omega))), ((hA.recs.other hA.cols (by omega) (by omega) k2 1).kp kS (hof 2 (by omega))), ((hA.rest.other hA.cols (by omega) (by omega) k2 1).kp kS (hof 3 (by omega))), (hdat.kp kS (fun j _ c e => c.2.1 e))⟩, ⟨fun j hj => ?_, ?_⟩⟩
  · rw [heap_set_cell hbx]
    simp [fndC]
  · unfold Proofs.YtigdhdclfdojgaaGreat.paint
    have := kA.size
    rw [if_neg (by omega)]
  · refine kA.none.trans' ((k2.mono (T := fun k => col k ≠ 0 ∨ k = pf) (fun j _ c => Or.inl (by unfold Col at c; omega))).trans' kS (fun j _ c => Or.inr c)) (fun j _ c => c)

/-- recs grow. -/
theorem FAt.pushR {B : Nat} {col : Nat → Nat} {pf : Nat} {w wB w2 : World} {f : FoundS} {po : Option Addr} {pc : Nat} {ro : Option Addr} {rc : Nat} {so : Option Addr} {sc : Nat} {rh : RH} {ro' : Option Addr} {rc' : Nat} {i : Nat} {d : List UInt8} {xo : Option Addr} {xm xc : Nat} (h : FAt B col pf w f po pc ro rc so sc rh) (kA : Kp Noone w wB) (hB : B ≤ w.heap.size)
    (ho : Own (Ex (Col col 2) wB w2) w2 118 2 ro' (f.recs.length + 1) rc' (recsV rh ++ [.int .i64 (i : Int), .slice xo xm xc])) (k2 : Kp (Col col 2) wB w2) (hx : DataP (fun k => col k = 0 ∧ k ≠ pf ∧ B ≤ k) w xo xm xc d) :
    FAt B (paint col wB w2 2) pf (w2.setCell ⟨pf, 1, none⟩ (.slice ro' (f.recs.length + 1) rc')) { f with recs := f.recs ++ [(i, d)] } po pc ro' rc' so sc (rh ++ [(i, xo, xm, xc)]) ∧ Stp pf col w (paint col wB w2 2) (w2.setCell ⟨pf, 1, none⟩ (.slice ro' (f.recs.length + 1) rc')) := by
  have hA := h.keep kA
  have hBB : B ≤ wB.heap.size := Nat.le_trans hB kA.size
  have hbl := (Array.getElem?_eq_some_iff.1 hA.box).1
  have hbp : paint col wB w2 2 pf = 0 := by unfold Proofs.YtigdhdclfdojgaaGreat.paint; rw [if_neg (by omega)]; exact h.bcol
  have kS := (Kp.refl (fun j => j = pf) w2).setCell (p := ⟨pf, 1, none⟩) (fun _ => rfl) (.slice ro' (f.recs.length + 1) rc')
  have hbx := k2.heap hA.box (by unfold Col; rw [h.bcol]; omega)
  have hof : ∀ i, i ≠ 0 → ∀ j, Col (paint col wB w2 2) i j → ¬ j = pf := fun i hi j c e => by unfold Col at c; subst e; omega
  have hdat : RecsAt (fun k => paint col wB w2 2 k = 0 ∧ k ≠ pf ∧ B ≤ k) w2 rh f.recs := ((hA.rdat.mono (Q := fun k => (col k = 0 ∧ k ≠ pf ∧ B ≤ k) ∧ k < wB.heap.size) (fun j hj c => ⟨c, hj⟩)).kp k2 (fun j _ c e => by unfold Col at e; omega)).mono (fun j _ c => ⟨by unfold Proofs.YtigdhdclfdojgaaGreat.paint; rw [if_neg (by omega)]; exact c.1.1, c.1.2⟩)
  have hd := (((hx.keep kA).mono (Q := fun k => (col k = 0 ∧ k ≠ pf ∧ B ≤ k) ∧ k < wB.heap.size) (fun j hj c => ⟨c, hj⟩)).kp k2 (fun j _ c e => by unfold Col at e; omega)).mono (Q := fun k => paint col wB w2 2 k = 0 ∧ k ≠ pf ∧ B ≤ k) (fun j _ c => ⟨by unfold Proofs.YtigdhdclfdojgaaGreat.paint; rw [if_neg (by omega)]; exact c.1.1, c.1.2⟩)
  refine ⟨⟨(hA.cols.paint hBB k2.size 2).keep kS.size, ?_, hbp, h.bB, ((hA.pieces.other hA.cols (by omega) (by omega) k2 2).kp kS (hof 1 (by omega))), (by have hq := ho.painted; rw [recsV_snoc rh (i, xo, xm, xc)] at hq; rw [show (f.recs ++ [(i, d)]).length = f.recs.length + 1 by simp]; exact hq.kp kS (hof 2 (by omega))), ((hA.rest.other hA.cols (by omega) (by omega) k2 2).kp kS (hof 3 (by omega))), ((hdat.snoc hd).kp kS (fun j _ c e => c.2.1 e))⟩, ⟨fun j hj => ?_, ?_⟩⟩
  · rw [heap_set_cell hbx]
    simp [fndC]
  · unfold Proofs.YtigdhdclfdojgaaGreat.paint
    have := kA.size
    rw [if_neg (by omega)]
  · refine kA.none.trans' ((k2.mono (T := fun k => col k ≠ 0 ∨ k = pf) (fun j _ c => Or.inl (by unfold Col at c; omega))).trans' kS (fun j _ c => Or.inr c)) (fun j _ c => c)

/-- rest grow. -/
theorem FAt.pushS {B : Nat} {col : Nat → Nat} {pf : Nat} {w wB w2 : World} {f : FoundS} {po : Option Addr} {pc : Nat} {ro : Option Addr} {rc : Nat} {so : Option Addr} {sc : Nat} {rh : RH} {so' : Option Addr} {sc' : Nat} {q : Nat} (h : FAt B col pf w f po pc ro rc so sc rh) (kA : Kp Noone w wB) (hB : B ≤ w.heap.size)
    (ho : Own (Ex (Col col 3) wB w2) w2 3 1 so' (f.rest.length + 1) sc' (restV f.rest ++ [.int .i64 (q : Int)])) (k2 : Kp (Col col 3) wB w2) :
    FAt B (paint col wB w2 3) pf (w2.setCell ⟨pf, 5, none⟩ (.slice so' (f.rest.length + 1) sc')) { f with rest := f.rest ++ [q] } po pc ro rc so' sc' rh ∧ Stp pf col w (paint col wB w2 3) (w2.setCell ⟨pf, 5, none⟩ (.slice so' (f.rest.length + 1) sc')) := by
  have hA := h.keep kA
  have hBB : B ≤ wB.heap.size := Nat.le_trans hB kA.size
  have hbl := (Array.getElem?_eq_some_iff.1 hA.box).1
  have hbp : paint col wB w2 3 pf = 0 := by unfold Proofs.YtigdhdclfdojgaaGreat.paint; rw [if_neg (by omega)]; exact h.bcol
  have kS := (Kp.refl (fun j => j = pf) w2).setCell (p := ⟨pf, 5, none⟩) (fun _ => rfl) (.slice so' (f.rest.length + 1) sc')
  have hbx := k2.heap hA.box (by unfold Col; rw [h.bcol]; omega)
  have hof : ∀ i, i ≠ 0 → ∀ j, Col (paint col wB w2 3) i j → ¬ j = pf := fun i hi j c e => by unfold Col at c; subst e; omega
  have hdat : RecsAt (fun k => paint col wB w2 3 k = 0 ∧ k ≠ pf ∧ B ≤ k) w2 rh f.recs := ((hA.rdat.mono (Q := fun k => (col k = 0 ∧ k ≠ pf ∧ B ≤ k) ∧ k < wB.heap.size) (fun j hj c => ⟨c, hj⟩)).kp k2 (fun j _ c e => by unfold Col at e; omega)).mono (fun j _ c => ⟨by unfold Proofs.YtigdhdclfdojgaaGreat.paint; rw [if_neg (by omega)]; exact c.1.1, c.1.2⟩)
  refine ⟨⟨(hA.cols.paint hBB k2.size 3).keep kS.size, ?_, hbp, h.bB, ((hA.pieces.other hA.cols (by omega) (by omega) k2 3).kp kS (hof 1 (by omega))), ((hA.recs.other hA.cols (by omega) (by omega) k2 3).kp kS (hof 2 (by omega))), (by have hq := ho.painted; rw [restV_snoc f.rest q] at hq; rw [show (f.rest ++ [q]).length = f.rest.length + 1 by simp]; exact hq.kp kS (hof 3 (by omega))), (hdat.kp kS (fun j _ c e => c.2.1 e))⟩, ⟨fun j hj => ?_, ?_⟩⟩
  · rw [heap_set_cell hbx]
    simp [fndC]
  · unfold Proofs.YtigdhdclfdojgaaGreat.paint
    have := kA.size
    rw [if_neg (by omega)]
  · refine kA.none.trans' ((k2.mono (T := fun k => col k ≠ 0 ∨ k = pf) (fun j _ c => Or.inl (by unfold Col at c; omega))).trans' kS (fun j _ c => Or.inr c)) (fun j _ c => c)

end Go.Proofs.YtigdhdclfdojgaaGreat
