/-
  Region9, WalRefN0 in one text.
-/
import Derived.Test.YtigdhdclfdojgaaGreatDiskBase
import Derived.Deep.RegionHeld3
import Derived.Test.YtigdhdclfdojgaaGreatWalRefHI
/-
  A region that draws its order, with one frame at its end.
-/
namespace Go.Proofs.YtigdhdclfdojgaaGreat
open Go.RowKit

/-- A region to whose end every order comes with one frame. -/
theorem wp_region_0 {P : Program} {id : Nat} {ops : Array Oper} {b : Bool} {Q : Exit → Act → World → Prop} {a : Act} {w : World} {F : Act} {G : World → Prop}
    (h : (Code.region id ops b).wp P (NoPanic fun e a' w' => e = .normal ∧ a' = F ∧ G w') a w) (k : ∀ w', G w' → Q .normal F w') : (Code.region id ops b).wp P Q a w :=
  Code.wp_mono (fun e a' w' q => by
    obtain ⟨rfl, rfl, hg⟩ := NoPanic.imp e a' w' q
    exact k w' hg) h

end Go.Proofs.YtigdhdclfdojgaaGreat

/-
  What the walk of the document's Append stands on: slices of texts and of pieces as they grow, begin with its cells written out.
-/
namespace Go.Proofs.YtigdhdclfdojgaaGreat
open Go.RowKit Go.Deep

/-- The cells of a slice of texts. -/
theorem RRec.row {P : Nat → Prop} {w : World} {ao : Option Addr} {n cap : Nat} {recs : List (List UInt8)} (h : RRec P w ao n cap recs) : ∃ hs : Sls9, hs.length = recs.length ∧ Row w ao (hdrs9 hs) ∧ ∀ i (h1 : i < hs.length) (h2 : i < recs.length), DataP P w hs[i].1 hs[i].2.1 hs[i].2.2 recs[i] := by
  have each : ∀ i, i < recs.length → ∃ y : Option Addr × Nat × Nat, (∀ (hi : i < recs.length), ∃ b off, ao = some ⟨b, off, none⟩ ∧ w.cell? ⟨b, off + i, none⟩ = some (.slice y.1 y.2.1 y.2.2) ∧ DataP P w y.1 y.2.1 y.2.2 recs[i]) := by
    intro i hi
    obtain ⟨b, off, bo, m, c, h1, -, -, h4, h5⟩ := h.get i hi
    exact ⟨(bo, m, c), fun _ => ⟨b, off, h1, h4, h5⟩⟩
  obtain ⟨f, hf⟩ := choose_lt each
  have hl : ((List.range recs.length).map f).length = recs.length := by simp
  refine ⟨(List.range recs.length).map f, hl, ?_, fun i h1 h2 => ?_⟩
  · by_cases h0 : recs.length = 0
    · left
      rw [h0]
      rfl
    · obtain ⟨b, off, rfl, -⟩ := hf 0 (by omega) (by omega)
      refine Or.inr ⟨b, off, rfl, fun i hi => ?_⟩
      have hi2 : i < recs.length := by simpa [hdrs9] using hi
      obtain ⟨b', off', he, c0, -⟩ := hf i hi2 hi2
      cases he
      rw [c0]
      simp [hdrs9]
  · obtain ⟨b, off, -, -, hr⟩ := hf i h2 h2
    simp only [List.getElem_map, List.getElem_range]
    exact hr
theorem RRec.ofOwn {F Q : Nat → Prop} {w : World} {ao : Option Addr} {n cap : Nat} {recs : List (List UInt8)} {hs : Sls9} (ho : Own F w 42 1 ao n cap (hdrs9 hs)) (hn : recs.length = n) (hl : hs.length = recs.length) (hF : ∀ j, j < w.heap.size → F j → Q j) (hr : ∀ i (h1 : i < hs.length) (h2 : i < recs.length), DataP Q w hs[i].1 hs[i].2.1 hs[i].2.2 recs[i]) : RRec Q w ao n cap recs := by
  refine ⟨hn, ho.2.1, ho.2.2.1, fun i hi => ?_⟩
  have hlen : (hdrs9 hs).length = hs.length := by simp [hdrs9]
  have hi2 : i < hs.length := by rw [hl]; exact hi
  obtain ⟨g, off, rfl, hFg, hgl, hc1, -⟩ := ho.at (k := i) (by omega)
  refine ⟨g, off, hs[i].1, hs[i].2.1, hs[i].2.2, rfl, hgl, hF g hgl hFg, ?_, hr i hi2 hi⟩
  rw [hc1]
  simp [hdrs9]
theorem hdrs9_all (hs : Sls9) : ∀ u ∈ hdrs9 hs, u.oneCell' = true := by
  intro u hu
  unfold hdrs9 at hu
  rw [List.mem_map] at hu
  obtain ⟨h, -, rfl⟩ := hu
  rfl
/-- The last piece's texts are others. -/
theorem pcsV_more {ps : List PcS} {hs : Phs} (h0 : ps ≠ []) (hl : ps.length = hs.length) (d : List UInt8) (zo : Option Addr) (zc : Nat) : (pcsV ps hs).set ((ps.length - 1) * 3 + 2) (.slice zo ((tailP ps).recs.length + 1) zc) = pcsV (moreP ps d) (hs.dropLast ++ [(zo, zc)]) := by
  have hh0 : hs ≠ [] := by
    intro c
    rw [c] at hl
    exact h0 (List.eq_nil_of_length_eq_zero hl)
  obtain ⟨q, p, rfl⟩ : ∃ q p, ps = q ++ [p] := ⟨ps.dropLast, ps.getLast h0, (List.dropLast_concat_getLast h0).symm⟩
  obtain ⟨hq, h, rfl⟩ : ∃ q p, hs = q ++ [p] := ⟨hs.dropLast, hs.getLast hh0, (List.dropLast_concat_getLast hh0).symm⟩
  have hll : q.length = hq.length := by
    rw [List.length_append, List.length_append] at hl
    simpa using hl
  have e1 : (q ++ [p]).length - 1 = q.length := by simp
  unfold moreP
  rw [e1, tailP_snoc, List.dropLast_concat, List.dropLast_concat, pcsV_snoc _ _ _ _ hll, pcsV_snoc _ _ _ _ hll]
  have hle := pcsV_length q hq hll
  rw [List.set_append_right _ _ (by omega)]
  congr 1
  rw [show q.length * 3 + 2 - (pcsV q hq).length = 2 by omega]
  simp
theorem moreP_lt {ps : List PcS} {d : List UInt8} {i : Nat} (h : i < ps.length - 1) (h2 : i < (moreP ps d).length) (h3 : i < ps.length) : (moreP ps d)[i] = ps[i] := by
  have e : (moreP ps d)[i]? = ps[i]? := by
    unfold moreP
    rw [List.getElem?_append_left (by rw [List.length_dropLast]; exact h), List.getElem?_dropLast, if_pos h]
  rw [List.getElem?_eq_getElem h2, List.getElem?_eq_getElem h3] at e
  exact Option.some.inj e
theorem moreP_last {ps : List PcS} {d : List UInt8} {i : Nat} (h : i = ps.length - 1) (h2 : i < (moreP ps d).length) : (moreP ps d)[i] = ⟨(tailP ps).num, (tailP ps).first, (tailP ps).recs ++ [d]⟩ := by
  have e : (moreP ps d)[i]? = some ⟨(tailP ps).num, (tailP ps).first, (tailP ps).recs ++ [d]⟩ := by
    unfold moreP
    rw [h, List.getElem?_append_right (by rw [List.length_dropLast]; exact Nat.le_refl _), List.length_dropLast, Nat.sub_self]
    rfl
  rw [List.getElem?_eq_getElem h2] at e
  exact Option.some.inj e
theorem recs_le (p : PcS) : p.recs.length ≤ (pieceD p).length := by
  unfold pieceD
  rw [List.length_append]
  have := frames_len p.recs
  omega
/-- What Append answers. -/
structure ApTo (P : Nat → Prop) (w : World) (R : RLog × Nat × Nat) (e : Ending) (w' : World) : Prop where
  ex : ∃ ao cap po pc, e = .returned (.tuple #[rlV ao cap po pc R.1, .int .i64 (R.2.1 : Int), .int .i64 (R.2.2 : Int)]) ∧ RA P w' ao R.1.d.L.length cap R.1.d.L ∧ RPs P w' po R.1.ps.length pc R.1.ps ∧ Kp Noone w w'
/-- The last piece is ready. -/
structure ApS (P : Nat → Prop) (w : World) (gx gr g7 : Nat) (s0 : DS) (d : List UInt8) (RES : RLog × Nat × Nat) (wx : World) : Prop where
  ex : ∃ (ao : Option Addr) (cap : Nat) (po : Option Addr) (pc : Nat) (ro : Option Addr) (rc : Nat) (m : RLog) (s : DS) (l : LogP), wx.heap[gx]? = some (.cells (rlC ao cap po pc m) 37 (0, 0)) ∧ wx.heap[gr]? = some (.cells rl0C 37 (0, 0)) ∧
    wx.heap[g7]? = some (.cells #[.int .i64 ((tailP m.ps).num : Int), .int .i64 ((tailP m.ps).first : Int), .slice ro (tailP m.ps).recs.length rc] 57 (0, 0)) ∧ RRec (fun j => P j ∧ j ≠ gx ∧ j ≠ gr ∧ j ≠ g7) wx ro (tailP m.ps).recs.length rc (tailP m.ps).recs ∧
    RA (fun j => P j ∧ j ≠ gx ∧ j ≠ gr ∧ j ≠ g7) wx ao m.d.L.length cap m.d.L ∧ RPs (fun j => P j ∧ j ≠ gx ∧ j ≠ gr ∧ j ≠ g7) wx po m.ps.length pc m.ps ∧ Kp Noone w wx ∧ SimW m s l ∧ DOk s ∧ s.steps ≤ s0.steps + 8 ∧
    (m.ps ≠ [] ∧ m.ps.length ≤ 200000 ∧ (tailP m.ps).num ≤ 999999 ∧ nextP9 m.ps < 4611686018427387904 ∧ (tailP m.ps).recs.length ≤ 28147497) ∧ tailR m d = RES
theorem begR_new {m : RLog} {num first : Nat} (h : (begR m num first).2 = 0) : (begR m num first).1.ps = m.ps ++ [⟨num, first, []⟩] := by
  have hp : ∀ (a : RLog) (o : OpD), (stepR a o).1.ps = a.ps := fun a o => by unfold stepR; rfl
  unfold begR at h ⊢
  by_cases c1 : (stepR m (oApp (walName num) (headerL num first))).2 ≠ 0
  · rw [if_pos c1] at h
    exact absurd h c1
  rw [if_neg c1] at h ⊢
  unfold begR2 at h ⊢
  by_cases c2 : (stepR (stepR m (oApp (walName num) (headerL num first))).1 (oSync (walName num))).2 = 42
  · rw [if_pos c2] at h
    simp only [] at h
    by_cases c3 : (stepR (stepR (stepR m (oApp (walName num) (headerL num first))).1 (oSync (walName num))).1 (oDrop (walName num))).2 ≠ 0
    · rw [if_pos c3] at h
      exact absurd h c3
    · rw [if_neg c3] at h
      cases h
  · rw [if_neg c2] at h ⊢
    by_cases c4 : (stepR (stepR m (oApp (walName num) (headerL num first))).1 (oSync (walName num))).2 ≠ 0
    · rw [if_pos c4] at h
      exact absurd h c4
    · rw [if_neg c4]
      show (stepR _ _).1.ps ++ _ = _
      rw [hp, hp]
theorem begin_ex (P : Nat → Prop) (ao : Option Addr) (cap : Nat) (po : Option Addr) (pc : Nat) (m : RLog) (s : DS) (l : LogP) (num first : Nat) (w : World) (h : RA P w ao m.d.L.length cap m.d.L) (hps : RPs P w po m.ps.length pc m.ps) (hP : ∀ j, w.heap.size ≤ j → P j) (hs : SimW m s l) (hd : DOk s) (hn : num ≤ 999999) (hf : first ≤ 4611686018427387904) (hpl : m.ps.length ≤ 100000) (hst : s.steps < 4611686018427387900) :
    Calls Tryz.prog 59 #[.agg #[.slice ao m.d.L.length cap, .int .i64 m.d.room, .int .i64 m.d.steps, .int .i64 m.d.fuse, .bool m.d.down, .int .i64 (m.lim : Int), .slice po m.ps.length pc, .bool m.shut], .int .i64 (num : Int), .int .i64 (first : Int)] w fun e w' =>
      ∃ o c p q, e = .returned (.tuple #[.agg #[.slice o (begR m num first).1.d.L.length c, .int .i64 (begR m num first).1.d.room, .int .i64 (begR m num first).1.d.steps, .int .i64 (begR m num first).1.d.fuse, .bool (begR m num first).1.d.down, .int .i64 ((begR m num first).1.lim : Int), .slice p (begR m num first).1.ps.length q, .bool (begR m num first).1.shut], .int .i64 ((begR m num first).2 : Int)]) ∧ RA P w' o (begR m num first).1.d.L.length c (begR m num first).1.d.L ∧ RPs P w' p (begR m num first).1.ps.length q (begR m num first).1.ps ∧ Kp Noone w w' :=
  (begin_ref P ao cap po pc m s l num first w h hps hP hs hd hn hf hpl hst).mono (fun _ _ h => h.ex)

end Go.Proofs.YtigdhdclfdojgaaGreat

