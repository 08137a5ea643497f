/-
  WalSmall2, ReadOpW, WalRunsP, WalRunsK in one text.
-/
import Derived.Test.YtigdhdclfdojgaaGreatWalTwiceR
import Derived.Test.YtigdhdclfdojgaaGreatRefDiskC
import Derived.Test.YtigdhdclfdojgaaGreatRead8
import Derived.Test.YtigdhdclfdojgaaGreatWalRefKL
/-
  A small disk stays small; the steps of an Append: what WalRuns needs of the plain laws.
-/
namespace Go.Proofs.YtigdhdclfdojgaaGreat
open Go.RowKit

theorem SmallD.crashUp (ns : List ByteArray) (keep : List Int) {s : DS} (h : SmallD s) : ∀ j, SmallD (crashUp ns keep s j)
  | 0 => h
  | j + 1 => (SmallD.crashUp ns keep h j).crash1 _ _
theorem SmallD.crash {s : DS} (h : SmallD s) (keep : List Int) : SmallD (crashF s keep) := h.crashUp (namesF s) keep _
theorem SmallD.trimLoop (idx : Int) : ∀ (q : List (Nat × Nat)) {s : DS} (l : LogP), SmallD s → SmallD (trimLoop idx q s l).1
  | [], _, _, h => h
  | [_], _, _, h => h
  | a :: b :: r, s, l, h => by
    rw [trimLoop_cons]
    split
    · split
      · exact h.drop _
      · exact SmallD.trimLoop idx (b :: r) _ (h.drop _)
    · exact h
theorem SmallD.trimL {s : DS} (h : SmallD s) (l : LogP) (idx : Int) : SmallD (trimLF s l idx).1 := by
  unfold trimLF
  split
  · exact h
  · exact SmallD.trimLoop idx l.pieces l h
theorem appendLF_steps (s : DS) (l : LogP) (d : List UInt8) : (appendLF s l d).1.steps ≤ s.steps + 6 := by
  have ht : ∀ (s : DS) (l : LogP), (appTail s l d).1.steps ≤ s.steps + 1 := fun s l => by
    have h := appendF_steps s (walName (lastP l).1) (frameL d)
    unfold appTail
    split
    · exact h
    · exact h
  unfold appendLF
  split
  · show s.steps ≤ _; omega
  · split
    · show s.steps ≤ _; omega
    · split
      · split
        · show s.steps ≤ _; omega
        · have h1 := syncF_steps s (walName (lastP l).1)
          generalize syncF s (walName (lastP l).1) = t at *
          unfold rollF
          split
          · show t.1.steps ≤ _; omega
          · have h2 := beginF_steps t.1 l ((lastP l).1 + 1) l.next
            generalize beginF t.1 l ((lastP l).1 + 1) l.next = r at *
            unfold roll2
            split
            · show r.1.steps ≤ _; omega
            · have := ht r.1 r.2.1; omega
      · have := ht s l; omega

end Go.Proofs.YtigdhdclfdojgaaGreat

/-
  HOW A SCRIPT OF synodlaw09.Op READS, with its bulk (printed by readop.py).
-/
namespace Go.Proofs.YtigdhdclfdojgaaGreat
open Go.ChangeShapes Go.WideShapes Go.ChangeAt Go.RowKit Go.Deep

theorem trod_opW {H : Type} {enc : TypeId × Value → H} {P : Program} {w : World} {base : Nat} {spare : Nat → Bool} {held : Bool} {t : TypeId} {f0 f1 f2 f3 : Field} {fuel : Nat} {cs : List Value} {x : DataW H × List MemPlace} (ht : P.underlying t = some (.struct #[f0, f1, f2, f3])) (h : DataW.trod enc P w base spare held fuel t cs = some x) :
    ∃ y0 y1 y2 y3 n, x = (.agg [y0.1, y1.1, y2.1, y3.1], y0.2 ++ (y1.2 ++ (y2.2 ++ (y3.2)))) ∧ cs.length = P.cellsOf t ∧ DataW.trod enc P w base spare held n f0.type ((cs.drop f0.offset).take (P.cellsOf f0.type)) = some y0 ∧ DataW.trod enc P w base spare held n f1.type ((cs.drop f1.offset).take (P.cellsOf f1.type)) = some y1 ∧ DataW.trod enc P w base spare held n f2.type ((cs.drop f2.offset).take (P.cellsOf f2.type)) = some y2 ∧ DataW.trod enc P w base spare held n f3.type ((cs.drop f3.offset).take (P.cellsOf f3.type)) = some y3 := by
  obtain ⟨xs, n, _, rfl, hl, hlen, hf⟩ := DataW.trod_struct ht h
  match xs, hlen with
  | [y0, y1, y2, y3], _ => exact ⟨y0, y1, y2, y3, n, by simp, hl, by simpa using hf 0 f0 rfl, by simpa using hf 1 f1 rfl, by simpa using hf 2 f2 rfl, by simpa using hf 3 f3 rfl⟩

structure OpW where
  k : Int
  b : List UInt8
  n : Int
  keep : List Int
instance : Inhabited OpW := ⟨⟨0, [], 0, []⟩⟩
/-- What holds of a step read from memory. -/
structure OpWOk (o : OpW) (M : Nat) : Prop where
  k : -9223372036854775808 ≤ o.k ∧ o.k ≤ 9223372036854775807
  b : o.b.length + 1 ≤ M
  n : -9223372036854775808 ≤ o.n ∧ o.n ≤ 9223372036854775807
  keep : o.keep.length + 1 ≤ M
theorem OpWOk.mono {o : OpW} {M N : Nat} (h : OpWOk o M) (hn : M ≤ N) : OpWOk o N := ⟨h.k, by have := h.b; omega, h.n, by have := h.keep; omega⟩
/-- A script of steps. -/
structure OpWS (W : World) (ao : Option Addr) (n cap : Nat) (ps : List OpW) (M : Nat) : Prop where
  len : ps.length = n
  le : n ≤ cap
  max : cap ≤ maxLen
  get : ∀ i (h : i < ps.length), OpWOk ps[i] M ∧ ∃ b off o1 m1 c1 o3 m3 c3, ao = some ⟨b, off, none⟩ ∧ b < W.heap.size ∧ W.cell? ⟨b, off + i * 4, none⟩ = some (.int .i64 ps[i].k) ∧ W.cell? ⟨b, off + i * 4 + 1, none⟩ = some (.slice o1 m1 c1) ∧ W.cell? ⟨b, off + i * 4 + 2, none⟩ = some (.int .i64 ps[i].n) ∧ W.cell? ⟨b, off + i * 4 + 3, none⟩ = some (.slice o3 m3 c3) ∧ BS W o1 m1 c1 ps[i].b ∧ IS W o3 m3 c3 ps[i].keep
theorem OpWS.mono {W : World} {ao : Option Addr} {n cap : Nat} {ps : List OpW} {M N : Nat} (h : OpWS W ao n cap ps M) (hn : M ≤ N) : OpWS W ao n cap ps N := ⟨h.len, h.le, h.max, fun i hi => ⟨(h.get i hi).1.mono hn, (h.get i hi).2⟩⟩

theorem cells_opW : Tryz.prog.cellsOf 45 = 4 := by kernel_rfl
set_option maxHeartbeats 1000000 in
set_option maxRecDepth 100000 in
theorem read_opW {H : Type} {enc : TypeId × Value → H} {W : World} {held : Bool} {fuel : Nat} {v : Value} {x : DataW H × List MemPlace}
    (h : DataW.trod enc Tryz.prog W 0 (fun _ => true) held fuel 23 [v] = some x) :
    ∃ ao n cap ps, v = .slice ao n cap ∧ OpWS W ao n cap ps (Rows.uptoBulk x.1) ∧ n + 1 ≤ Rows.uptoBulk x.1 := by
  rcases open_slice Tryz.underlying23 h with ⟨hcs, rfl⟩ | ⟨a, len, cap, m, n, D, Pl, hcs, _, hl, hm, hmm, rfl, hx⟩
  · simp at hcs
    subst hcs
    exact ⟨none, 0, 0, [], rfl, ⟨rfl, Nat.le_refl _, by simp [maxLen], fun i h => by simp at h⟩, by simp [Rows.uptoBulk]⟩
  · simp at hcs
    subst hcs
    simp only [if_true] at hmm
    rw [hmm] at hx
    clear hmm
    have each : ∀ i, i < len → ∃ y : OpW, OpWOk y (Rows.uptoBulk (D i)) ∧ W.cell? ((a.add (i * 4)).add 0) = some (.int .i64 y.k) ∧ (∃ o m c, W.cell? ((a.add (i * 4)).add 1) = some (.slice o m c) ∧ BS W o m c y.b) ∧ W.cell? ((a.add (i * 4)).add 2) = some (.int .i64 y.n) ∧ (∃ o m c, W.cell? ((a.add (i * 4)).add 3) = some (.slice o m c) ∧ IS W o m c y.keep) := by
      intro i hi
      obtain ⟨cs, hc, ht⟩ := hx i (by omega)
      rw [cells_opW] at hc
      obtain ⟨-, hcl, hcg⟩ := World.cells?_some hc
      obtain ⟨y0, y1, y2, y3, n', hD, -, hy0, hy1, hy2, hy3⟩ := trod_opW Tryz.underlying45 ht
      have hD1 : D i = .agg [y0.1, y1.1, y2.1, y3.1] := congrArg Prod.fst hD
      match cs, hcl with
      | [u0, u1, u2, u3], _ =>
        rw [cells_int] at hy0
        rw [cells_bytes] at hy1
        rw [cells_int] at hy2
        rw [cells_intsl] at hy3
        obtain ⟨k0, e0, -, w0⟩ := DataW.trod_int Tryz.underlying3 hy0
        simp at e0
        subst e0
        have hz1 : DataW.trod enc Tryz.prog W 0 (fun _ => true) held n' 42 [u1] = some y1 := by simpa using hy1
        obtain ⟨o1, m1, c1, l1, rfl, hb1, hd1⟩ := read_bytes hz1
        have hbb1 : l1.length + 1 ≤ Rows.uptoBulk y1.1 := by
          have h1 := hb1.len
          have h2 := hb1.le
          rcases hd1 with ⟨hd, h0⟩ | ⟨elems, sp, hd, hs⟩
          · have := one_le y1.1; omega
          · rw [hd]; have := slice_le elems sp; omega
        obtain ⟨k2, e2, -, w2⟩ := DataW.trod_int Tryz.underlying3 hy2
        simp at e2
        subst e2
        have hz3 : DataW.trod enc Tryz.prog W 0 (fun _ => true) held n' 43 [u3] = some y3 := by simpa using hy3
        obtain ⟨o3, m3, c3, l3, rfl, hb3, hd3⟩ := read_ints hz3
        have hbb3 : l3.length + 1 ≤ Rows.uptoBulk y3.1 := by
          have h1 := hb3.len
          have h2 := hb3.le
          rcases hd3 with ⟨hd, h0⟩ | ⟨elems, sp, hd, hs⟩
          · have := one_le y3.1; omega
          · rw [hd]; have := slice_le elems sp; omega
        refine ⟨⟨k0, l1, k2, l3⟩, ⟨i64_wf w0, ?_, i64_wf w2, ?_⟩, hcg 0 (by omega), ⟨o1, m1, c1, hcg 1 (by omega), hb1⟩, hcg 2 (by omega), ⟨o3, m3, c3, hcg 3 (by omega), hb3⟩⟩
        · show l1.length + 1 ≤ _
          rw [hD1]
          simp only [Rows.uptoBulk, Rows.uptoBulkAll]
          omega
        · show l3.length + 1 ≤ _
          rw [hD1]
          simp only [Rows.uptoBulk, Rows.uptoBulkAll]
          omega
    obtain ⟨f, hf⟩ := choose_lt each
    refine ⟨some a, len, cap, (List.range len).map f, rfl, ⟨by simp, hl, hm, fun i hi => ?_⟩, ?_⟩
    · have hi' : i < len := by simpa using hi
      obtain ⟨q, g0, ⟨o1, m1, c1, g1, h1⟩, g2, ⟨o3, m3, c3, g3, h3⟩⟩ := hf i hi'
      have hsp := (hf 0 (by omega)).2.1
      rw [Nat.zero_mul, add_zero, add_zero] at hsp
      have hsp := cell_spot hsp
      obtain ⟨b, off, sp⟩ := a
      simp at hsp
      subst hsp
      simp only [List.getElem_map, List.getElem_range]
      rw [Addr.add_lit, Addr.add_lit] at g0 g1 g2 g3
      have hbu : Rows.uptoBulk (D i) ≤ Rows.uptoBulkAll ((List.range len).map D) := bulk_mem (List.mem_map_of_mem (f := D) (List.mem_range.2 hi'))
      refine ⟨q.mono (by simp only [Rows.uptoBulk]; omega), b, off, o1, m1, c1, o3, m3, c3, rfl, World.block_lt_of_cell? W _ g0, g0, g1, g2, g3, h1, h3⟩
    · simp only [Rows.uptoBulk]
      have := length_le ((List.range len).map D)
      rw [List.length_map, List.length_range] at this
      omega

set_option maxRecDepth 100000 in
theorem arg_opW {H : Type} {enc : TypeId × Value → H} {W : World} {base : Nat} {v : Value} {d : DataW H} {p : List MemPlace}
    (h : DataW.Trod enc Tryz.prog W 0 (fun _ => true) true 23 v d p) (hv : Value.okWide Tryz.prog W .any base 23 v) :
    ∃ ao n cap ps, v = .slice ao n cap ∧ OpWS W ao n cap ps (Rows.uptoBulk d) ∧ n + 1 ≤ Rows.uptoBulk d := by
  obtain ⟨a0, len, cap, rfl⟩ := okWide_slice Tryz.underlying23 hv
  obtain ⟨fuel, hf⟩ := h
  exact read_opW (x := (d, p)) hf

end Go.Proofs.YtigdhdclfdojgaaGreat

/-
  Bounds of the document's log that are kept from call to call.
-/
namespace Go.Proofs.YtigdhdclfdojgaaGreat
open Go.RowKit

theorem stepR_ps (m : RLog) (o : OpD) : (stepR m o).1.ps = m.ps ∧ (stepR m o).1.lim = m.lim := ⟨rfl, rfl⟩
/-- A log behind i calls. -/
structure RB (i : Nat) (m : RLog) : Prop where
  ne : m.ps ≠ []
  lim : m.lim ≤ 65536
  len : m.ps.length ≤ 64 + i
  ps : ∀ p ∈ m.ps, p.num ≤ 999999 ∧ p.first + p.recs.length ≤ 1099515900000 + i ∧ (pieceD p).length ≤ 4194304 + 9000 * i
theorem RB.mono {i j : Nat} {m : RLog} (h : RB i m) (hij : i ≤ j) : RB j m :=
  ⟨h.ne, h.lim, by have := h.len; omega, fun p hp => by have := h.ps p hp; omega⟩
theorem RB.same {i : Nat} {m m' : RLog} (h : RB i m) (e1 : m'.ps = m.ps) (e2 : m'.lim = m.lim) : RB i m' :=
  ⟨by rw [e1]; exact h.ne, by rw [e2]; exact h.lim, by rw [e1]; exact h.len, fun p hp => h.ps p (by rw [← e1]; exact hp)⟩
theorem RB.step {i : Nat} {m : RLog} (h : RB i m) (o : OpD) : RB i (stepR m o).1 := h.same (stepR_ps m o).1 (stepR_ps m o).2
theorem RB.rbd {i : Nat} {m : RLog} (h : RB i m) (hi : i ≤ 100) : RBd m :=
  ⟨h.ne, by have := h.len; omega, fun p hp => (h.ps p hp).1, fun p hp => by have := h.ps p hp; omega, fun p hp => by have := h.ps p hp; omega⟩
theorem RB.next {i : Nat} {m : RLog} (h : RB i m) (hi : i ≤ 100) : nextP9 m.ps ≤ 1099515900100 := by
  have := h.ps _ (tailP_mem h.ne)
  unfold nextP9
  omega
theorem RB.size {i : Nat} {m : RLog} (h : RB i m) (hi : i ≤ 100) : (pieceD (tailP m.ps)).length ≤ 5194304 := by
  have := h.ps _ (tailP_mem h.ne)
  omega
theorem RB.lok {i : Nat} {m : RLog} {s : DS} {l : LogP} (h : RB i m) (hi : i ≤ 100) (hs : SimW m s l) : LOk l := by
  obtain ⟨h1, h2⟩ := hs.last h.ne
  have hl := hs.ps
  refine ⟨by rw [← hs.lim]; exact h.lim, fun c => ?_, fun x hx => ?_, fun x hx => ?_, by rw [h1]; have := h.next hi; omega, by rw [h2]; have := h.size hi; omega, ?_⟩
  · rw [c] at hl
    exact h.ne (List.map_eq_nil_iff.1 hl)
  · rw [← hl] at hx
    obtain ⟨p, hp, rfl⟩ := List.mem_map.1 hx
    exact (h.ps p hp).1
  · rw [← hl] at hx
    obtain ⟨p, hp, rfl⟩ := List.mem_map.1 hx
    have := (h.ps p hp).2.1
    show p.first ≤ _
    omega
  · rw [← hl]
    unfold heads
    rw [List.length_map]
    have := h.len
    omega
theorem begR_cases (m : RLog) (a b : Nat) : (begR m a b).1.lim = m.lim ∧ ((begR m a b).1.ps = m.ps ∨ (begR m a b).1.ps = m.ps ++ [⟨a, b, []⟩]) := by
  unfold begR
  split
  · exact ⟨rfl, Or.inl rfl⟩
  · unfold begR2
    split
    · exact ⟨rfl, Or.inl rfl⟩
    · split
      · exact ⟨rfl, Or.inl rfl⟩
      · exact ⟨rfl, Or.inr rfl⟩
theorem tailR_cases (m : RLog) (d : List UInt8) : (tailR m d).1.lim = m.lim ∧ ((tailR m d).1.ps = m.ps ∨ (tailR m d).1.ps = moreP m.ps d) := by
  unfold tailR
  split
  · exact ⟨rfl, Or.inl rfl⟩
  · exact ⟨rfl, Or.inr rfl⟩
theorem pieceD_snoc (a b : Nat) (recs : List (List UInt8)) (d : List UInt8) : (pieceD ⟨a, b, recs ++ [d]⟩).length = (pieceD ⟨a, b, recs⟩).length + (frameL d).length := by
  rw [pieceD_frames, pieceD_frames]
  simp only []
  rw [← List.cons_append, frames_append, List.length_append]
  congr 1
  rw [frames_cons, frames_nil, List.append_nil]
theorem pieceD_new (a b : Nat) : (pieceD ⟨a, b, []⟩).length ≤ 35 := by
  have h := headerL_len a b
  unfold pieceD
  rw [frames_nil, List.append_nil]
  exact h
/-- One piece more, with no record yet. -/
theorem new_rb {i : Nat} {m m' : RLog} (h : RB i m) {a b : Nat} (ha : a ≤ 999999) (hb : b ≤ 1099515900000 + i) (e1 : m'.ps = m.ps ++ [⟨a, b, []⟩]) (e2 : m'.lim = m.lim) : m'.ps ≠ [] ∧ m'.lim ≤ 65536 ∧ m'.ps.length ≤ 65 + i ∧ ∀ p ∈ m'.ps, p.num ≤ 999999 ∧ p.first + p.recs.length ≤ 1099515900000 + i ∧ (pieceD p).length ≤ 4194304 + 9000 * i := by
  refine ⟨by rw [e1]; simp, by rw [e2]; exact h.lim, by rw [e1, List.length_append]; have := h.len; simp only [List.length_cons, List.length_nil]; omega, fun p hp => ?_⟩
  rw [e1] at hp
  rcases List.mem_append.1 hp with hp | hp
  · exact h.ps p hp
  · rw [List.mem_singleton.1 hp]
    have := pieceD_new a b
    simp only [List.length_nil]
    omega
/-- One record more, in the last piece. -/
theorem more_rb {i : Nat} {m m' : RLog} (h0 : m.ps ≠ []) (h1 : m.lim ≤ 65536) (h2 : m.ps.length ≤ 65 + i) (h3 : ∀ p ∈ m.ps, p.num ≤ 999999 ∧ p.first + p.recs.length ≤ 1099515900000 + i ∧ (pieceD p).length ≤ 4194304 + 9000 * i) {d : List UInt8} (hd : d.length ≤ 8192) (e1 : m'.ps = m.ps ∨ m'.ps = moreP m.ps d) (e2 : m'.lim = m.lim) : RB (i + 1) m' := by
  rcases e1 with e1 | e1
  · exact ⟨by rw [e1]; exact h0, by rw [e2]; exact h1, by rw [e1]; omega, fun p hp => by rw [e1] at hp; have := h3 p hp; omega⟩
  · have hl : (moreP m.ps d).length = m.ps.length := by
      conv => rhs; rw [snoc_tail h0]
      unfold moreP
      rw [List.length_append, List.length_append]
      rfl
    refine ⟨fun c => ?_, by rw [e2]; exact h1, by rw [e1, hl]; omega, fun p hp => ?_⟩
    · rw [e1] at c
      rw [c] at hl
      exact h0 (List.eq_nil_of_length_eq_zero hl.symm)
    · rw [e1] at hp
      unfold moreP at hp
      rcases List.mem_append.1 hp with hp | hp
      · have := h3 p (List.dropLast_subset _ hp)
        omega
      · rw [List.mem_singleton.1 hp, pieceD_snoc]
        have h4 := h3 _ (tailP_mem h0)
        have h5 := frameL_le d
        simp only [List.length_append, List.length_cons, List.length_nil]
        refine ⟨h4.1, by omega, ?_⟩
        have h6 : (pieceD ⟨(tailP m.ps).num, (tailP m.ps).first, (tailP m.ps).recs⟩).length = (pieceD (tailP m.ps)).length := rfl
        omega
theorem RB.append {i : Nat} {m : RLog} (h : RB i m) (d : List UInt8) : RB (i + 1) (appendR m d).1 := by
  have hT := h.ps _ (tailP_mem h.ne)
  have hl := h.len
  unfold appendR
  split
  · exact (h.same (m' := shutR m) rfl rfl).mono (by omega)
  · split
    · exact h.mono (by omega)
    · rename_i hd
      split
      · split
        · exact h.mono (by omega)
        · have h1 := h.step (oSync (walName (tailP m.ps).num))
          have e1 := (stepR_ps m (oSync (walName (tailP m.ps).num))).1
          generalize stepR m (oSync (walName (tailP m.ps).num)) = r at *
          unfold rollR
          split
          · exact h1.mono (by omega)
          · have hc := begR_cases r.1 ((tailP r.1.ps).num + 1) (nextP9 r.1.ps)
            have hnx : nextP9 r.1.ps ≤ 1099515900000 + i := by rw [e1]; unfold nextP9; omega
            have hnm : (tailP r.1.ps).num + 1 ≤ 999999 := by rw [e1]; omega
            have hl1 := h1.len
            generalize begR r.1 ((tailP r.1.ps).num + 1) (nextP9 r.1.ps) = x at *
            obtain ⟨c1, c2⟩ := hc
            obtain ⟨k0, k1, k2, k3⟩ : x.1.ps ≠ [] ∧ x.1.lim ≤ 65536 ∧ x.1.ps.length ≤ 65 + i ∧ ∀ p ∈ x.1.ps, p.num ≤ 999999 ∧ p.first + p.recs.length ≤ 1099515900000 + i ∧ (pieceD p).length ≤ 4194304 + 9000 * i := by
              rcases c2 with c2 | c2
              · have h2 := h1.same (m' := x.1) c2 c1
                exact ⟨h2.ne, h2.lim, by have := h2.len; omega, h2.ps⟩
              · exact new_rb h1 hnm hnx c2 c1
            unfold rollR2
            split
            · exact more_rb (d := d) k0 k1 k2 k3 (by omega) (Or.inl rfl) rfl
            · have h4 := tailR_cases x.1 d
              exact more_rb k0 k1 k2 k3 (by omega) h4.2 h4.1
      · have h4 := tailR_cases m d
        exact more_rb h.ne h.lim (by omega) h.ps (by omega) h4.2 h4.1
theorem RB.sync {i : Nat} {m : RLog} (h : RB i m) : RB (i + 1) (syncR m).1 := by
  unfold syncR
  split
  · exact (h.same (m' := shutR m) rfl rfl).mono (by omega)
  · exact (h.step _).mono (by omega)
theorem trimRL_sub (idx : Int) : ∀ (ps : List PcS) (m : RLog), m.ps = ps → (trimRL idx ps m).1.lim = m.lim ∧ (trimRL idx ps m).1.ps.length ≤ ps.length ∧ ∀ p ∈ (trimRL idx ps m).1.ps, p ∈ ps
  | [], m, e => ⟨rfl, by show m.ps.length ≤ _; rw [e]; exact Nat.le_refl _, fun p hp => by rw [← e]; exact hp⟩
  | [a], m, e => ⟨rfl, by show m.ps.length ≤ _; rw [e]; exact Nat.le_refl _, fun p hp => by rw [← e]; exact hp⟩
  | a :: b :: r, m, e => by
    unfold trimRL
    split
    · split
      · exact ⟨rfl, by show m.ps.length ≤ _; rw [e]; exact Nat.le_refl _, fun p hp => by rw [← e]; exact hp⟩
      · have h := trimRL_sub idx (b :: r) ⟨(stepR m (oDrop (walName a.num))).1.d, m.lim, b :: r, (stepR m (oDrop (walName a.num))).1.shut⟩ rfl
        exact ⟨h.1, by have := h.2.1; simp only [List.length_cons] at this ⊢; omega, fun p hp => List.mem_cons_of_mem _ (h.2.2 p hp)⟩
    · exact ⟨rfl, by show m.ps.length ≤ _; rw [e]; exact Nat.le_refl _, fun p hp => by rw [← e]; exact hp⟩
theorem RB.trim {i : Nat} {m : RLog} (h : RB i m) (idx : Int) (h0 : (trimR m idx).1.ps ≠ []) : RB (i + 1) (trimR m idx).1 := by
  unfold trimR at h0 ⊢
  split
  · exact (h.same (m' := shutR m) rfl rfl).mono (by omega)
  · rename_i hc
    rw [if_neg hc] at h0
    obtain ⟨h1, h2, h3⟩ := trimRL_sub idx m.ps m rfl
    exact ⟨h0, by rw [h1]; exact h.lim, by have := h.len; omega, fun p hp => by have := h.ps p (h3 p hp); omega⟩
theorem strayR_ps : ∀ (N : List Nat) (m : RLog), (strayR N m).1.ps = m.ps ∧ (strayR N m).1.lim = m.lim
  | [], m => ⟨rfl, rfl⟩
  | n :: r, m => by
    unfold strayR
    split
    · exact ⟨rfl, rfl⟩
    · exact strayR_ps r (stepR m (oDrop (walName n))).1
theorem RB.open {m : RD} (hL : m.L.length ≤ 64) (hD : ∀ x ∈ m.L, x.2.data.length ≤ 4194304) (n : Int) (h0 : (openR m n).2.2 = 0) : RB 0 (openR m n).1 := by
  obtain ⟨hok, hbd⟩ := foundR_ok hL hD
  unfold openR at h0 ⊢
  split
  · rename_i hc
    rw [if_pos hc] at h0
    cases h0
  · rename_i hc
    rw [if_neg hc] at h0
    generalize foundR (datL m.L) = g at *
    obtain ⟨e1, e2⟩ := strayR_ps g.strays.reverse ⟨m, limF n, [], false⟩
    generalize strayR g.strays.reverse ⟨m, limF n, [], false⟩ = r at *
    have hlim : r.1.lim ≤ 65536 := by rw [e2]; exact limF_le n
    unfold openDropR at h0 ⊢
    split
    · rename_i c
      rw [if_pos c] at h0
      exact absurd h0 c
    · rename_i c
      rw [if_neg c] at h0
      split
      · rename_i c2
        rw [if_pos c2] at h0
        have hz := begR_zero h0
        obtain ⟨c3, c4⟩ := begR_cases r.1 1 1
        generalize begR r.1 1 1 = x at *
        simp only [] at e1
        rw [e1] at c4
        rcases c4 with c4 | c4
        · exact absurd c4 hz
        · refine ⟨hz, by show x.1.lim ≤ _; rw [c3]; exact hlim, by show x.1.ps.length ≤ _; rw [c4]; simp, fun p hp => ?_⟩
          have hp2 : p ∈ x.1.ps := hp
          rw [c4] at hp2
          rw [List.mem_singleton.1 hp2]
          have := pieceD_new 1 1
          simp only [List.length_nil]
          omega
      · rename_i c2
        rw [if_neg c2] at h0
        have key : ∀ y : RLog, y.ps = g.ps → y.lim = r.1.lim → RB 0 y := fun y a1 a2 =>
          ⟨by rw [a1]; exact c2, by rw [a2]; exact hlim, by rw [a1]; have := hbd.ps; omega, fun p hp => by
            rw [a1] at hp
            have := hok.ps p hp
            omega⟩
        unfold openCutR at h0 ⊢
        split
        · exact key _ rfl rfl
        · unfold openSyncR
          split
          · exact key _ rfl rfl
          · exact key _ rfl rfl

end Go.Proofs.YtigdhdclfdojgaaGreat

/-
  What the law's own open and call keep, in plain Lean.
-/
namespace Go.Proofs.YtigdhdclfdojgaaGreat
open Go.RowKit

def callR (m : RLog) (o : OpW) : RLog := if o.k = 0 then (appendR m o.b).1 else if o.k = 1 then (syncR m).1 else if o.k = 2 then (trimR m o.n).1 else m
def callF (s : DS) (l : LogP) (o : OpW) : DS × LogP := if o.k = 0 then ((appendLF s l o.b).1, (appendLF s l o.b).2.1) else if o.k = 1 then ((syncLF s l).1, (syncLF s l).2.1) else if o.k = 2 then ((trimLF s l o.n).1, (trimLF s l o.n).2.1) else (s, l)
theorem Lg.free {c i : Nat} {col : Nat → Nat} {w w' : World} {p q : Nat} {s : DS} {l : LogP} {F : Nat → Prop} (h : Lg c i col w p q s l) (k : Kp F w w') (hci : c ≠ 0) (hF : ∀ j, F j → col j = 0) : Lg c i col w' p q s l := by
  obtain ⟨hd, po, pc, hl⟩ := h
  refine ⟨hd.free k hF, po, pc, k.heap hl.box (fun a => by have := hF _ a; have := hl.qc; omega), hl.qc, hl.pieces.kp k (fun j d a => by have d1 : col j = c + 1 := d; have := hF _ a; omega)⟩
theorem trimLoop_steps (idx : Int) : ∀ (q : List (Nat × Nat)) (s : DS) (l : LogP), (trimLoop idx q s l).1.steps ≤ s.steps + q.length
  | [], s, _ => by show s.steps ≤ _; simp
  | [_], s, _ => by show s.steps ≤ _; simp only [List.length_cons, List.length_nil]; omega
  | a :: b :: r, s, l => by
    have h1 := dropF_steps s (walName a.1)
    rw [trimLoop_cons]
    split
    · split
      · show (dropF s (walName a.1)).1.steps ≤ _
        simp only [List.length_cons]
        omega
      · refine Int.le_trans (trimLoop_steps idx (b :: r) _ _) ?_
        simp only [List.length_cons]
        omega
    · show s.steps ≤ _
      simp only [List.length_cons]
      omega
theorem trimLF_steps (s : DS) (l : LogP) (idx : Int) : (trimLF s l idx).1.steps ≤ s.steps + l.pieces.length := by
  unfold trimLF
  split
  · show s.steps ≤ _; omega
  · exact trimLoop_steps idx l.pieces s l
theorem syncLF_steps (s : DS) (l : LogP) : (syncLF s l).1.steps ≤ s.steps + 1 := by
  unfold syncLF
  split
  · show s.steps ≤ _; omega
  · exact syncF_steps s _
/-- Both sides behind a call. -/
theorem call_kept {i : Nat} {m : RLog} {s : DS} {l : LogP} (o : OpW) (hs : SimW m s l) (hrb : RB i m) (hi : i ≤ 99) (hd : DOk s) (hsm : SmallD s) (hst : s.steps < 4611686018420000000) : SimW (callR m o) (callF s l o).1 (callF s l o).2 ∧ RB (i + 1) (callR m o) ∧ SmallD (callF s l o).1 ∧ (callF s l o).1.steps ≤ s.steps + 200 := by
  unfold callR callF
  by_cases c0 : o.k = 0
  · rw [if_pos c0, if_pos c0]
    have h1 := append_sim hs hrb.ne hd (by omega) o.b
    have h2 := appendLF_steps s l o.b
    exact ⟨h1.1, hrb.append o.b, hsm.appendL l o.b, by show (appendLF s l o.b).1.steps ≤ _; omega⟩
  · rw [if_neg c0, if_neg c0]
    by_cases c1 : o.k = 1
    · rw [if_pos c1, if_pos c1]
      have h1 := sync_sim hs hrb.ne hd
      have h2 := syncLF_steps s l
      exact ⟨h1.1, hrb.sync, hsm.syncL l, by show (syncLF s l).1.steps ≤ _; omega⟩
    · rw [if_neg c1, if_neg c1]
      by_cases c2 : o.k = 2
      · rw [if_pos c2, if_pos c2]
        have hl := hrb.len
        have h1 := trim_sim hs hrb.ne hd o.n (by omega)
        have h2 := trimLF_steps s l o.n
        have h3 : l.pieces.length = m.ps.length := by rw [← hs.ps]; unfold heads; rw [List.length_map]
        exact ⟨h1.1.1, hrb.trim o.n h1.2, hsm.trimL l o.n, by show (trimLF s l o.n).1.steps ≤ _; omega⟩
      · rw [if_neg c2, if_neg c2]
        exact ⟨hs, hrb.mono (by omega), hsm, by show s.steps ≤ _; omega⟩
/-- Both sides behind an Open. -/
theorem open_kept {m : RD} {s : DS} (hs : Sim m s) (hd : DOk s) (hsm : SmallD s) (hst : s.steps < 4611686018420000000) (n : Int) : OpenSim (openR m n) (openF s n) ∧ SmallD (openF s n).1 ∧ (openF s n).1.steps ≤ s.steps + 70 ∧ ((openR m n).2.2 = 0 → RB 0 (openR m n).1) :=
  ⟨open_sim hs hd hst (fun k => hsm.read k) n, hsm.open n, openF_steps hd hsm n, fun h0 => RB.open (by rw [hs.a.len]; exact hd.len) (fun x hx => hsm x (hs.a.perm.subset hx)) n h0⟩

def oFuse (n : Int) : OpD := ⟨6, ByteArray.empty, ByteArray.empty, [], n, []⟩
def oCrash (k : List Int) : OpD := ⟨7, ByteArray.empty, ByteArray.empty, [], 0, k⟩
theorem op_fuse {n : Int} (h : -9223372036854775808 ≤ n ∧ n ≤ 9223372036854775807) : OpOk (oFuse n) 1048576 := ⟨by simp [oFuse], by simp [oFuse], by simp [oFuse], h, by simp [oFuse], by simp [oFuse]⟩
theorem op_crash {k : List Int} (h : k.length + 1 ≤ 1048576) : OpOk (oCrash k) 1048576 := ⟨by simp [oCrash], by simp [oCrash], by simp [oCrash], by simp [oCrash], by simp [oCrash], h⟩
theorem sim_fuse {m : RD} {s : DS} (h : Sim m s) (hd : DOk s) (n : Int) : Sim (doE m (oFuse n)).1 (fuseF s n) := (sim_do h hd (oFuse n)).1
theorem sim_crashE {m : RD} {s : DS} (h : Sim m s) (hd : DOk s) (k : List Int) : Sim (doE m (oCrash k)).1 (crashF s k) := (sim_do h hd (oCrash k)).1
theorem mountF_steps0 (room : Int) (As : Img) : (mountF room As).1.steps = 0 := by
  have h := (mountL_room As (newF room)).2.1
  unfold mountF
  split
  · rfl
  · split
    · exact h
    · split
      · exact h
      · exact h

end Go.Proofs.YtigdhdclfdojgaaGreat

