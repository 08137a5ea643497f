/-
  THE WALK of the document's log: begin.
-/
import Derived.Test.YtigdhdclfdojgaaGreatWalRefEF
import Derived.Test.YtigdhdclfdojgaaGreatSnapRefAll
namespace Go.Proofs.YtigdhdclfdojgaaGreat
open Go.RowKit Go.Deep

theorem rlog_loadAt {w : World} {g : Nat} {cs : Array Value} (hg : w.heap[g]? = some (.cells cs 37 (0, 0))) (h8 : cs.size = 8) : (Instr.loadAt 37 (.pointer (some ⟨g, 0, none⟩))).run Tryz.prog w = .ok (.agg cs) w := by
  have h := run_loadAt_mid (P := Tryz.prog) w g 0 37 cs.toList _ (fun j v hv => by
    rw [Nat.zero_add, cell_of_row w g j cs _ (0, 0) hg]
    simpa using hv) Tryz.underlying37 rfl (by rw [info_rlog, Array.length_toList, h8])
  simpa using h
theorem rlog_storeAt {w : World} {g : Nat} {a0 a1 a2 a3 a4 a5 a6 a7 : Value} (ao : Option Addr) (cap : Nat) (po : Option Addr) (pc : Nat) (m : RLog) (hb : w.heap[g]? = some (.cells #[a0, a1, a2, a3, a4, a5, a6, a7] 37 (0, 0))) :
    (Instr.storeAt 37 (.pointer (some ⟨g, 0, none⟩)) (rlV ao cap po pc m)).run Tryz.prog w = .ok () (putL9 w g ao cap po pc m) :=
  run_storeAt_mid w g 0 37 (rlC ao cap po pc m) (show w.there g 0 8 from there_at (cs := #[a0, a1, a2, a3, a4, a5, a6, a7]) hb (Nat.le_refl _)) info_rlog (by unfold rlC; simp [Value.oneCell'])
theorem set8_heap {w : World} {g e : Nat} {a0 a1 a2 a3 a4 a5 a6 a7 : Value} (h : w.heap[g]? = some (.cells #[a0, a1, a2, a3, a4, a5, a6, a7] e (0, 0))) (c0 c1 c2 c3 c4 c5 c6 c7 : Value) :
    ((((((((w.setCell ⟨g, 0, none⟩ c0).setCell ⟨g, 1, none⟩ c1).setCell ⟨g, 2, none⟩ c2).setCell ⟨g, 3, none⟩ c3).setCell ⟨g, 4, none⟩ c4).setCell ⟨g, 5, none⟩ c5).setCell ⟨g, 6, none⟩ c6).setCell ⟨g, 7, none⟩ c7).heap[g]? = some (.cells #[c0, c1, c2, c3, c4, c5, c6, c7] e (0, 0)) :=
  (heap_set_cell (heap_set_cell (heap_set_cell (heap_set_cell (heap_set_cell (heap_set_cell (heap_set_cell (heap_set_cell h)))))))).trans (by simp)
theorem set8_kp {S : Nat → Prop} {w w1 : World} {g : Nat} (k : Kp S w w1) (hg : S g) (c0 c1 c2 c3 c4 c5 c6 c7 : Value) :
    Kp S w ((((((((w1.setCell ⟨g, 0, none⟩ c0).setCell ⟨g, 1, none⟩ c1).setCell ⟨g, 2, none⟩ c2).setCell ⟨g, 3, none⟩ c3).setCell ⟨g, 4, none⟩ c4).setCell ⟨g, 5, none⟩ c5).setCell ⟨g, 6, none⟩ c6).setCell ⟨g, 7, none⟩ c7) :=
  (((((((k.setCell (p := ⟨g, 0, none⟩) (fun _ => hg) c0).setCell (p := ⟨g, 1, none⟩) (fun _ => hg) c1).setCell (p := ⟨g, 2, none⟩) (fun _ => hg) c2).setCell (p := ⟨g, 3, none⟩) (fun _ => hg) c3).setCell (p := ⟨g, 4, none⟩) (fun _ => hg) c4).setCell (p := ⟨g, 5, none⟩) (fun _ => hg) c5).setCell (p := ⟨g, 6, none⟩) (fun _ => hg) c6).setCell (p := ⟨g, 7, none⟩) (fun _ => hg) c7
/-- The cells of a slice of pieces. -/
theorem RPs.row {P : Nat → Prop} {w : World} {ao : Option Addr} {n cap : Nat} {ps : List PcS} (h : RPs P w ao n cap ps) : ∃ hs : Phs, ps.length = hs.length ∧ Row w ao (pcsV ps hs) ∧ ∀ i (h1 : i < hs.length) (h2 : i < ps.length), RRec P w hs[i].1 ps[i].recs.length hs[i].2 ps[i].recs := by
  have each : ∀ i, i < ps.length → ∃ y : Option Addr × Nat, (∀ (hi : i < ps.length), ∃ b off, ao = some ⟨b, off, none⟩ ∧ w.cell? ⟨b, off + i * 3, none⟩ = some (.int .i64 (ps[i].num : Int)) ∧ w.cell? ⟨b, off + i * 3 + 1, none⟩ = some (.int .i64 (ps[i].first : Int)) ∧ w.cell? ⟨b, off + i * 3 + 2, none⟩ = some (.slice y.1 ps[i].recs.length y.2) ∧ RRec P w y.1 ps[i].recs.length y.2 ps[i].recs) := by
    intro i hi
    obtain ⟨b, off, ro, rc, h1, -, -, h4, h5, h6, h7⟩ := h.get i hi
    exact ⟨(ro, rc), fun _ => ⟨b, off, h1, h4, h5, h6, h7⟩⟩
  obtain ⟨f, hf⟩ := choose_lt each
  have hl : ps.length = ((List.range ps.length).map f).length := by simp
  refine ⟨(List.range ps.length).map f, hl, ?_, fun i h1 h2 => ?_⟩
  · by_cases h0 : ps.length = 0
    · left
      rw [List.eq_nil_of_length_eq_zero h0]
      rfl
    · obtain ⟨b, off, rfl, -⟩ := hf 0 (by omega) (by omega)
      refine Or.inr ⟨b, off, rfl, fun i hi => ?_⟩
      have hpl := pcsV_length ps _ hl
      have hi3 : i / 3 < ps.length := by omega
      obtain ⟨b', off', he, c0, c1, c2, -⟩ := hf (i / 3) hi3 hi3
      cases he
      have hg := pcsV_get ps ((List.range ps.length).map f) (i / 3) hi3 (by rw [← hl]; exact hi3)
      have hcs : i = i / 3 * 3 ∨ i = i / 3 * 3 + 1 ∨ i = i / 3 * 3 + 2 := by omega
      simp only [List.getElem_map, List.getElem_range] at hg
      have hq : ∀ (j : Nat) (v : Value) (hj : i = j), (pcsV ps ((List.range ps.length).map f))[j]? = some v → (pcsV ps ((List.range ps.length).map f))[i] = v := fun j v hj hv => by
        subst hj
        rw [List.getElem?_eq_getElem hi] at hv
        exact Option.some.inj hv
      rcases hcs with e | e | e
      · rw [hq _ _ e hg.1]
        conv => lhs; rw [e]
        exact c0
      · rw [hq _ _ e hg.2.1]
        conv => lhs; rw [e]
        exact c1
      · rw [hq _ _ e hg.2.2]
        conv => lhs; rw [e]
        exact c2
  · obtain ⟨b, off, -, -, -, -, hr⟩ := hf i h2 h2
    simp only [List.getElem_map, List.getElem_range]
    exact hr
theorem RPs.ofOwn {F Q : Nat → Prop} {w : World} {ao : Option Addr} {n cap : Nat} {ps : List PcS} {hs : Phs} (ho : Own F w 57 3 ao n cap (pcsV ps hs)) (hn : ps.length = n) (hl : ps.length = hs.length) (hF : ∀ j, j < w.heap.size → F j → Q j) (hr : ∀ i (h1 : i < hs.length) (h2 : i < ps.length), RRec Q w hs[i].1 ps[i].recs.length hs[i].2 ps[i].recs) : RPs Q w ao n cap ps := by
  refine ⟨hn, ho.2.1, ho.2.2.1, fun i hi => ?_⟩
  have hlen := pcsV_length ps hs hl
  have hi2 : i < hs.length := by rw [← hl]; exact hi
  have hg := pcsV_get ps hs i hi hi2
  obtain ⟨g, off, rfl, hFg, hgl, hc1, -⟩ := ho.at (k := i * 3) (by omega)
  obtain ⟨g2, off2, hgo, -, -, hc2, -⟩ := ho.at (k := i * 3 + 1) (by omega)
  cases hgo
  obtain ⟨g2, off2, hgo, -, -, hc3, -⟩ := ho.at (k := i * 3 + 2) (by omega)
  cases hgo
  refine ⟨g, off, hs[i].1, hs[i].2, rfl, hgl, hF g hgl hFg, ?_, ?_, ?_, hr i hi2 hi⟩
  · rw [hc1]
    have := hg.1
    rw [List.getElem?_eq_getElem (by omega)] at this
    exact this
  · rw [Nat.add_assoc, hc2]
    have := hg.2.1
    rw [List.getElem?_eq_getElem (by omega)] at this
    exact this
  · rw [Nat.add_assoc, hc3]
    have := hg.2.2
    rw [List.getElem?_eq_getElem (by omega)] at this
    exact this
theorem pcsV_one : ∀ (ps : List PcS) (hs : Phs), ∀ u ∈ pcsV ps hs, u.oneCell' = true
  | [], _, u, h => by simp [pcsV] at h
  | _ :: _, [], u, h => by simp [pcsV] at h
  | _ :: r, _ :: t, u, h => by
    simp only [pcsV, List.mem_cons] at h
    rcases h with rfl | rfl | rfl | h
    · rfl
    · rfl
    · rfl
    · exact pcsV_one r t u h
/-- What the document's calls that change a log answer. -/
structure LogTo (P : Nat → Prop) (w : World) (R : RLE) (e : Ending) (w' : World) : Prop where
  ex : ∃ ao cap po pc, e = .returned (.tuple #[rlV ao cap po pc R.1, .int .i64 (R.2 : Int)]) ∧ RA P w' ao R.1.d.L.length cap R.1.d.L ∧ RPs P w' po R.1.ps.length pc R.1.ps ∧ Kp Noone w w'
theorem two_new (w : World) (A B : Obj) : ((w.alloc A).alloc B).heap[w.heap.size]? = some A ∧ ((w.alloc A).alloc B).heap[w.heap.size + 1]? = some B ∧ Kp Noone w ((w.alloc A).alloc B) ∧ ((w.alloc A).alloc B).heap.size = w.heap.size + 2 := by
  have e1 := alloc_size w A
  have e2 := alloc_size (w.alloc A) B
  have h1 := ((Kp.refl Noone (w.alloc A)).alloc B).heap (heap_alloc_new w A) id
  have h2 := heap_alloc_new (w.alloc A) B
  rw [e1] at h2 e2
  exact ⟨h1, h2, ((Kp.refl _ _).alloc _).alloc _, e2⟩
theorem wp_region_3 {P : Program} {id : Nat} {ops : Array Oper} {b : Bool} {Q : Exit → Act → World → Prop} {a : Act} {w : World} {F : Nat → Option Addr → Nat → Act} {G : Nat → Option Addr → Nat → World → Prop}
    (h : (Code.region id ops b).wp P (NoPanic fun e a' w' => e = .normal ∧ ∃ n ao cap, a' = F n ao cap ∧ G n ao cap w') a w) (k : ∀ n ao cap w', G n ao cap w' → Q .normal (F n ao cap) w') : (Code.region id ops b).wp P Q a w :=
  Code.wp_mono (fun e a' w' q => by
    obtain ⟨rfl, n, ao, cap, rfl, hg⟩ := NoPanic.imp e a' w' q
    exact k n ao cap w' hg) h
/-- The cells of a box, in every world that makes one object more. -/
theorem cells_8o {w w' : World} {p e : Nat} {a b c d x y z u : Value} (h : w.heap[p]? = some (.cells #[a, b, c, d, x, y, z, u] e (0, 0))) (k : Kp Noone w w') :
    (∀ o, (w'.alloc o).cell? ⟨p, 0, none⟩ = some a) ∧ (∀ o, (w'.alloc o).cell? ⟨p, 1, none⟩ = some b) ∧ (∀ o, (w'.alloc o).cell? ⟨p, 2, none⟩ = some c) ∧ (∀ o, (w'.alloc o).cell? ⟨p, 3, none⟩ = some d) ∧ (∀ o, (w'.alloc o).cell? ⟨p, 4, none⟩ = some x) ∧ (∀ o, (w'.alloc o).cell? ⟨p, 5, none⟩ = some y) ∧ (∀ o, (w'.alloc o).cell? ⟨p, 6, none⟩ = some z) ∧ (∀ o, (w'.alloc o).cell? ⟨p, 7, none⟩ = some u) :=
  ⟨fun o => (cells_8 ((k.alloc o).heap h id)).1.1, fun o => (cells_8 ((k.alloc o).heap h id)).1.2.1, fun o => (cells_8 ((k.alloc o).heap h id)).1.2.2.1, fun o => (cells_8 ((k.alloc o).heap h id)).1.2.2.2,
   fun o => (cells_8 ((k.alloc o).heap h id)).2.1.1, fun o => (cells_8 ((k.alloc o).heap h id)).2.1.2.1, fun o => (cells_8 ((k.alloc o).heap h id)).2.1.2.2.1, fun o => (cells_8 ((k.alloc o).heap h id)).2.1.2.2.2⟩
theorem cells_8d {w : World} {p e : Nat} {a b c d x y z u : Value} (h : w.heap[p]? = some (.cells #[a, b, c, d, x, y, z, u] e (0, 0))) :
    (∀ o, (w.alloc o).drew.cell? ⟨p, 0, none⟩ = some a) ∧ (∀ o, (w.alloc o).drew.cell? ⟨p, 1, none⟩ = some b) ∧ (∀ o, (w.alloc o).drew.cell? ⟨p, 2, none⟩ = some c) ∧ (∀ o, (w.alloc o).drew.cell? ⟨p, 3, none⟩ = some d) ∧ (∀ o, (w.alloc o).drew.cell? ⟨p, 4, none⟩ = some x) ∧ (∀ o, (w.alloc o).drew.cell? ⟨p, 5, none⟩ = some y) ∧ (∀ o, (w.alloc o).drew.cell? ⟨p, 6, none⟩ = some z) ∧ (∀ o, (w.alloc o).drew.cell? ⟨p, 7, none⟩ = some u) :=
  cells_8o h (Kp.refl _ _)
def rl0C : Array Value := #[.slice none 0 0, .int .i64 0, .int .i64 0, .int .i64 0, .bool false, .int .i64 0, .slice none 0 0, .bool false]
theorem walName_le (n : Nat) : (walName n).size ≤ maxLen := by rw [walName_size]; unfold maxLen; omega

theorem step_ex (P : Nat → Prop) (ao : Option Addr) (cap : Nat) (po : Option Addr) (pc : Nat) (m : RLog) (s : DS) (o : OpD) (bo : Option Addr) (bm bc : Nat) (w : World) (h : RA P w ao m.d.L.length cap m.d.L) (hP : ∀ j, w.heap.size ≤ j → P j) (hs : Sim m.d s) (hd : DOk s) (hop : OpOk o 1048576) (hb : BS w bo bm bc o.b) (hk : o.keep = []) (hst : s.steps < 4611686018427387904) :
    Calls Tryz.prog 57 #[.agg #[.slice ao m.d.L.length cap, .int .i64 m.d.room, .int .i64 m.d.steps, .int .i64 m.d.fuse, .bool m.d.down, .int .i64 (m.lim : Int), .slice po m.ps.length pc, .bool m.shut], .agg #[.int .i64 o.k, .string o.name, .string o.dest, .slice bo bm bc, .int .i64 o.n, .slice none 0 0]] w fun e w' =>
      ∃ ao' cap', e = .returned (.tuple #[.agg #[.slice ao' (stepR m o).1.d.L.length cap', .int .i64 (stepR m o).1.d.room, .int .i64 (stepR m o).1.d.steps, .int .i64 (stepR m o).1.d.fuse, .bool (stepR m o).1.d.down, .int .i64 ((stepR m o).1.lim : Int), .slice po (stepR m o).1.ps.length pc, .bool (stepR m o).1.shut], .int .i64 ((stepR m o).2 : Int)]) ∧ RA P w' ao' (stepR m o).1.d.L.length cap' (stepR m o).1.d.L ∧ Kp Noone w w' :=
  (step_ref P ao cap po pc m s o bo bm bc none 0 0 w h hP hs hd hop hb (by rw [hk]; exact IS.nil _) hst).mono (fun _ _ h => h.ex)

attribute [local irreducible] putD doE putL9 stepR walName headerL

set_option maxHeartbeats 8000000 in
set_option maxRecDepth 100000 in
theorem begin_ref (P : Nat → Prop) (ao : Option Addr) (cap : Nat) (po : Option Addr) (pc : Nat) (m : RLog) (s : DS) (l : LogP) (num first : Nat) (w : World) (h : RA P w ao m.d.L.length cap m.d.L) (hps : RPs P w po m.ps.length pc m.ps) (hP : ∀ j, w.heap.size ≤ j → P j) (hs : SimW m s l) (hd : DOk s) (hn : num ≤ 999999) (hf : first ≤ 4611686018427387904) (hpl : m.ps.length ≤ 100000) (hst : s.steps < 4611686018427387900) :
    Calls Tryz.prog 59 #[rlV ao cap po pc m, .int .i64 (num : Int), .int .i64 (first : Int)] w fun e w' => LogTo P w (begR m num first) e w' := by
  obtain ⟨i0, hi, hz0, hz1, hz2⟩ := info_parts info_pieceD
  obtain ⟨RES, hRES⟩ : ∃ x, Hid (begR m num first = x) := ⟨_, Lib.hid rfl⟩
  rw [hRES.out]
  have HR := hRES.out
  unfold begR at HR
  have a1 := sim_app hs.d hd (walName num) (headerL num first)
  have d1 := appendF_ok hd (walName num) (headerL num first) (by omega)
  have s1 := appendF_steps s (walName num) (headerL num first)
  have b1 := step_sim hs a1
  have b10 := step_zero hs a1
  have hhl := headerL_len num first
  obtain ⟨hx, hr, kA, eA⟩ := two_new w (.cells (rlC ao cap po pc m) 37) (.cells rl0C 37)
  have hnm := fun W => name_ref num W hn
  have hhd := fun W => header_ref num first W hn hf
  have HRR := Lib.hid HR
  clear hRES HR
  have HS1 := fun (P' : Nat → Prop) (bo : Option Addr) (bc : Nat) (W : World) (hr : RA P' W ao m.d.L.length cap m.d.L) (hp : ∀ j, W.heap.size ≤ j → P' j) (hb : BS W bo (headerL num first).length bc (headerL num first)) => step_ex P' ao cap po pc m s (oApp (walName num) (headerL num first)) bo (headerL num first).length bc W hr hp hs.d hd (op_app (walName_le num) (by omega)) hb rfl (by omega)
  go_enter Tryz.func59, Tryz.ntmps59
  conv => unfold rlV
  have hps1 : (stepR m (oApp (walName num) (headerL num first))).1.ps = m.ps := by unfold stepR; rfl
  generalize stepR m (oApp (walName num) (headerL num first)) = r1 at *
  obtain ⟨m1, e1⟩ := r1
  simp only [] at b1 b10 hps1 HS1
  have HH := Lib.hid (And.intro hhl (And.intro hn (And.intro hf (And.intro hpl hst))))
  have HB1 := Lib.hid (And.intro b1 (And.intro b10 (And.intro d1 s1)))
  have HPE := Lib.hid hps1
  clear hhl hn hf hpl hst b1 b10 d1 s1 a1 hps1
  simp only [rlC, rl0C] at hx hr kA eA ⊢
  go_upto_region 1 with fail
  generalize (w.alloc (.cells #[.slice ao m.d.L.length cap, .int .i64 m.d.room, .int .i64 m.d.steps, .int .i64 m.d.fuse, .bool m.d.down, .int .i64 (m.lim : Int), .slice po m.ps.length pc, .bool m.shut] 37)).alloc (.cells #[.slice none 0 0, .int .i64 0, .int .i64 0, .int .i64 0, .bool false, .int .i64 0, .slice none 0 0, .bool false] 37) = wA at *
  generalize hgr : w.heap.size + 1 = gr at *
  generalize hgx : w.heap.size = gx at *
  have HP' : Hid (∀ j, wA.heap.size ≤ j → P j ∧ j ≠ gx ∧ j ≠ gr) := Lib.hid (fun j hj => ⟨hP j (by omega), by omega, by omega⟩)
  have HRA := Lib.hid ((h.mono (Q := fun j => P j ∧ j ≠ gx ∧ j ≠ gr) (fun j hj c => ⟨c, by omega, by omega⟩)).keep kA)
  have HPS := Lib.hid ((hps.mono (Q := fun j => P j ∧ j ≠ gx ∧ j ≠ gr) (fun j hj c => ⟨c, by omega, by omega⟩)).keep kA)
  have HKA := Lib.hid kA
  have HX := Lib.hid (show wA.heap[gx]? = some (.cells (rlC ao cap po pc m) 37 (0, 0)) from hx)
  have k0 : Kp Noone wA wA.drew := (Kp.refl _ _).drew
  obtain ⟨⟨y0, y1, y2, y3⟩, ⟨y4, y5, y6, y7⟩, -⟩ := cells_8 (k0.heap hx id)
  clear h hps kA hP
  apply wp_region_four (G := fun _ _ o1 c1 wz => wz.heap[gx]? = some (.cells (rlC o1 c1 po pc m1) 37 (0, 0)) ∧ RA (fun j => P j ∧ j ≠ gx ∧ j ≠ gr) wz o1 m1.d.L.length c1 m1.d.L ∧ Kp (fun j => j = gx) wA wz)
  case h =>
    first
      | (go_region_law (first
          | (go_simp; go_at_call 58; refine (hnm _).mono ?_; rintro e wn ⟨rfl, kn⟩; have k0 := k0.trans kn; obtain ⟨⟨y0, y1, y2, y3⟩, ⟨y4, y5, y6, y7⟩, -⟩ := cells_8 (k0.heap hx id); (try have HHB := HHB.keep kn))
          | (go_simp; go_at_call 82; refine (hhd _).mono ?_; rintro e wh ⟨ho, hc, rfl, hho, kh⟩; have k0 := k0.trans kh; obtain ⟨⟨y0, y1, y2, y3⟩, ⟨y4, y5, y6, y7⟩, -⟩ := cells_8 (k0.heap hx id); have HHB := hho.bs)
          | (go_simp; go_at_call 57; refine (HS1 (fun j => P j ∧ j ≠ gx ∧ j ≠ gr) ho hc _ (HRA.out.keep k0) (fun j hj => HP'.out j (Nat.le_trans k0.size hj)) HHB).mono ?_; rintro e w4 ⟨o1, c1, rfl, hra4, k4⟩; have k0 := k0.trans k4; obtain ⟨⟨y0, y1, y2, y3⟩, ⟨y4, y5, y6, y7⟩, yf⟩ := cells_8 (k0.heap hx id); have yf0 := yf 0; have yf1 := yf 1; have yf2 := yf 2; have yf3 := yf 3; have yf4 := yf 4; have yf5 := yf 5; have yf6 := yf 6; have yf7 := yf 7)))
      | fail
    all_goals (
      refine NoPanic.normal ⟨rfl, ho, hc, o1, c1, rfl, ?_⟩
      exact ⟨set8_heap (k0.heap hx id) _ _ _ _ _ _ _ _, hra4.kp (set8_kp (Kp.refl (fun j => j = gx) w4) (g := gx) rfl _ _ _ _ _ _ _ _) (fun j _ c e => c.2.1 e), set8_kp (Kp.none (S := fun j => j = gx) k0) (g := gx) rfl _ _ _ _ _ _ _ _⟩)
  case k =>
    intro ho hc o1 c1 w2 hG
    obtain ⟨hx2, hra2, k2⟩ := hG
    have hr2 := k2.heap hr (by omega)
    have HRA2 := Lib.hid hra2
    have HPS2 := Lib.hid (HPS.out.kp k2 (fun j _ c e => c.2.1 e))
    have HK2 := Lib.hid (HKA.out.fin k2 (fun j e => Or.inr (by omega)))
    have hz2 : wA.heap.size ≤ w2.heap.size := k2.size
    clear HS1 hhd hra2 k2 k0 y0 y1 y2 y3 y4 y5 y6 y7 hx hr HRA HPS HKA HX
    unfold rlC at hx2
    by_cases he1 : e1 = 0
    case neg =>
      have HR2 := HRR.out
      rw [if_pos he1] at HR2
      subst HR2
      have n0 : ((e1 : Int) != 0) = true := by simpa using he1
      obtain ⟨⟨y0, y1, y2, y3⟩, ⟨y4, y5, y6, y7⟩, -⟩ := cells_8 hx2
      clear he1
      go_wp2_with (refine wpList_store_rlog rfl (.tmp 6) (.tmp 25) rfl gr o1 c1 po pc m1 (by rfl) (by rfl) hr2 ?_)
      refine bodyPost_ret (v := .tuple #[rlV o1 c1 po pc m1, .int .i64 (e1 : Int)]) (by rw [results_rlog_tmp rfl _ _ gr _ rfl (putL9_heap o1 c1 po pc m1 hr2) rfl]; rfl) rfl ?_
      have kL := putL9_kp w2 gr o1 c1 po pc m1
      refine ⟨⟨o1, c1, po, pc, rfl, (HRA2.out.kp kL (fun j _ c e => c.2.2 e)).mono (fun j _ c => c.1), ?_, HK2.out.fin kL (fun j e => Or.inr (by omega))⟩⟩
      simp only [HPE.out]
      exact (HPS2.out.kp kL (fun j _ c e => c.2.2 e)).mono (fun j _ c => c.1)
    subst he1
    have HR2 := HRR.out
    rw [if_neg (by simp)] at HR2
    obtain ⟨⟨b1, b1e⟩, b10, d1, s1⟩ := HB1.out
    have b := b10 (by rw [← b1e]; simp)
    generalize (appendF s (walName num) (headerL num first)).1 = t1 at *
    have HH2 := HH.out
    have a2 := sim_sync b.d d1 (walName num)
    have d2 := syncF_ok d1 (walName num) (by omega)
    have s2 := syncF_steps t1 (walName num)
    have b2 := step_sim b a2
    have b20 := step_zero b a2
    have HS2 := fun (P' : Nat → Prop) (W : World) (hr : RA P' W o1 m1.d.L.length c1 m1.d.L) (hp : ∀ j, W.heap.size ≤ j → P' j) => step_ex P' o1 c1 po pc m1 t1 (oSync (walName num)) none 0 0 W hr hp b.d d1 (op_sync (walName_le num)) (BS.nil _ _) rfl (by omega)
    have hps2 : (stepR m1 (oSync (walName num))).1.ps = m1.ps := by unfold stepR; rfl
    generalize stepR m1 (oSync (walName num)) = r2 at *
    obtain ⟨m2, e2⟩ := r2
    simp only [] at b2 b20 hps2 HS2 HR2
    have HPE2 : Hid (m2.ps = m.ps) := Lib.hid (hps2.trans HPE.out)
    have HB2 := Lib.hid (And.intro b2 (And.intro b20 (And.intro d2 (And.intro s2 s1))))
    have HRB := Lib.hid HR2
    clear b2 b20 d2 s2 s1 a2 hps2 HH2 b b10 b1e b1 d1 HB1 HR2 HRR
    have k0 : Kp Noone w2 w2.drew := (Kp.refl _ _).drew
    obtain ⟨⟨y0, y1, y2, y3⟩, ⟨y4, y5, y6, y7⟩, -⟩ := cells_8 (k0.heap hx2 id)
    rw [Int.natCast_zero]
    go_upto_region 4 with fail
    apply wp_region_two (G := fun o2 c2 wz => wz.heap[gx]? = some (.cells (rlC o2 c2 po pc m2) 37 (0, 0)) ∧ RA (fun j => P j ∧ j ≠ gx ∧ j ≠ gr) wz o2 m2.d.L.length c2 m2.d.L ∧ Kp (fun j => j = gx) w2 wz)
    case h =>
      first
        | (go_region_law (first
            | (go_simp; go_at_call 58; refine (hnm _).mono ?_; rintro e wn ⟨rfl, kn⟩; have k0 := k0.trans kn; obtain ⟨⟨y0, y1, y2, y3⟩, ⟨y4, y5, y6, y7⟩, -⟩ := cells_8 (k0.heap hx2 id))
            | (go_simp; go_at_call 57; refine (HS2 (fun j => P j ∧ j ≠ gx ∧ j ≠ gr) _ (HRA2.out.keep k0) (fun j hj => HP'.out j (Nat.le_trans hz2 (Nat.le_trans k0.size hj)))).mono ?_; rintro e w4 ⟨o2, c2, rfl, hra4, k4⟩; have k0 := k0.trans k4; obtain ⟨⟨y0, y1, y2, y3⟩, ⟨y4, y5, y6, y7⟩, yf⟩ := cells_8 (k0.heap hx2 id); have yf0 := yf 0; have yf1 := yf 1; have yf2 := yf 2; have yf3 := yf 3; have yf4 := yf 4; have yf5 := yf 5; have yf6 := yf 6; have yf7 := yf 7)))
        | fail
      all_goals (
        refine NoPanic.normal ⟨rfl, o2, c2, rfl, ?_⟩
        exact ⟨set8_heap (k0.heap hx2 id) _ _ _ _ _ _ _ _, hra4.kp (set8_kp (Kp.refl (fun j => j = gx) w4) (g := gx) rfl _ _ _ _ _ _ _ _) (fun j _ c e => c.2.1 e), set8_kp (Kp.none (S := fun j => j = gx) k0) (g := gx) rfl _ _ _ _ _ _ _ _⟩)
    case k =>
      intro o2 c2 w3 hG
      obtain ⟨hx3, hra3, k3⟩ := hG
      have hr3 := k3.heap hr2 (by omega)
      have HRA3 := Lib.hid hra3
      have HPS3 := Lib.hid (HPS2.out.kp k3 (fun j _ c e => c.2.1 e))
      have HK3 := Lib.hid (HK2.out.fin k3 (fun j e => Or.inr (by omega)))
      have hz3 : wA.heap.size ≤ w3.heap.size := Nat.le_trans hz2 k3.size
      clear HS2 hra3 k3 k0 y0 y1 y2 y3 y4 y5 y6 y7 hx2 hr2 HRA2 HPS2 HK2 hz2
      unfold rlC at hx3
      by_cases he42 : e2 = 42
      · subst he42
        have HR3 := HRB.out
        unfold begR2 at HR3
        rw [if_pos rfl] at HR3
        obtain ⟨⟨b2, b2e⟩, -, d2, s2, s1⟩ := HB2.out
        rw [← b2e] at b2
        have b2 : SimW m2 (syncF t1 (walName num)).1 l := b2
        generalize (syncF t1 (walName num)).1 = t2 at *
        have HH2 := HH.out
        have HS3 := fun (P' : Nat → Prop) (W : World) (hr : RA P' W o2 m2.d.L.length c2 m2.d.L) (hp : ∀ j, W.heap.size ≤ j → P' j) => step_ex P' o2 c2 po pc m2 t2 (oDrop (walName num)) none 0 0 W hr hp b2.d d2 (op_drop (walName_le num)) (BS.nil _ _) rfl (by omega)
        have hps3 : (stepR m2 (oDrop (walName num))).1.ps = m2.ps := by unfold stepR; rfl
        generalize stepR m2 (oDrop (walName num)) = r3 at *
        obtain ⟨m3, e3⟩ := r3
        simp only [] at hps3 HS3 HR3
        have HPE3 : Hid (m3.ps = m.ps) := Lib.hid (hps3.trans HPE2.out)
        have HRC := Lib.hid HR3
        clear b2 b2e d2 s2 s1 HH2 hps3 HR3 HRB HB2
        have k0 : Kp Noone w3 w3.drew := (Kp.refl _ _).drew
        obtain ⟨⟨y0, y1, y2, y3⟩, ⟨y4, y5, y6, y7⟩, -⟩ := cells_8 (k0.heap hx3 id)
        obtain ⟨v0, v1, v2, v3, v4, v5, v6, v7⟩ := cells_8d hx3
        go_upto_region 6 with fail
        apply wp_region_3 (G := fun n o3 c3 wz => wz.heap[n]? = some (.cells (rlC o3 c3 po pc m3) 37 (0, 0)) ∧ w3.heap.size ≤ n ∧ RA (fun j => P j ∧ j ≠ gx ∧ j ≠ gr ∧ j ≠ n) wz o3 m3.d.L.length c3 m3.d.L ∧ Kp Noone w3 wz)
        case h =>
          go_region_law (first
              | (go_simp; go_at_call 58; refine (hnm _).mono ?_; rintro e wn ⟨rfl, kn⟩; (try (have hZ := kn.heap (show (w3.alloc (.cells #[.slice none 0 0, .int .i64 0, .int .i64 0, .int .i64 0, .bool false, .int .i64 0, .slice none 0 0, .bool false] 37)).drew.heap[w3.heap.size]? = some (.cells #[.slice none 0 0, .int .i64 0, .int .i64 0, .int .i64 0, .bool false, .int .i64 0, .slice none 0 0, .bool false] 37) from heap_alloc_new w3 (.cells #[.slice none 0 0, .int .i64 0, .int .i64 0, .int .i64 0, .bool false, .int .i64 0, .slice none 0 0, .bool false] 37)) id)); (first | have k0 := k0.trans kn | have k0 := (((Kp.refl Noone w3).alloc _).drew).trans kn); obtain ⟨⟨y0, y1, y2, y3⟩, ⟨y4, y5, y6, y7⟩, -⟩ := cells_8 (k0.heap hx3 id); obtain ⟨v0, v1, v2, v3, v4, v5, v6, v7⟩ := cells_8o hx3 k0)
              | (go_simp; go_at_call 57; first
                | (have hzl := (Array.getElem?_eq_some_iff.1 hZ).1; refine (HS3 (fun j => P j ∧ j ≠ gx ∧ j ≠ gr ∧ j ≠ w3.heap.size) _ ((HRA3.out.mono (fun j hj c => ⟨c.1, c.2.1, c.2.2, by omega⟩)).keep k0) (fun j hj => ⟨(HP'.out j (by have := k0.size; omega)).1, (HP'.out j (by have := k0.size; omega)).2.1, (HP'.out j (by have := k0.size; omega)).2.2, by have h : w3.heap.size < wn.heap.size := hzl; omega⟩)).mono ?_; rintro e w4 ⟨o3, c3, rfl, hra4, k4⟩; have k0 := k0.trans k4; have hZ4 : w4.heap[w3.heap.size]? = some (.cells #[.slice none 0 0, .int .i64 0, .int .i64 0, .int .i64 0, .bool false, .int .i64 0, .slice none 0 0, .bool false] 37 (0, 0)) := k4.heap hZ id; obtain ⟨⟨u0, u1, u2, u3⟩, ⟨u4, u5, u6, u7⟩, uf⟩ := cells_8 hZ4; have uf0 := uf 0; have uf1 := uf 1; have uf2 := uf 2; have uf3 := uf 3; have uf4 := uf 4; have uf5 := uf 5; have uf6 := uf 6; have uf7 := uf 7)
                | (refine (HS3 (fun j => P j ∧ j ≠ gx ∧ j ≠ gr ∧ j ≠ wn.heap.size) (wn.alloc (.cells #[.slice none 0 0, .int .i64 0, .int .i64 0, .int .i64 0, .bool false, .int .i64 0, .slice none 0 0, .bool false] 37)) ((HRA3.out.mono (fun j hj c => ⟨c.1, c.2.1, c.2.2, by have := k0.size; omega⟩)).keep (k0.alloc _)) (fun j hj => by rw [alloc_size] at hj; exact ⟨(HP'.out j (by have := k0.size; omega)).1, (HP'.out j (by have := k0.size; omega)).2.1, (HP'.out j (by have := k0.size; omega)).2.2, by omega⟩)).mono ?_; rintro e w4 ⟨o3, c3, rfl, hra4, k4⟩; have hZ5 := k4.heap (heap_alloc_new wn (.cells #[.slice none 0 0, .int .i64 0, .int .i64 0, .int .i64 0, .bool false, .int .i64 0, .slice none 0 0, .bool false] 37)) id; have hzn := k0.size; have k0 := (k0.alloc (.cells #[.slice none 0 0, .int .i64 0, .int .i64 0, .int .i64 0, .bool false, .int .i64 0, .slice none 0 0, .bool false] 37)).trans k4; obtain ⟨⟨u0, u1, u2, u3⟩, ⟨u4, u5, u6, u7⟩, uf⟩ := cells_8 hZ5; have uf0 := uf 0; have uf1 := uf 1; have uf2 := uf 2; have uf3 := uf 3; have uf4 := uf 4; have uf5 := uf 5; have uf6 := uf 6; have uf7 := uf 7)
                | (refine (HS3 (fun j => P j ∧ j ≠ gx ∧ j ≠ gr) wn (HRA3.out.keep k0) (fun j hj => HP'.out j (by have := k0.size; omega))).mono ?_; rintro e w4 ⟨o3, c3, rfl, hra4, k4⟩; have k0 := k0.trans k4; have hC6 : True := trivial)))
          all_goals (first
            | (have hz := hZ4
               have hk := k0
               generalize hn : w3.heap.size = n at *
               refine NoPanic.normal ⟨rfl, n, o3, c3, rfl, ?_⟩
               exact ⟨set8_heap hz _ _ _ _ _ _ _ _, Nat.le_refl _, hra4.kp (set8_kp (Kp.refl (fun j => j = n) w4) (g := n) rfl _ _ _ _ _ _ _ _) (fun j _ c e => c.2.2.2 e), hk.fin (set8_kp (Kp.refl (fun j => j = n) w4) (g := n) rfl _ _ _ _ _ _ _ _) (fun j e => Or.inr (by omega))⟩)
            | (have hz := hZ5
               have hk := k0
               have hz2 := hzn
               generalize hn : wn.heap.size = n at *
               refine NoPanic.normal ⟨rfl, n, o3, c3, rfl, ?_⟩
               exact ⟨set8_heap hz _ _ _ _ _ _ _ _, hz2, hra4.kp (set8_kp (Kp.refl (fun j => j = n) w4) (g := n) rfl _ _ _ _ _ _ _ _) (fun j _ c e => c.2.2.2 e), hk.fin (set8_kp (Kp.refl (fun j => j = n) w4) (g := n) rfl _ _ _ _ _ _ _ _) (fun j e => Or.inr (by omega))⟩)
            | (have hc := hC6
               have hk := k0
               have hs4 := k0.size
               have hn4 := fun o => heap_alloc_new w4 o
               generalize hn : w4.heap.size = n at *
               refine NoPanic.normal ⟨rfl, n, o3, c3, rfl, ?_⟩
               exact ⟨hn4 _, hs4, (hra4.mono (fun j hj c => ⟨c.1, c.2.1, c.2.2, by omega⟩)).keep ((Kp.refl _ _).alloc _), hk.alloc _⟩)
            | trace_state)
        case k =>
          intro n o3 c3 w4 hG
          obtain ⟨hy4, hn4, hra4, k4⟩ := hG
          unfold rlC at hy4
          have hr4 := k4.heap hr3 id
          have HPS4 := Lib.hid (HPS3.out.keep k4)
          have HK4 := Lib.hid (HK3.out.trans k4)
          have HRA4 := Lib.hid hra4
          clear HS3 hra4 k4 k0 y0 y1 y2 y3 y4 y5 y6 y7 v0 v1 v2 v3 v4 v5 v6 v7 hx3 hr3 HRA3 HPS3 HK3
          obtain ⟨⟨y0, y1, y2, y3⟩, ⟨y4, y5, y6, y7⟩, -⟩ := cells_8 hy4
          by_cases he3 : e3 = 0
          · have HR4 := HRC.out
            rw [if_neg (by simpa using he3)] at HR4
            subst HR4
            have n3 : ((e3 : Int) != 0) = false := by subst he3; rfl
            clear he3
            go_wp2_with (refine wpList_store_rlog rfl (.tmp 6) (.tmp 48) rfl gr o3 c3 po pc m3 (by rfl) (by rfl) hr4 ?_)
            refine bodyPost_ret (v := .tuple #[rlV o3 c3 po pc m3, .int .i64 42]) (by rw [results_rlog_tmp rfl _ _ gr _ rfl (putL9_heap o3 c3 po pc m3 hr4) rfl]; rfl) rfl ?_
            have kL := putL9_kp w4 gr o3 c3 po pc m3
            refine ⟨⟨o3, c3, po, pc, rfl, (HRA4.out.kp kL (fun j _ c e => c.2.2.1 e)).mono (fun j _ c => c.1), ?_, HK4.out.fin kL (fun j e => Or.inr (by omega))⟩⟩
            simp only [HPE3.out]
            exact (HPS4.out.kp kL (fun j _ c e => c.2.2 e)).mono (fun j _ c => c.1)
          · have HR4 := HRC.out
            rw [if_pos (by simpa using he3)] at HR4
            subst HR4
            have n3 : ((e3 : Int) != 0) = true := by simpa using he3
            clear he3
            go_wp2_with (refine wpList_store_rlog rfl (.tmp 6) (.tmp 48) rfl gr o3 c3 po pc m3 (by rfl) (by rfl) hr4 ?_)
            refine bodyPost_ret (v := .tuple #[rlV o3 c3 po pc m3, .int .i64 (e3 : Int)]) (by rw [results_rlog_tmp rfl _ _ gr _ rfl (putL9_heap o3 c3 po pc m3 hr4) rfl]; rfl) rfl ?_
            have kL := putL9_kp w4 gr o3 c3 po pc m3
            refine ⟨⟨o3, c3, po, pc, rfl, (HRA4.out.kp kL (fun j _ c e => c.2.2.1 e)).mono (fun j _ c => c.1), ?_, HK4.out.fin kL (fun j e => Or.inr (by omega))⟩⟩
            simp only [HPE3.out]
            exact (HPS4.out.kp kL (fun j _ c e => c.2.2 e)).mono (fun j _ c => c.1)
      have HR3 := HRB.out
      unfold begR2 at HR3
      rw [if_neg he42] at HR3
      have n42 : ((e2 : Int) == 42) = false := by simp; omega
      by_cases he2 : e2 = 0
      case neg =>
        rw [if_pos he2] at HR3
        subst HR3
        have n0 : ((e2 : Int) != 0) = true := by simpa using he2
        obtain ⟨⟨y0, y1, y2, y3⟩, ⟨y4, y5, y6, y7⟩, -⟩ := cells_8 hx3
        clear he2 he42
        go_wp2_with (refine wpList_store_rlog rfl (.tmp 6) (.tmp 52) rfl gr o2 c2 po pc m2 (by rfl) (by rfl) hr3 ?_)
        refine bodyPost_ret (v := .tuple #[rlV o2 c2 po pc m2, .int .i64 (e2 : Int)]) (by rw [results_rlog_tmp rfl _ _ gr _ rfl (putL9_heap o2 c2 po pc m2 hr3) rfl]; rfl) rfl ?_
        have kL := putL9_kp w3 gr o2 c2 po pc m2
        refine ⟨⟨o2, c2, po, pc, rfl, (HRA3.out.kp kL (fun j _ c e => c.2.2 e)).mono (fun j _ c => c.1), ?_, HK3.out.fin kL (fun j e => Or.inr (by omega))⟩⟩
        simp only [HPE2.out]
        exact (HPS3.out.kp kL (fun j _ c e => c.2.2 e)).mono (fun j _ c => c.1)
      rw [if_neg (by simpa using he2)] at HR3
      subst HR3
      have n0 : ((e2 : Int) != 0) = false := by subst he2; rfl
      have hps3 := HPS3.out
      rw [← HPE2.out] at hps3
      have hpl2 : m2.ps.length ≤ 100000 := by rw [HPE2.out]; exact HH.out.2.2.2.1
      obtain ⟨hs9, hl9, hrow9, hrec9⟩ := hps3.row
      have HREC := Lib.hid hrec9
      have hlv := pcsV_length m2.ps hs9 hl9
      have hpc := hps3.max
      clear he2 he42 hps3 hrec9
      have kB : Kp Noone w3 (w3.alloc (.cells #[] 57)) := (Kp.refl _ _).alloc _
      have hown0 : Own (fun j => w3.heap.size ≤ j) (w3.alloc (.cells #[] 57)) 57 3 (some ⟨w3.heap.size, 0, none⟩) 0 0 [] := Own.fresh (xs := []) (Nat.le_refl _) (heap_alloc_new w3 (.cells #[] 57)) rfl (by simp [maxLen])
      have hrowB := hrow9.keep kB
      obtain ⟨⟨y0, y1, y2, y3⟩, ⟨y4, y5, y6, y7⟩, -⟩ := cells_8 (kB.heap hx3 id)
      have HL9 := Lib.hid hl9
      have HLV := Lib.hid hlv
      clear hl9 hlv
      go_wp2_with (at_builtin; refine wpList_append_gen _ rfl (.tmp 54) (.tmp 56) 35 rfl 57 i0 (.agg #[.int .i64 0, .int .i64 0, .slice none 0 0]) 3 40 Tryz.underlying35 hi hz0 hz1 hz2 rfl (some ⟨w3.heap.size, 0, none⟩) 0 0 rfl po m2.ps.length pc rfl (fun j => w3.heap.size ≤ j) [] hown0 (pcsV m2.ps hs9) HLV.out hrowB (pcsV_one _ _) (by omega) (by unfold maxLen; omega) ?_)
      intro xo xc w4 ho4 k4
      have k34 : Kp Noone w3 w4 := kB.fin k4 (fun j c => Or.inr c)
      have ho4' := ho4.mono (G := fun j => w3.heap.size ≤ j) (fun j _ c => c.elim id (fun c => by have := kB.size; omega))
      have HO4 := Lib.hid ho4'
      have HK34 := Lib.hid k34
      clear ho4 ho4' k4 k34 kB hown0 hrowB y0 y1 y2 y3 y4 y5 y6 y7
      have hA5 := heap_alloc_new w4 (.cells #[.int .i64 (num : Int), .int .i64 (first : Int), .slice none 0 0] 57)
      have k5 : Kp Noone w4 (w4.alloc (.cells #[.int .i64 (num : Int), .int .i64 (first : Int), .slice none 0 0] 57)) := (Kp.refl _ _).alloc _
      have hown5 := HO4.out.keep k5
      have hrow5 : Row (w4.alloc (.cells #[.int .i64 (num : Int), .int .i64 (first : Int), .slice none 0 0] 57)) (some ⟨w4.heap.size, 0, none⟩) [.int .i64 (num : Int), .int .i64 (first : Int), .slice none 0 0] := Row.ofHeap hA5
      have HK35 := Lib.hid (HK34.out.trans k5)
      clear k5 hA5
      go_wp2_with (at_builtin; refine wpList_append_gen _ rfl (.tmp 58) (.tmp 62) 35 rfl 57 i0 (.agg #[.int .i64 0, .int .i64 0, .slice none 0 0]) 3 40 Tryz.underlying35 hi hz0 hz1 hz2 rfl xo m2.ps.length xc rfl (some ⟨w4.heap.size, 0, none⟩) 1 1 rfl (fun j => w3.heap.size ≤ j) (pcsV m2.ps hs9) hown5 [.int .i64 (num : Int), .int .i64 (first : Int), .slice none 0 0] rfl hrow5 (by intro u hu; simp at hu; rcases hu with rfl | rfl | rfl <;> rfl) (by omega) (by unfold maxLen; omega) ?_)
      intro zo zc w6 ho6 k6
      have k36 : Kp Noone w3 w6 := HK35.out.fin k6 (fun j c => Or.inr c)
      have hz35 := HK35.out.size
      have ho6' := ho6.mono (G := fun j => w3.heap.size ≤ j) (fun j _ c => c.elim id (fun c => by omega))
      have e9 := pcsV_snoc m2.ps hs9 ⟨num, first, []⟩ (none, 0) HL9.out
      simp only [List.length_nil] at e9
      rw [← e9] at ho6'
      have hx6 := k36.heap hx3 id
      have hr6 := k36.heap hr3 id
      have HRA6 := Lib.hid (HRA3.out.keep k36)
      have HK36 := Lib.hid k36
      have k7 := (Kp.refl (fun j => j = gx) w6).setCell (p := ⟨gx, 6, none⟩) (fun _ => rfl) (.slice zo (m2.ps.length + 1) zc)
      have hx7 : (w6.setCell ⟨gx, 6, none⟩ (.slice zo (m2.ps.length + 1) zc)).heap[gx]? = some (.cells #[.slice o2 m2.d.L.length c2, .int .i64 m2.d.room, .int .i64 m2.d.steps, .int .i64 m2.d.fuse, .bool m2.d.down, .int .i64 (m2.lim : Int), .slice zo (m2.ps.length + 1) zc, .bool m2.shut] 37 (0, 0)) := (heap_set_cell hx6).trans (by simp)
      have hr7 := k7.heap hr6 (by omega)
      have HRA7 := Lib.hid (HRA6.out.kp k7 (fun j _ c e => c.2.1 e))
      have HK7 := Lib.hid ((HK3.out.trans HK36.out).fin k7 (fun j e => Or.inr (by omega)))
      have hgz : gx < w3.heap.size := (Array.getElem?_eq_some_iff.1 hx3).1
      have ho7 := ho6'.kp k7 (fun j c e => by omega)
      have HPQ := HP'.out
      have hps7 : RPs (fun j => P j ∧ j ≠ gx ∧ j ≠ gr) (w6.setCell ⟨gx, 6, none⟩ (.slice zo (m2.ps.length + 1) zc)) zo (m2.ps.length + 1) zc (m2.ps ++ [⟨num, first, []⟩]) := RPs.ofOwn ho7 (by rw [List.length_append]; rfl) (by rw [List.length_append, List.length_append, HL9.out]; rfl) (fun j _ c => HPQ j (by omega)) (fun i h1 h2 => by
        by_cases hi : i < hs9.length
        · have hi2 : i < m2.ps.length := by rw [HL9.out]; exact hi
          have e1 : (hs9 ++ [(none, 0)])[i] = hs9[i] := List.getElem_append_left hi
          have e2 : (m2.ps ++ [(⟨num, first, []⟩ : PcS)])[i] = m2.ps[i] := List.getElem_append_left hi2
          rw [e1, e2]
          exact ((HREC.out i hi hi2).keep HK36.out).kp k7 (fun j _ c e => c.2.1 e)
        · have hi1 : i = hs9.length := by rw [List.length_append] at h1; simp at h1; omega
          have e1 : (hs9 ++ [(none, 0)])[i] = (none, 0) := by subst hi1; simp
          have e2 : (m2.ps ++ [(⟨num, first, []⟩ : PcS)])[i] = ⟨num, first, []⟩ := by
            have : i = m2.ps.length := by rw [HL9.out]; exact hi1
            subst this
            simp
          rw [e1, e2]
          exact RRec.nil _ _ _)
      have HPS7 := Lib.hid hps7
      obtain ⟨-, ⟨-, -, y6, -⟩, yf⟩ := cells_8 hx6
      have yf6 := yf 6
      go_upto_region 14 with fail
      clear y6 yf yf6 k7 k36 ho6 ho6' k6 ho7 hps7 hown5 hrow5 hx6 hr6 HRA6 hx3 hr3 HRA3 HPS3 HK3 HK34 HK35 HK36 HO4 e9
      generalize w6.setCell ⟨gx, 6, none⟩ (.slice zo (m2.ps.length + 1) zc) = w7 at *
      obtain ⟨⟨y0, y1, y2, y3⟩, ⟨y4, y5, y6, y7⟩, -⟩ := cells_8 hx7
      have hN1 : (m2.ps ++ [(⟨num, first, []⟩ : PcS)]).length = m2.ps.length + 1 := by rw [List.length_append]; rfl
      have hput := putL9_heap o2 c2 zo zc ⟨m2.d, m2.lim, m2.ps ++ [⟨num, first, []⟩], m2.shut⟩ hr7
      have kL := putL9_kp w7 gr o2 c2 zo zc ⟨m2.d, m2.lim, m2.ps ++ [⟨num, first, []⟩], m2.shut⟩
      have HPUT := Lib.hid hput
      have HKL := Lib.hid kL
      clear hput kL
      go_wp2_with (refine wpList_store_rlog rfl (.tmp 6) (.tmp 65) rfl gr o2 c2 zo zc ⟨m2.d, m2.lim, m2.ps ++ [⟨num, first, []⟩], m2.shut⟩ (by rfl) (by unfold rlV rlC; simp only [hN1]; rfl) hr7 ?_)
      refine bodyPost_ret (v := .tuple #[rlV o2 c2 zo zc ⟨m2.d, m2.lim, m2.ps ++ [⟨num, first, []⟩], m2.shut⟩, .int .i64 0]) (by rw [results_rlog_tmp rfl _ _ gr _ rfl HPUT.out rfl]; rfl) rfl ?_
      refine ⟨⟨o2, c2, zo, zc, rfl, (HRA7.out.kp HKL.out (fun j _ c e => c.2.2 e)).mono (fun j _ c => c.1), ?_, HK7.out.fin HKL.out (fun j e => Or.inr (by omega))⟩⟩
      show RPs P _ zo (m2.ps ++ [(⟨num, first, []⟩ : PcS)]).length zc (m2.ps ++ [⟨num, first, []⟩])
      rw [hN1]
      exact (HPS7.out.kp HKL.out (fun j _ c e => c.2.2 e)).mono (fun j _ c => c.1)

end Go.Proofs.YtigdhdclfdojgaaGreat
