/-
  wal: THE WALK of Trim.
-/
import Derived.Test.YtigdhdclfdojgaaGreatWalOps
namespace Go.Proofs.YtigdhdclfdojgaaGreat
open Go.RowKit

def trimLoop (idx : Int) : List (Nat × Nat) → DS → LogP → DS × LogP × Nat
  | [], s, l => (s, l, 0)
  | [_], s, l => (s, l, 0)
  | a :: b :: r, s, l => if (b.2 : Int) ≤ idx then (if (dropF s (walName a.1)).2 ≠ 0 then ((dropF s (walName a.1)).1, metF l (dropF s (walName a.1)).2, (dropF s (walName a.1)).2) else trimLoop idx (b :: r) (dropF s (walName a.1)).1 { l with pieces := b :: r }) else (s, l, 0)
def trimLF (s : DS) (l : LogP) (idx : Int) : DS × LogP × Nat := if (aliveF s l).2 ≠ 0 then (s, (aliveF s l).1, (aliveF s l).2) else trimLoop idx l.pieces s l
theorem trimLoop_cons (idx : Int) (a b : Nat × Nat) (r : List (Nat × Nat)) (s : DS) (l : LogP) : trimLoop idx (a :: b :: r) s l = if (b.2 : Int) ≤ idx then (if (dropF s (walName a.1)).2 ≠ 0 then ((dropF s (walName a.1)).1, metF l (dropF s (walName a.1)).2, (dropF s (walName a.1)).2) else trimLoop idx (b :: r) (dropF s (walName a.1)).1 { l with pieces := b :: r }) else (s, l, 0) := rfl
theorem trimLoop_one (idx : Int) (a : Nat × Nat) (s : DS) (l : LogP) : trimLoop idx [a] s l = (s, l, 0) := rfl
/-- A slice without its first element. -/
theorem Own.tail {F : Nat → Prop} {w : World} {e sz g off n cap : Nat} {xs : List Value} (h : Own F w e sz (some ⟨g, off, none⟩) n cap xs) (hn : 1 ≤ n) : Own F w e sz (some ⟨g, off + sz, none⟩) (n - 1) (cap - 1) (xs.drop sz) := by
  obtain ⟨h1, h2, h3, h4⟩ := h
  have hm : n * sz = (n - 1) * sz + sz := by
    obtain ⟨k, rfl⟩ : ∃ k, n = k + 1 := ⟨n - 1, by omega⟩
    rw [Nat.add_mul, Nat.one_mul]
    rfl
  have hm2 : cap * sz = (cap - 1) * sz + sz := by
    obtain ⟨k, rfl⟩ : ∃ k, cap = k + 1 := ⟨cap - 1, by omega⟩
    rw [Nat.add_mul, Nat.one_mul]
    rfl
  refine ⟨by rw [List.length_drop, h1, hm]; omega, by omega, by omega, ?_⟩
  rcases h4 with h4 | ⟨g', off', cur, h0, hg, hh, hb, hr⟩
  · omega
  · cases h0
    refine Or.inr ⟨g, off + sz, cur, rfl, hg, hh, by omega, fun i hi => ?_⟩
    have hi2 : sz + i < xs.length := by rw [List.length_drop] at hi; omega
    have h5 := hr (sz + i) hi2
    rw [Nat.add_assoc, h5, List.getElem_drop]
theorem piecesV_tail (a : Nat × Nat) (r : List (Nat × Nat)) : (piecesV (a :: r)).drop 2 = piecesV r := by simp [piecesV]

set_option maxHeartbeats 1000000 in
theorem met_p (B c i : Nat) (col : Nat → Nat) (w : World) (p q : Nat) (s : DS) (l : LogP) (po : Option Addr) (pc : Nat) (e : Nat) (hd : Dk col i w p s) (hl : LAt c col w p q l po pc) (hc : Cols B w col) (hci : c ≠ 0 ∧ (c + 1 ≤ i ∨ i + 3 < c)) :
    Calls Tryz.prog 53 #[.pointer (some ⟨q, 0, none⟩), .int .i64 (e : Int)] w fun e' w' => e' = .returned (.int .i64 (e : Int)) ∧ Ext B (SL i c) col w col w' ∧ Dk col i w' p s ∧ LAt c col w' p q (metF l e) po pc := by
  have hb := hl.box
  unfold logC at hb
  obtain ⟨⟨y0, y1, y2, y3, y4, y5⟩, yf⟩ := cells_6f hb
  have yf5 := yf 5
  by_cases h2 : e = 2
  · have hm : metF l e = { l with shut := true } := by unfold metF; rw [if_pos h2]
    have hs := Lg.set (l' := { l with shut := true }) hd hl hc hci ((Kp.refl (fun j => j = q) w).setCell (p := ⟨q, 5, none⟩) (fun _ => rfl) (.bool true)) ((heap_set_cell hl.box).trans (by unfold logC; simp)) rfl
    have hs2 := hl.set (l' := { l with shut := true }) ((Kp.refl (fun j => j = q) w).setCell (p := ⟨q, 5, none⟩) (fun _ => rfl) (.bool true)) ((heap_set_cell hl.box).trans (by unfold logC; simp)) rfl
    rw [hm]
    have HS := Lib.hid (And.intro hs.1 (And.intro hs.2.dk hs2))
    subst h2
    clear hs hs2 hd hl hb hm
    go_enter Tryz.func53, Tryz.ntmps53
    go_wp2_with fail
    go_ret
    exact ⟨rfl, HS.out.1, HS.out.2.1, HS.out.2.2⟩
  · have hm : metF l e = l := by unfold metF; rw [if_neg h2]
    rw [hm]
    have he : ((e : Int) == 2) = false := by simp; omega
    have HS := Lib.hid (And.intro hd hl)
    clear hd hl hb hm h2
    go_enter Tryz.func53, Tryz.ntmps53
    go_wp2_with fail
    go_ret
    exact ⟨rfl, Ext.quiet hc (Kp.refl _ _), HS.out.1, HS.out.2⟩
theorem metF_pieces (l : LogP) (e : Nat) : (metF l e).pieces = l.pieces := by
  unfold metF
  split <;> rfl
/-- Between two pieces. -/
structure TrR (B c i : Nat) (c1 : Nat → Nat) (w1 : World) (p q : Nat) (idx : Int) (s0 : DS) (RES : DS × LogP × Nat) (wr : World) : Prop where
  ex : ∃ (col : Nat → Nat) (s : DS) (l : LogP), Ext B (SL i c) c1 w1 col wr ∧ Lg c i col wr p q s l ∧ LOk l ∧ s.steps + l.pieces.length ≤ s0.steps + 1048576 ∧ trimLoop idx l.pieces s l = RES
def lenAt (q : Nat) (w : World) : Nat := match w.cell? ⟨q, 2, none⟩ with
  | some (.slice _ n _) => n
  | _ => 0

theorem LAt.three {c : Nat} {col : Nat → Nat} {w : World} {p q : Nat} {l : LogP} {g off pc : Nat} {a : Nat × Nat} {r : List (Nat × Nat)} {np : Nat} (h : LAt c col w p q l (some ⟨g, off, none⟩) pc) (e : l.pieces = a :: r) (en : r.length + 1 = np) : w.cell? ⟨q, 0, none⟩ = some (.pointer (some ⟨p, 0, none⟩)) ∧ w.cell? ⟨q, 2, none⟩ = some (.slice (some ⟨g, off, none⟩) np pc) ∧ w.cell? ⟨g, off, none⟩ = some (.int .i64 (a.1 : Int)) := by
  have hb := h.box
  unfold logC at hb
  obtain ⟨y0, y1, y2, y3, y4, y5⟩ := (cells_6f hb).1
  obtain ⟨g', off', hpo, hc, -⟩ := h.first (j := 0) (by rw [e]; simp)
  cases hpo
  rw [Nat.zero_mul, Nat.add_zero] at hc
  simp only [e, List.getElem_cons_zero] at hc
  have hl : l.pieces.length = np := by rw [e, ← en]; rfl
  rw [hl] at y2
  exact ⟨y0, y2, hc⟩
attribute [local irreducible] dropF walName

set_option maxHeartbeats 4000000 in
set_option maxRecDepth 100000 in
theorem trim_l (B c i : Nat) (col : Nat → Nat) (w : World) (p q : Nat) (s : DS) (l : LogP) (idx : Int) (h : Lg c i col w p q s l) (hok : LOk l) (hc : Cols B w col) (hBw : B ≤ w.heap.size) (hci : c ≠ 0 ∧ (c + 1 ≤ i ∨ i + 3 < c)) (hst : s.steps < 4611686018420000000) :
    Calls Tryz.prog 42 #[.pointer (some ⟨q, 0, none⟩), .int .i64 idx] w fun e w' => LgTo B c i col w p q (trimLF s l idx).1 (trimLF s l idx).2.1 (.int .i64 ((trimLF s l idx).2.2 : Int)) e w' := by
  obtain ⟨RES, hRES⟩ : ∃ x, Hid (trimLF s l idx = x) := ⟨_, Lib.hid rfl⟩
  rw [hRES.out]
  have HR := hRES.out
  unfold trimLF at HR
  have hal := alive_l B c i col w p q s l h hc hci
  have haz := @aliveF_zero s l
  generalize aliveF s l = A at *
  obtain ⟨la, ea⟩ := A
  simp only [] at HR hal haz
  have HRR := Lib.hid HR
  have HAZ := Lib.hid haz
  clear HR hRES haz h
  go_enter Tryz.func42, Tryz.ntmps42
  go_wp2_with fail
  refine hal.mono ?_
  clear hal
  rintro e w1 hto
  obtain ⟨c1, rfl, x1, h1⟩ := hto.ex
  have HX1 := Lib.hid x1
  clear x1 hto
  by_cases h0 : ea = 0
  case neg =>
    have HR := HRR.out
    rw [if_pos h0] at HR
    subst HR
    have n0 : ((ea : Int) != 0) = true := by simpa using h0
    clear h0
    go_wp2_with fail
    go_ret
    exact ⟨⟨c1, rfl, HX1.out, h1⟩⟩
  subst h0
  have HR := HRR.out
  rw [if_neg (by simp)] at HR
  have hla := HAZ.out rfl
  rw [hla] at h1
  rw [Int.natCast_zero]
  have hB1 : B ≤ w1.heap.size := by have h := HX1.out.size; omega
  have R0 : Hid (TrR B c i c1 w1 p q idx s RES w1) := Lib.hid ⟨⟨c1, s, l, Ext.quiet HX1.out.cols (Kp.refl _ _), h1, hok, by have := hok.len; omega, HR⟩⟩
  clear HR HRR h1 hla hok
  go_wp2_with fail
  go_loopw [6] (fun _ wr => TrR B c i c1 w1 p q idx s RES wr) (fun _ wr => lenAt q wr)
  case atStart => exact R0.out
  case round =>
    clear R0
    obtain ⟨c2, s2, l2, X2, h2, ok2, hst2, hfold⟩ := hrel.ex
    obtain ⟨lim2, ps2, nx2, sz2, sh2⟩ := l2
    have hB2 : B ≤ wr.heap.size := by have h := X2.size; omega
    obtain ⟨hd2, po, pc, hl2⟩ := h2
    have hb2 := hl2.box
    unfold logC at hb2
    have hca := (cells_6f hb2).1
    obtain ⟨y0, y1, y2, y3, y4, y5⟩ := hca
    obtain ⟨a, r1, hps⟩ : ∃ a r1, ps2 = a :: r1 := by
      have h := ok2.pieces
      cases ps2 with
      | nil => exact absurd rfl h
      | cons a r1 => exact ⟨a, r1, rfl⟩
    simp only [] at hps y0 y1 y2 y3 y4 y5 hfold hst2
    subst hps
    have hfin : ∀ W, Kp Noone wr W → trimLoop idx (a :: r1) s2 ⟨lim2, a :: r1, nx2, sz2, sh2⟩ = (s2, ⟨lim2, a :: r1, nx2, sz2, sh2⟩, 0) → LgTo B c i col w p q RES.1 RES.2.1 (.int .i64 (RES.2.2 : Int)) (.returned (.int .i64 0)) W := fun W k e => by
      rw [hfold] at e
      rw [e]
      exact ⟨c2, rfl, HX1.out.trans (X2.trans (Ext.quiet X2.cols k)), Lg.keep ⟨hd2, po, pc, hl2⟩ k⟩
    have HFIN := Lib.hid hfin
    clear hfin
    cases r1 with
    | nil =>
      have hg : ¬ (1 : Int) < ((1 : Nat) : Int) := by omega
      have y2' : wr.cell? ⟨q, 2, none⟩ = some (.slice po 1 pc) := y2
      have HQ := Lib.hid (HFIN.out wr (Kp.refl _ _) (trimLoop_one idx a s2 _))
      clear HFIN hfold hd2 hl2 hb2 y2
      go_wp2_with fail
      go_ret
      exact HQ.out
    | cons b r =>
      have hlen := ok2.len
      have hbn : a.1 ≤ 999999 := ok2.nums a (List.mem_cons_self ..)
      obtain ⟨g, off, hpo, hg1, -⟩ := hl2.first (j := 0) (by simp)
      obtain ⟨g', off', hpo', -, hg2⟩ := hl2.first (j := 1) (by simp)
      rw [hpo] at hpo'
      cases hpo'
      have hgF : True := trivial
      subst hpo
      rw [Nat.zero_mul, Nat.add_zero] at hg1
      have y2' : wr.cell? ⟨q, 2, none⟩ = some (.slice (some ⟨g, off, none⟩) (r.length + 2) pc) := y2
      have hl2' : wr.cell? ⟨g, off, none⟩ = some (.int .i64 (a.1 : Int)) := hg1
      have hg2' : wr.cell? ⟨g, off + 1 * 2 + 1, none⟩ = some (.int .i64 (b.2 : Int)) := hg2
      have hlenr : r.length + 2 ≤ 1048576 := by simpa using hlen
      have hlA : lenAt q wr = r.length + 2 := by unfold lenAt; rw [y2']
      clear hg1 hg2 y2 hlen
      obtain ⟨np, hnp⟩ : ∃ x, Hid (r.length + 2 = x) := ⟨_, Lib.hid rfl⟩
      rw [hnp.out] at y2' hlenr hlA
      have hg : (1 : Int) < (np : Int) := by have := hnp.out; omega
      have hg0 : (0 : Int) < (np : Int) := by omega
      have hg0n : 0 < np := by omega
      have hF := Lib.hid hfold
      have HL := Lib.hid hl2
      have HD := Lib.hid hd2
      have HA := Lib.hid hlA
      have HST := Lib.hid hst2
      have HBX := Lib.hid hb2
      have HOK := Lib.hid ok2
      clear hfold hl2 hd2 hlA hst2 hb2 ok2 hrel
      by_cases hidx : (b.2 : Int) ≤ idx
      case neg =>
        have HQ := Lib.hid (HFIN.out wr (Kp.refl _ _) (by rw [trimLoop_cons, if_neg hidx]))
        clear HFIN
        go_wp2_with fail
        go_ret
        exact HQ.out
      clear HFIN
      have k0 : Kp Noone wr wr.drew := (Kp.refl _ _).drew
      have har := area_w a.1 wr.drew hbn
      have hns := walName_size a.1
      have hst3 : s2.steps < 4611686018427387904 := by have := HST.out; omega
      have hdr := fun W (k : Kp Noone wr W) => drop_dk B c2 i p s2 (walName a.1) W (HD.out.keep k) (X2.cols.keep k.size) (by rw [hns]; omega) hst3
      have hds := dropF_steps s2 (walName a.1)
      have hF2 := hF.out
      rw [trimLoop_cons, if_pos hidx] at hF2
      generalize walName a.1 = nm at *
      generalize dropF s2 nm = r2 at *
      obtain ⟨s3, e2⟩ := r2
      simp only [] at hF2 hdr hds
      have HDS := Lib.hid hds
      have HF2 := Lib.hid hF2
      have hla := fun (c3 : Nat → Nat) W V (k : Kp Noone wr W) (x : Ext B (S3 i) c2 W c3 V) => (HL.out.keep k).ext x (by unfold S3; omega) (by unfold S3; omega)
      have hmt := fun (c3 : Nat → Nat) W V (k : Kp Noone wr W) (x : Ext B (S3 i) c2 W c3 V) (H : Dk c3 i V p s3) => met_p B c i c3 V p q s3 _ _ _ e2 H (hla c3 W V k x) x.cols hci
      have hcs : ∀ W, Kp Noone wr W → (W.cell? ⟨q, 0, none⟩ = some (.pointer (some ⟨p, 0, none⟩)) ∧ W.cell? ⟨q, 2, none⟩ = some (.slice (some ⟨g, off, none⟩) np pc) ∧ W.cell? ⟨g, off, none⟩ = some (.int .i64 (a.1 : Int))) := fun W k => ⟨k.cell y0 id, k.cell y2' id, k.cell hl2' id⟩
      clear hF hF2 hds hst3 hns hla
      go_upto_region 5 with fail
      go_region_held3 (fun w' => w'.cell? ⟨q, 0, none⟩ = some (.pointer (some ⟨p, 0, none⟩)) ∧ w'.cell? ⟨q, 2, none⟩ = some (.slice (some ⟨g, off, none⟩) np pc) ∧ w'.cell? ⟨g, off, none⟩ = some (.int .i64 (a.1 : Int)))
        (first | exact hcs _ k0 | exact hcs _ ka | exact LAt.three ((HL.out.keep ka).ext x3 (by unfold S3; omega) (by unfold S3; omega)) rfl hnp.out | exact LAt.three l4 (metF_pieces _ _) hnp.out)
        (first
          | (go_at_call 47; refine har.mono ?_; rintro e wa ⟨rfl, ka1⟩; have ka := k0.trans ka1)
          | (go_at_call 46; refine (hdr _ ka).mono ?_; rintro e wb ⟨rfl, c3, x3, d3⟩)
          | (go_at_call 53; refine (hmt c3 _ wb ka x3 d3).mono ?_; rintro e wd ⟨rfl, x4, d4, l4⟩))
      have X4 := X2.trans ((Ext.quiet X2.cols ka).trans ((x3.mono (fun x hx => Or.inl hx)).trans x4))
      have HX4 := Lib.hid X4
      have HD4 := Lib.hid d4
      have HL4 := Lib.hid l4
      clear hcs har hdr hmt k0 ka ka1 x3 d3 x4 d4 l4 X4
      by_cases he2 : e2 = 0
      case neg =>
        have HR := HF2.out
        rw [if_pos he2] at HR
        have n2 : ((e2 : Int) != 0) = true := by simpa using he2
        have HQ : Hid (LgTo B c i col w p q RES.1 RES.2.1 (.int .i64 (RES.2.2 : Int)) (.returned (.int .i64 (e2 : Int))) wd) := Lib.hid (by
          rw [← HR]
          exact ⟨c3, rfl, HX1.out.trans HX4.out, HD4.out, _, _, HL4.out⟩)
        clear HR HF2 he2
        go_wp2_with fail
        go_ret
        exact HQ.out
      subst he2
      have HR := HF2.out
      rw [if_neg (by simp)] at HR
      rw [Int.natCast_zero]
      have hm0 : metF (⟨lim2, a :: b :: r, nx2, sz2, sh2⟩ : LogP) 0 = ⟨lim2, a :: b :: r, nx2, sz2, sh2⟩ := rfl
      have L4 := HL4.out
      rw [hm0] at L4
      have hb4 := L4.box
      have z2 := (LAt.three L4 rfl hnp.out).2.1
      unfold logC at hb4
      have zf := (cells_6f hb4).2 2
      have hcap : np ≤ pc := by have := L4.pieces.2.1; have := hnp.out; simp at *; omega
      have hcapi : (np : Int) ≤ (pc : Int) := by omega
      have hone : (1 : Int) ≤ (np : Int) := by omega
      have HR2 := Lib.hid HR
      have HL5 := Lib.hid L4
      clear HR HF2 L4 HL4 hb4
      go_wp2_with fail
      have hn := hnp.out
      subst hn
      have hL5 := HL5.out
      have kq : Kp (fun j => j = q) wd (wd.setCell ⟨q, 2, none⟩ (.slice (some ⟨g, off + 2, none⟩) (r.length + 2 - 1) (pc - 1))) := (Kp.refl (fun j => j = q) wd).setCell (p := ⟨q, 2, none⟩) (fun _ => rfl) _
      have hbx : (wd.setCell ⟨q, 2, none⟩ (.slice (some ⟨g, off + 2, none⟩) (r.length + 2 - 1) (pc - 1))).heap[q]? = some (.cells (logC p ⟨lim2, b :: r, nx2, sz2, sh2⟩ (some ⟨g, off + 2, none⟩) (pc - 1)) 100 (0, 0)) := (heap_set_cell hL5.box).trans (by unfold logC; simp)
      have hpp := Own.tail hL5.pieces (by simp)
      rw [piecesV_tail] at hpp
      have hl6 : LAt c c3 (wd.setCell ⟨q, 2, none⟩ (.slice (some ⟨g, off + 2, none⟩) (r.length + 2 - 1) (pc - 1))) p q ⟨lim2, b :: r, nx2, sz2, sh2⟩ (some ⟨g, off + 2, none⟩) (pc - 1) := ⟨hbx, hL5.qc, hpp.kp kq (fun j d e => by have d1 : c3 j = c + 1 := d; have h7 := hL5.qc; rw [e] at d1; omega)⟩
      have hls : lenAt q (wd.setCell ⟨q, 2, none⟩ (.slice (some ⟨g, off + 2, none⟩) (r.length + 2 - 1) (pc - 1))) = r.length + 1 := by
        have h8 := hbx
        unfold logC at h8
        have h9 := (cells_6f h8).1.2.2.1
        unfold lenAt
        rw [h9]
        rfl
      refine ⟨⟨⟨c3, s3, ⟨lim2, b :: r, nx2, sz2, sh2⟩, HX4.out.trans (box_extS HX4.out.cols (kq.mono (fun j _ e => by rw [e, hL5.qc]; exact Or.inr (Or.inl rfl)))), ⟨?_, _, _, hl6⟩, ?_, ?_, HR2.out⟩⟩, ?_⟩
      · obtain ⟨⟨r7, hr7⟩, hi7⟩ := HD4.out
        exact ⟨⟨r7, hr7.beside (S := fun x => x = c) (kq.mono (fun j _ e => by rw [e]; exact hL5.qc)) (fun x a b => by unfold S3 at a; omega)⟩, hi7⟩
      · have o := HOK.out
        exact ⟨o.limit, by simp, fun x hx => o.nums x (List.mem_cons_of_mem _ hx), fun x hx => o.firsts x (List.mem_cons_of_mem _ hx), o.next, o.size, by have := o.len; simp at *; omega⟩
      · have h1 := HST.out
        have h2 := HDS.out
        simp at *
        omega
      · rw [hls, HA.out]
        omega


end Go.Proofs.YtigdhdclfdojgaaGreat
