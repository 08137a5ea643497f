/-
  The texts WalOps, WalTrim in one: what the claim reaches of them.
-/
import Derived.Test.YtgbgbokcohfnpaaGreatP11
import Derived.BigQuiet
/-
  wal: THE WALKS of Sync, Append.
-/
namespace Go.Proofs.YtgbgbokcohfnpaaGreat
open Go.RowKit

def syncLF (s : DS) (l : LogP) : DS × LogP × Nat := if (aliveF s l).2 ≠ 0 then (s, (aliveF s l).1, (aliveF s l).2) else ((syncF s (walName (lastP l).1)).1, metF l (syncF s (walName (lastP l).1)).2, (syncF s (walName (lastP l).1)).2)
def appTail (s : DS) (l : LogP) (d : List UInt8) : DS × LogP × Nat × Nat :=
  if (appendF s (walName (lastP l).1) (frameL d)).2 ≠ 0 then ((appendF s (walName (lastP l).1) (frameL d)).1, metF l (appendF s (walName (lastP l).1) (frameL d)).2, 0, (appendF s (walName (lastP l).1) (frameL d)).2)
  else ((appendF s (walName (lastP l).1) (frameL d)).1, { l with size := l.size + (frameL d).length, next := l.next + 1 }, l.next, 0)
def roll2 (r : DS × LogP × Nat) (d : List UInt8) : DS × LogP × Nat × Nat := if r.2.2 ≠ 0 then (r.1, r.2.1, 0, r.2.2) else appTail r.1 r.2.1 d
def rollF (t : DS × Nat) (l : LogP) (d : List UInt8) : DS × LogP × Nat × Nat := if t.2 ≠ 0 then (t.1, metF l t.2, 0, t.2) else roll2 (beginF t.1 l ((lastP l).1 + 1) l.next) d
def appendLF (s : DS) (l : LogP) (d : List UInt8) : DS × LogP × Nat × Nat :=
  if (aliveF s l).2 ≠ 0 then (s, (aliveF s l).1, 0, (aliveF s l).2)
  else if 8192 < d.length then (s, l, 0, 12)
  else if l.limit ≤ l.size ∧ (lastP l).2 < l.next then (if 999999 ≤ (lastP l).1 then (s, l, 0, 43) else rollF (syncF s (walName (lastP l).1)) l d)
  else appTail s l d
theorem Lg.cells {c i : Nat} {col : Nat → Nat} {w : World} {p q : Nat} {s : DS} {l : LogP} (h : Lg c i col w p q s l) : w.cell? ⟨q, 0, none⟩ = some (.pointer (some ⟨p, 0, none⟩)) ∧ w.cell? ⟨q, 3, none⟩ = some (.int .i64 (l.next : Int)) := by
  obtain ⟨-, po, pc, hl⟩ := h
  have hb := hl.box
  unfold logC at hb
  have h := (cells_6f hb).1
  exact ⟨h.1, h.2.2.2.1⟩
theorem aliveF_zero {s : DS} {l : LogP} (h : (aliveF s l).2 = 0) : (aliveF s l).1 = l := by
  unfold aliveF at h ⊢
  split
  · rename_i hc
    rw [if_pos hc] at h
    simp at h
  · rfl

theorem beginF_next (s : DS) (l : LogP) (a : Nat) : (beginF s l a l.next).2.1.next = l.next := by
  unfold beginF
  split
  · unfold metF
    split <;> rfl
  · unfold beginB
    split
    · split
      · unfold metF
        split <;> rfl
      · rfl
    · split
      · unfold metF
        split <;> rfl
      · rfl
theorem beginF_zero (s : DS) (l : LogP) (a b : Nat) (h : (beginF s l a b).2.2 = 0) : (beginF s l a b).2.1 = beginOk l a b := by
  unfold beginF at h ⊢
  split
  · rename_i hc
    rw [if_pos hc] at h
    exact absurd h hc
  · rename_i hc
    rw [if_neg hc] at h
    unfold beginB at h ⊢
    split
    · rename_i h42
      rw [if_pos h42] at h
      split
      · rename_i hd
        rw [if_pos hd] at h
        exact absurd h hd
      · rename_i hd
        rw [if_neg hd] at h
        simp at h
    · rename_i h42
      rw [if_neg h42] at h
      split
      · rename_i hd
        rw [if_pos hd] at h
        exact absurd h hd
      · rfl
theorem beginF_steps (s : DS) (l : LogP) (a b : Nat) : (beginF s l a b).1.steps ≤ s.steps + 3 := by
  have h1 := appendF_steps s (walName a) (headerL a b)
  have h2 := syncF_steps (appendF s (walName a) (headerL a b)).1 (walName a)
  have h3 := dropF_steps (syncF (appendF s (walName a) (headerL a b)).1 (walName a)).1 (walName a)
  unfold beginF
  split
  · show (appendF s (walName a) (headerL a b)).1.steps ≤ _; omega
  · unfold beginB
    split
    · split
      · show (dropF (syncF (appendF s (walName a) (headerL a b)).1 (walName a)).1 (walName a)).1.steps ≤ _; omega
      · show (dropF (syncF (appendF s (walName a) (headerL a b)).1 (walName a)).1 (walName a)).1.steps ≤ _; omega
    · split
      · show (syncF (appendF s (walName a) (headerL a b)).1 (walName a)).1.steps ≤ _; omega
      · show (syncF (appendF s (walName a) (headerL a b)).1 (walName a)).1.steps ≤ _; omega
theorem beginOk_ok {l : LogP} (h : LOk l) {a b : Nat} (ha : a ≤ 999999) (hb : b ≤ 4611686018427387904) (hl : l.pieces.length ≤ 1000000) : LOk (beginOk l a b) :=
  ⟨h.limit, by simp [beginOk], fun x hx => by
    rcases List.mem_append.1 hx with h1 | h1
    · exact h.nums x h1
    · rw [List.mem_singleton.1 h1]; exact ha, fun x hx => by
    rcases List.mem_append.1 hx with h1 | h1
    · exact h.firsts x h1
    · rw [List.mem_singleton.1 h1]; exact hb, hb, by have := headerL_len a b; show (headerL a b).length ≤ _; omega, by show (l.pieces ++ [(a, b)]).length ≤ _; rw [List.length_append]; simp; omega⟩
theorem Lg.cell4 {c i : Nat} {col : Nat → Nat} {w : World} {p q : Nat} {s : DS} {l : LogP} (h : Lg c i col w p q s l) : w.cell? ⟨q, 1, none⟩ = some (.int .i64 (l.limit : Int)) ∧ w.cell? ⟨q, 4, none⟩ = some (.int .i64 (l.size : Int)) := by
  obtain ⟨-, po, pc, hl⟩ := h
  have hb := hl.box
  unfold logC at hb
  have h := (cells_6f hb).1
  exact ⟨h.2.1, h.2.2.2.2.1⟩
attribute [local irreducible] appendF syncF dropF headerL walName beginF
set_option maxHeartbeats 4000000 in
set_option maxRecDepth 100000 in
theorem sync_l (B c i : Nat) (col : Nat → Nat) (w : World) (p q : Nat) (s : DS) (l : LogP) (h : Lg c i col w p q s l) (hok : LOk l) (hc : Cols B w col) (hBw : B ≤ w.heap.size) (hci : c ≠ 0 ∧ (c + 1 ≤ i ∨ i + 3 < c)) (hst : s.steps < 4611686018427387900) :
    Calls Tryz.prog 88 #[.pointer (some ⟨q, 0, none⟩)] w fun e w' => LgTo B c i col w p q (syncLF s l).1 (syncLF s l).2.1 (.int .i64 ((syncLF s l).2.2 : Int)) e w' := by
  obtain ⟨RES, hRES⟩ : ∃ x, Hid (syncLF s l = x) := ⟨_, Lib.hid rfl⟩
  rw [hRES.out]
  have HR := hRES.out
  unfold syncLF at HR
  have hal := alive_l B c i col w p q s l h hc hci
  have haz := @aliveF_zero s l
  generalize aliveF s l = A at *
  obtain ⟨la, ea⟩ := A
  simp only [] at HR hal haz
  have HRR := Lib.hid HR
  have HAZ := Lib.hid haz
  clear HR hRES haz h
  go_enter Tryz.func88, Tryz.ntmps88
  go_wp2_with fail
  refine hal.mono ?_
  clear hal
  rintro e w1 hto
  obtain ⟨c1, rfl, x1, h1⟩ := hto.ex
  have HX1 := Lib.hid x1
  clear x1 hto
  by_cases h0 : ea = 0
  case neg =>
    have HR := HRR.out
    rw [if_pos h0] at HR
    subst HR
    have n0 : ((ea : Int) != 0) = true := by simpa using h0
    clear h0
    go_wp2_with fail
    go_ret
    exact ⟨⟨c1, rfl, HX1.out, h1⟩⟩
  subst h0
  have HR := HRR.out
  rw [if_neg (by simp)] at HR
  have hla := HAZ.out rfl
  rw [hla] at h1
  rw [Int.natCast_zero]
  have hB1 : B ≤ w1.heap.size := by have h := HX1.out.size; omega
  have k0 : Kp Noone w1 w1.drew := (Kp.refl _ _).drew
  have hlst := last_l c i c1 w1.drew p q s l (h1.keep k0) hok
  have hns := walName_size (lastP l).1
  generalize walName (lastP l).1 = nm at *
  have hsy := fun W (k : Kp Noone w1 W) => sync_lg B c i c1 W p q s l nm (h1.keep k) (HX1.out.cols.keep k.size) (Nat.le_trans hB1 k.size) hci (by omega) (by omega)
  generalize syncF s nm = r2 at *
  obtain ⟨s2, e2⟩ := r2
  simp only [] at HR hsy
  subst HR
  have hmt := fun (c2 : Nat → Nat) W (hc2 : Cols B W c2) (H : Lg c i c2 W p q s2 l) => met_l B c i c2 W p q s2 l e2 H hc2 hci
  have s0 := (h1.keep k0).cells.1
  have hcs : ∀ (W : World), Kp Noone w1 W → W.cell? ⟨q, 0, none⟩ = some (.pointer (some ⟨p, 0, none⟩)) := fun W k => (h1.keep k).cells.1
  go_upto_region 4 with fail
  go_region_held3 (fun w' => w'.cell? ⟨q, 0, none⟩ = some (.pointer (some ⟨p, 0, none⟩)))
    (first | exact s0 | exact hcs _ ka | exact h2.cells.1 | exact h3.cells.1)
    (first
      | (go_at_call 56; refine hlst.mono ?_; rintro e wa ⟨rfl, ka1⟩; have ka := k0.trans ka1)
      | (go_at_call 58; refine (hsy _ ka).mono ?_; rintro e wb htb; obtain ⟨c2, rfl, x2, h2⟩ := htb.ex)
      | (go_at_call 97; refine (hmt c2 wb x2.cols h2).mono ?_; rintro e wd htd; obtain ⟨c3, rfl, x3, h3⟩ := htd.ex))
  have HX3 := Lib.hid (((HX1.out.trans (Ext.quiet HX1.out.cols ka)).trans x2).trans x3)
  clear hcs s0 hlst hsy hmt ka1 ka htb x2 h2 htd x3 h1 k0
  go_wp2_with fail
  go_ret
  exact ⟨⟨c3, rfl, HX3.out, h3⟩⟩

set_option maxHeartbeats 8000000 in
set_option maxRecDepth 100000 in
theorem append_l (B c i : Nat) (col : Nat → Nat) (w : World) (p q : Nat) (s : DS) (l : LogP) (fo : Option Addr) (n cap : Nat) (d : List UInt8) (h : Lg c i col w p q s l) (hok : LOk l) (hc : Cols B w col) (hBw : B ≤ w.heap.size) (hci : c ≠ 0 ∧ (c + 1 ≤ i ∨ i + 3 < c)) (hb : DataP (fun j => col j = 0) w fo n cap d) (hst : s.steps < 4611686018427387000) (hnx : l.next < 4611686018427387000) (hsz : l.size < 4611686018427380000) (hpl : l.pieces.length ≤ 1000000) :
    Calls Tryz.prog 86 #[.pointer (some ⟨q, 0, none⟩), .slice fo n cap] w fun e w' => LgTo B c i col w p q (appendLF s l d).1 (appendLF s l d).2.1 (.tuple #[.int .i64 ((appendLF s l d).2.2.1 : Int), .int .i64 ((appendLF s l d).2.2.2 : Int)]) e w' := by
  obtain ⟨RES, hRES⟩ : ∃ x, Hid (appendLF s l d = x) := ⟨_, Lib.hid rfl⟩
  rw [hRES.out]
  have HR := hRES.out
  unfold appendLF at HR
  have hal := alive_l B c i col w p q s l h hc hci
  have haz := @aliveF_zero s l
  generalize aliveF s l = A at *
  obtain ⟨la, ea⟩ := A
  simp only [] at HR hal haz
  have HRR := Lib.hid HR
  have HAZ := Lib.hid haz
  have hbl := hb.1.len
  have HBL := Lib.hid hbl
  have HB0 := Lib.hid (hb.mono (Q := fun j => col j = 0 ∧ j < w.heap.size) (fun j hj a => ⟨a, hj⟩))
  have hHB : Hid (∀ (c' : Nat → Nat) (W : World), Ext B (SL i c) col w c' W → BS W fo n cap d) := Lib.hid (fun c' W X => (HB0.out.kp X.kp (fun j _ a e => by rw [a.1] at e; unfold SL S3 at e; omega)).1)
  clear HR hRES haz h hbl hb
  go_enter Tryz.func86, Tryz.ntmps86
  go_wp2_with fail
  refine hal.mono ?_
  clear hal
  rintro e w1 hto
  obtain ⟨c1, rfl, x1, h1⟩ := hto.ex
  have HX1 := Lib.hid x1
  clear x1 hto
  by_cases h0 : ea = 0
  case neg =>
    have HR := HRR.out
    rw [if_pos h0] at HR
    subst HR
    have n0 : ((ea : Int) != 0) = true := by simpa using h0
    clear h0
    go_wp2_with fail
    go_ret2
    exact ⟨⟨c1, rfl, HX1.out, h1⟩⟩
  subst h0
  have HR := HRR.out
  rw [if_neg (by simp)] at HR
  have hla := HAZ.out rfl
  rw [hla] at h1
  rw [Int.natCast_zero]
  by_cases hbig : 8192 < n
  · rw [if_pos (by have := HBL.out; omega)] at HR
    subst HR
    clear HBL
    go_wp2_with fail
    go_ret2
    exact ⟨⟨c1, rfl, HX1.out, h1⟩⟩
  rw [if_neg (by have := HBL.out; omega)] at HR
  have hB1 : B ≤ w1.heap.size := by have h := HX1.out.size; omega
  have h1c := h1
  obtain ⟨hdk, po, pc, hL⟩ := h1c
  obtain ⟨g, off, k, rfl, hk, hFg, hg1, hg2⟩ := hL.last hok.pieces
  have hbx := hL.box
  unfold logC at hbx
  obtain ⟨hnum, hfst⟩ := hok.lastNum
  obtain ⟨np, hnp⟩ : ∃ np, Hid (l.pieces.length = np) := ⟨_, Lib.hid rfl⟩
  rw [hnp.out] at hbx hk hpl
  obtain ⟨num, hnm⟩ : ∃ x, Hid ((lastP l).1 = x) := ⟨_, Lib.hid rfl⟩
  obtain ⟨fst, hft⟩ : ∃ x, Hid ((lastP l).2 = x) := ⟨_, Lib.hid rfl⟩
  rw [hnm.out] at hg1 hnum HR
  rw [hft.out] at hg2 hfst HR
  have hwi : IntKind.i64.wrap ((np : Int) - 1) = (k : Int) := by rw [IntWalk.i64_in _ (by omega)]; omega
  have hki : (k : Int) < (np : Int) := by omega
  have k0 : Kp Noone w1 w1.drew := (Kp.refl _ _).drew
  have hcs : ∀ (W : World), Kp Noone w1 W → (W.cell? ⟨q, 2, none⟩ = some (.slice (some ⟨g, off, none⟩) np pc) ∧ W.cell? ⟨g, off + k * 2, none⟩ = some (.int .i64 (num : Int)) ∧ W.cell? ⟨g, off + k * 2 + 1, none⟩ = some (.int .i64 (fst : Int))) := fun W kk => ⟨(cells_6f (kk.heap hbx id)).1.2.2.1, kk.cell hg1 id, kk.cell hg2 id⟩
  have HRB := Lib.hid HR
  have kz := fun (o : Obj) => ((Kp.refl Noone w1).drew).alloc o
  have kz2 := fun (o : Obj) (a b : Value) => ((((Kp.refl Noone w1).drew).alloc o).setCell (p := ⟨w1.heap.size, 0, none⟩) (fun h => absurd h (Nat.lt_irrefl _)) a).setCell (p := ⟨w1.heap.size, 1, none⟩) (fun h => absurd h (Nat.lt_irrefl _)) b
  have hbi : ¬ (8192 : Int) < (n : Int) := by omega
  clear HR HRR hL hbx hg1 hg2 hFg hbig hk
  go_upto_region 6 with fail
  apply wp_region_zero (G := fun wz => wz.heap[w1.heap.size]? = some (.cells #[.int .i64 (num : Int), .int .i64 (fst : Int)] 132 (0, 0)) ∧ Kp Noone w1 wz)
  case h =>
    go_region_held3 (fun w' => w'.cell? ⟨q, 2, none⟩ = some (.slice (some ⟨g, off, none⟩) np pc) ∧ w'.cell? ⟨g, off + k * 2, none⟩ = some (.int .i64 (num : Int)) ∧ w'.cell? ⟨g, off + k * 2 + 1, none⟩ = some (.int .i64 (fst : Int)))
      (first | exact hcs _ k0 | exact hcs _ (kz _) | exact hcs _ (kz2 _ _ _))
      (fail)
    all_goals (
      refine NoPanic.normal ⟨rfl, rfl, ?_⟩
      exact ⟨heap_alloc_new w1 _, ((Kp.refl _ _).alloc _).drew⟩)
  case k =>
    intro wz hG
    obtain ⟨hgp, kzz⟩ := hG
    have h2 := h1.keep kzz
    have HX2 := Lib.hid (HX1.out.trans (Ext.quiet HX1.out.cols kzz))
    have hgc : c1 w1.heap.size = 0 := cols_new HX1.out.cols (Nat.le_refl _)
    have hB2 : B ≤ wz.heap.size := Nat.le_trans hB1 kzz.size
    clear hcs kz kz2 k0 kzz h1 hwi hki
    generalize w1.heap.size = gp at *
    obtain ⟨u0, u1, -, -⟩ := cells_two hgp
    obtain ⟨y0, y3⟩ := h2.cells
    obtain ⟨y1, y4⟩ := h2.cell4
    by_cases hroll : l.limit ≤ l.size ∧ fst < l.next
    case' neg =>
      have HR := HRB.out
      rw [if_neg hroll] at HR
      have HRT := Lib.hid HR
      have hcs : (decide (l.limit ≤ l.size) = false) ∨ (decide (l.limit ≤ l.size) = true ∧ decide (fst < l.next) = false) := by
        by_cases h : l.limit ≤ l.size
        · refine Or.inr ⟨by simpa using h, ?_⟩
          have : ¬ fst < l.next := fun a => hroll ⟨h, a⟩
          simpa using this
        · exact Or.inl (by simpa using h)
      have HOK := Lib.hid hok
      clear HR HRB hroll
      rcases hcs with hd1 | ⟨hd1, hd2⟩
      case' inl =>
        go_upto_region 7 with fail
        go_quiet (fail)
        go_upto_region 16 with fail
        have HXT := Lib.hid (HX2.out.trans (Ext.quiet HX2.out.cols ((Kp.refl Noone wz).drewN nq)))
        have HLT := Lib.hid (h2.keep ((Kp.refl Noone wz).drewN nq))
        obtain ⟨lt, hlt⟩ : ∃ x, x = l := ⟨_, rfl⟩
        obtain ⟨st, hst9⟩ : ∃ x, x = s := ⟨_, rfl⟩
        obtain ⟨ct, hct⟩ : ∃ x, x = c1 := ⟨_, rfl⟩
        have HRT : Hid (appTail st lt d = RES) := Lib.hid (by rw [hlt, hst9]; exact HRT.out)
        have HOK : Hid (LOk lt) := Lib.hid (by rw [hlt]; exact HOK.out)
        have HST : Hid (st.steps < 4611686018427387900 ∧ lt.next < 4611686018427387900 ∧ lt.size < 4611686018427387000) := Lib.hid (by rw [hlt, hst9]; exact ⟨by omega, by omega, by omega⟩)
        rw [← hlt, ← hst9, ← hct] at HLT
        rw [← hct] at HXT
        clear h2 HX2 u0 u1 y0 y1 y3 y4 hgp hlt hst9 hct
        generalize wz.drewN nq = wt at *
      case' inr =>
        go_upto_region 7 with fail
        go_quiet (fail)
        go_upto_region 16 with fail
        have HXT := Lib.hid (HX2.out.trans (Ext.quiet HX2.out.cols ((Kp.refl Noone wz).drewN nq)))
        have HLT := Lib.hid (h2.keep ((Kp.refl Noone wz).drewN nq))
        obtain ⟨lt, hlt⟩ : ∃ x, x = l := ⟨_, rfl⟩
        obtain ⟨st, hst9⟩ : ∃ x, x = s := ⟨_, rfl⟩
        obtain ⟨ct, hct⟩ : ∃ x, x = c1 := ⟨_, rfl⟩
        have HRT : Hid (appTail st lt d = RES) := Lib.hid (by rw [hlt, hst9]; exact HRT.out)
        have HOK : Hid (LOk lt) := Lib.hid (by rw [hlt]; exact HOK.out)
        have HST : Hid (st.steps < 4611686018427387900 ∧ lt.next < 4611686018427387900 ∧ lt.size < 4611686018427387000) := Lib.hid (by rw [hlt, hst9]; exact ⟨by omega, by omega, by omega⟩)
        rw [← hlt, ← hst9, ← hct] at HLT
        rw [← hct] at HXT
        clear h2 HX2 u0 u1 y0 y1 y3 y4 hgp hlt hst9 hct
        generalize wz.drewN nq = wt at *
    case' pos =>
      have HR := HRB.out
      rw [if_pos hroll] at HR
      have hd1 : decide (l.limit ≤ l.size) = true := by simpa using hroll.1
      have hd2 : decide (fst < l.next) = true := by simpa using hroll.2
      clear HRB hroll
      go_upto_region 7 with fail
      go_quiet (fail)
      go_upto_region 8 with fail
      have kq := (Kp.refl Noone wz).drewN nq
      have h3 := h2.keep kq
      have HX3 := Lib.hid (HX2.out.trans (Ext.quiet HX2.out.cols kq))
      have hgp3 := kq.heap hgp id
      have hB3 := Nat.le_trans hB2 kq.size
      clear h2 HX2 u0 u1 y0 y1 y3 y4 hgp kq hB2 hd1 hd2
      generalize wz.drewN nq = w3 at *
      obtain ⟨u0, u1, -, -⟩ := cells_two hgp3
      by_cases h99 : 999999 ≤ num
      · rw [if_pos h99] at HR
        subst HR
        have hni : (999999 : Int) ≤ (num : Int) := by omega
        clear h99
        go_wp2_with fail
        go_ret2
        exact ⟨⟨c1, rfl, HX3.out, h3⟩⟩
      rw [if_neg h99] at HR
      have hni : ¬ (999999 : Int) ≤ (num : Int) := by omega
      have HNUM : Hid (num < 999999 ∧ l.next < 4611686018427387000 ∧ np ≤ 1000000) := Lib.hid ⟨by omega, hnx, hpl⟩
      clear h99 hnum hfst hnx hpl hsz
      go_upto_region 10 with fail
      clear hni
      have hns := walName_size (lastP l).1
      have hlst := last_l c i c1 w3.drew p q s l (h3.keep (Kp.refl _ _).drew) hok
      have hnum2 : (lastP l).1 = num := hnm.out
      rw [hnum2] at hlst hns
      generalize walName num = nm at HR hlst hns
      have k0 : Kp Noone w3 w3.drew := (Kp.refl _ _).drew
      have hsy := fun W (k : Kp Noone w3 W) => sync_lg B c i c1 W p q s l nm (h3.keep k) (HX3.out.cols.keep k.size) (Nat.le_trans hB3 k.size) hci (by omega) (by omega)
      have s2 := syncF_steps s nm
      generalize syncF s nm = r2 at *
      obtain ⟨s2', e2⟩ := r2
      unfold rollF at HR
      simp only [] at HR hsy s2
      have hmt := fun (c2 : Nat → Nat) W (hc2 : Cols B W c2) (H : Lg c i c2 W p q s2' l) => met_l B c i c2 W p q s2' l e2 H hc2 hci
      have s0 := (h3.keep k0).cells.1
      have hcs : ∀ (W : World), Kp Noone w3 W → W.cell? ⟨q, 0, none⟩ = some (.pointer (some ⟨p, 0, none⟩)) := fun W k => (h3.keep k).cells.1
      have HRC := Lib.hid HR
      clear HR u0 u1
      go_upto_region 10 with fail
      go_region_held3 (fun w' => w'.cell? ⟨q, 0, none⟩ = some (.pointer (some ⟨p, 0, none⟩)))
        (first | exact s0 | exact hcs _ ka | exact h4.cells.1 | exact h5.cells.1)
        (first
          | (go_at_call 56; refine hlst.mono ?_; rintro e wa ⟨rfl, ka1⟩; have ka := k0.trans ka1)
          | (go_at_call 58; refine (hsy _ ka).mono ?_; rintro e wb htb; obtain ⟨c2, rfl, x2, h4⟩ := htb.ex)
          | (go_at_call 97; refine (hmt c2 wb x2.cols h4).mono ?_; rintro e w5 htd; obtain ⟨c3, rfl, x3, h5⟩ := htd.ex))
      have X5 := (Ext.quiet (S := SL i c) HX3.out.cols ka).trans (x2.trans x3)
      have HX5 := Lib.hid (HX3.out.trans X5)
      have hgp5 := X5.kp.heap hgp3 (by rw [hgc]; unfold SL S3; omega)
      have hgc5 : c3 gp = 0 := (X5.old gp (Array.getElem?_eq_some_iff.1 hgp3).1).trans hgc
      have hB5 : B ≤ w5.heap.size := Nat.le_trans hB3 X5.size
      clear hcs s0 hlst hsy hmt ka1 ka htb x2 h4 htd x3 h3 k0 X5 hgp3 HX3 hgc
      by_cases he2 : e2 = 0
      case neg =>
        have HR := HRC.out
        rw [if_pos he2] at HR
        subst HR
        have n2 : ((e2 : Int) != 0) = true := by simpa using he2
        clear he2
        go_wp2_with fail
        go_ret2
        exact ⟨⟨c3, rfl, HX5.out, h5⟩⟩
      subst he2
      have HR := HRC.out
      rw [if_neg (by simp)] at HR
      rw [Int.natCast_zero]
      have hm0 : metF l 0 = l := rfl
      rw [hm0] at h5
      obtain ⟨num1, hn1⟩ : ∃ x, Hid (num + 1 = x) := ⟨_, Lib.hid rfl⟩
      have hwn : IntKind.i64.wrap ((num : Int) + 1) = (num1 : Int) := by rw [← hn1.out]; exact IntWalk.i64_in _ (by have := HNUM.out.1; omega)
      have hn1b : num1 ≤ 999999 := by have := hn1.out; have := HNUM.out.1; omega
      have hnl : num + 1 = num1 := hn1.out
      rw [hnum2, hnl] at HR
      have hbz := beginF_zero s2' l num1 l.next
      have hbn := beginF_next s2' l num1
      have hbs := beginF_steps s2' l num1 l.next
      have hbok := beginOk_ok hok hn1b (show l.next ≤ 4611686018427387904 by have := HNUM.out.2.1; omega) (by rw [hnp.out]; exact HNUM.out.2.2)
      have hbg := fun W (k : Kp Noone w5 W) => begin_l B c i c3 W p q s2' l num1 l.next (h5.keep k) (HX5.out.cols.keep k.size) (Nat.le_trans hB5 k.size) hci (by omega) hn1b (by have := HNUM.out.2.1; omega) (by rw [hnp.out]; have := HNUM.out.2.2; omega)
      generalize hbgn : beginF s2' l num1 l.next = rb at *
      obtain ⟨sb, lb, eb⟩ := rb
      unfold roll2 at HR
      simp only [] at HR hbz hbn hbs hbg
      have HRD := Lib.hid HR
      have HBZ := Lib.hid hbz
      have HBOK := Lib.hid hbok
      have HN1B := Lib.hid hn1b
      have k0 : Kp Noone w5 w5.drew := (Kp.refl _ _).drew
      have hcs : ∀ (W : World), Kp Noone w5 W → (W.cell? ⟨gp, 0, none⟩ = some (.int .i64 (num : Int)) ∧ W.cell? ⟨q, 3, none⟩ = some (.int .i64 (l.next : Int))) := fun W k => ⟨(cells_two (k.heap hgp5 id)).1, (h5.keep k).cells.2⟩
      have hcb : ∀ (c6 : Nat → Nat) (W6 : World) (W : World), Kp Noone w5 W → Ext B (SL i c) c3 W c6 W6 → Lg c i c6 W6 p q sb lb → (W6.cell? ⟨gp, 0, none⟩ = some (.int .i64 (num : Int)) ∧ W6.cell? ⟨q, 3, none⟩ = some (.int .i64 (l.next : Int))) := fun c6 W6 W k x hh => ⟨(cells_two (x.kp.heap (k.heap hgp5 id) (by rw [hgc5]; unfold SL S3; omega))).1, by rw [← hbn]; exact hh.cells.2⟩
      clear HR HRC hbz hbok hnl hm0 hbgn hn1b
      go_upto_region 13 with fail
      go_region_held3 (fun w' => w'.cell? ⟨gp, 0, none⟩ = some (.int .i64 (num : Int)) ∧ w'.cell? ⟨q, 3, none⟩ = some (.int .i64 (l.next : Int)))
        (first | exact hcs _ k0 | exact hcb _ _ _ k0 x6 h6)
        (first
          | (go_at_call 55; refine (hbg _ k0).mono ?_; rintro e w6 hte; obtain ⟨c6, rfl, x6, h6⟩ := hte.ex))
      have HX6 := Lib.hid ((HX5.out.trans (Ext.quiet HX5.out.cols k0)).trans x6)
      clear hcs hcb hbg k0 x6 hte h5 hgp5 HX5 hgc5
      by_cases hebz : eb = 0
      case neg =>
        have HR := HRD.out
        rw [if_pos hebz] at HR
        subst HR
        have n2 : ((eb : Int) != 0) = true := by simpa using hebz
        clear hebz
        go_wp2_with fail
        go_ret2
        exact ⟨⟨c6, rfl, HX6.out, h6⟩⟩
      subst hebz
      have HR := HRD.out
      rw [if_neg (by simp)] at HR
      rw [Int.natCast_zero]
      have hlb : lb = beginOk l num1 l.next := HBZ.out rfl
      have hsl : lb.size ≤ 35 := by rw [hlb]; exact headerL_len num1 l.next
      have HXT := HX6
      have HLT := Lib.hid h6
      have HRT := Lib.hid HR
      have HOK : Hid (LOk lb) := Lib.hid (by rw [hlb]; exact HBOK.out)
      have HST : Hid (sb.steps < 4611686018427387900 ∧ lb.next < 4611686018427387900 ∧ lb.size < 4611686018427387000) := Lib.hid ⟨by omega, by have := HNUM.out.2.1; omega, by omega⟩
      obtain ⟨lt, hlt⟩ : ∃ x, x = lb := ⟨_, rfl⟩
      obtain ⟨st, hst9⟩ : ∃ x, x = sb := ⟨_, rfl⟩
      obtain ⟨ct, hct⟩ : ∃ x, x = c6 := ⟨_, rfl⟩
      obtain ⟨wt, hwt⟩ : ∃ x, x = w6 := ⟨_, rfl⟩
      clear HR HRD h6 hlb hsl hbn hbs
      go_upto_region 16 with fail
      subst hlt hst9 hct hwt
    all_goals (
      have hbs := hHB.out ct wt HXT.out
      have hfw := frame_w fo n cap d wt hbs (by omega)
      clear hbs
      go_wp2_with fail
      refine hfw.mono ?_
      clear hfw
      rintro e w10 hto
      obtain ⟨bo, bc, rfl, hob, k10⟩ := hto.ex
      have h10 := HLT.out.keep k10
      have HX10 := Lib.hid (HXT.out.trans (Ext.quiet HXT.out.cols k10))
      have hB10 : B ≤ w10.heap.size := by have h := HX10.out.size; omega
      have hbb := hob.bs
      have HR := HRT.out
      unfold appTail at HR
      have hfl := frameL_le d
      have hdl : d.length = n := HBL.out
      have hflb : (frameL d).length ≤ 9000 := by omega
      clear hto k10 hob HXT hfl hdl
      have k0 : Kp Noone w10 w10.drew := (Kp.refl _ _).drew
      have hlst := last_l c i ct w10.drew p q st lt (h10.keep k0) HOK.out
      have hns := walName_size (lastP lt).1
      generalize walName (lastP lt).1 = nm at *
      have hst10 := HST.out.1
      have hap := fun W (k : Kp Noone w10 W) => append_lg B c i ct W p q st lt nm bo (frameL d).length bc (frameL d) (h10.keep k) (HX10.out.cols.keep k.size) (Nat.le_trans hB10 k.size) hci (hbb.keep k) (by omega) (by omega)
      generalize appendF st nm (frameL d) = r3 at *
      obtain ⟨s3, e3⟩ := r3
      simp only [] at HR hap
      have hmt := fun (c2 : Nat → Nat) W (hc2 : Cols B W c2) (H : Lg c i c2 W p q s3 lt) => met_l B c i c2 W p q s3 lt e3 H hc2 hci
      have s0 := (h10.keep k0).cells.1
      have hcs : ∀ (W : World), Kp Noone w10 W → W.cell? ⟨q, 0, none⟩ = some (.pointer (some ⟨p, 0, none⟩)) := fun W k => (h10.keep k).cells.1
      have HRE := Lib.hid HR
      generalize (frameL d).length = fl at *
      clear HR HRT hbb hns
      go_upto_region 17 with fail
      go_region_held3 (fun w' => w'.cell? ⟨q, 0, none⟩ = some (.pointer (some ⟨p, 0, none⟩)))
        (first | exact s0 | exact hcs _ ka | exact h11.cells.1 | exact h12.cells.1)
        (first
          | (go_at_call 56; refine hlst.mono ?_; rintro e wa ⟨rfl, ka1⟩; have ka := k0.trans ka1)
          | (go_at_call 109; refine (hap _ ka).mono ?_; rintro e wb htb; obtain ⟨c2, rfl, x2, h11⟩ := htb.ex)
          | (go_at_call 97; refine (hmt c2 wb x2.cols h11).mono ?_; rintro e w12 htd; obtain ⟨c3, rfl, x3, h12⟩ := htd.ex))
      have HX12 := Lib.hid (((HX10.out.trans (Ext.quiet HX10.out.cols ka)).trans x2).trans x3)
      clear hcs s0 hlst hap hmt ka1 ka htb x2 h11 htd x3 h10 k0 HX10
      by_cases he3 : e3 = 0
      case neg =>
        have HR := HRE.out
        rw [if_pos he3] at HR
        subst HR
        have n2 : ((e3 : Int) != 0) = true := by simpa using he3
        clear he3
        go_wp2_with fail
        go_ret2
        exact ⟨⟨c3, rfl, HX12.out, h12⟩⟩
      subst he3
      have HR := HRE.out
      rw [if_neg (by simp)] at HR
      subst HR
      rw [Int.natCast_zero]
      have hm0 : metF lt 0 = lt := rfl
      rw [hm0] at h12
      obtain ⟨hdk, po5, pc5, hL⟩ := h12
      have hbx := hL.box
      unfold logC at hbx
      obtain ⟨⟨v0, v1, v2, v3, v4, v5⟩, vf⟩ := cells_6f hbx
      have vf3 := vf 3
      have vf4 := vf 4
      have hw1 : IntKind.i64.wrap ((lt.size : Int) + (fl : Int)) = (lt.size : Int) + (fl : Int) := IntWalk.i64_in _ (by have := HST.out.2.2; omega)
      have hw2 : IntKind.i64.wrap ((lt.next : Int) + 1) = (lt.next : Int) + 1 := IntWalk.i64_in _ (by have := HST.out.2.1; omega)
      have hw3 : IntKind.i64.wrap (lt.next : Int) = (lt.next : Int) := IntWalk.i64_in _ (by have := HST.out.2.1; omega)
      have hset := Lg.set (l' := { lt with size := lt.size + fl, next := lt.next + 1 }) hdk hL HX12.out.cols hci (((Kp.refl (fun j => j = q) w12).setCell (p := ⟨q, 4, none⟩) (fun _ => rfl) (.int .i64 ((lt.size : Int) + (fl : Int)))).setCell (p := ⟨q, 3, none⟩) (fun _ => rfl) (.int .i64 ((lt.next : Int) + 1))) ((heap_set_cell (heap_set_cell hbx)).trans (by unfold logC; simp)) rfl
      have HSET := Lib.hid hset
      clear hset hdk hL hbx vf hm0
      go_wp2_with fail
      go_ret2
      exact ⟨⟨c3, rfl, HX12.out.trans HSET.out.1, HSET.out.2⟩⟩)

end Go.Proofs.YtgbgbokcohfnpaaGreat

/-
  wal: THE WALK of Trim.
-/
namespace Go.Proofs.YtgbgbokcohfnpaaGreat
open Go.RowKit

def trimLoop (idx : Int) : List (Nat × Nat) → DS → LogP → DS × LogP × Nat
  | [], s, l => (s, l, 0)
  | [_], s, l => (s, l, 0)
  | a :: b :: r, s, l => if (b.2 : Int) ≤ idx then (if (dropF s (walName a.1)).2 ≠ 0 then ((dropF s (walName a.1)).1, metF l (dropF s (walName a.1)).2, (dropF s (walName a.1)).2) else trimLoop idx (b :: r) (dropF s (walName a.1)).1 { l with pieces := b :: r }) else (s, l, 0)
def trimLF (s : DS) (l : LogP) (idx : Int) : DS × LogP × Nat := if (aliveF s l).2 ≠ 0 then (s, (aliveF s l).1, (aliveF s l).2) else trimLoop idx l.pieces s l
theorem trimLoop_cons (idx : Int) (a b : Nat × Nat) (r : List (Nat × Nat)) (s : DS) (l : LogP) : trimLoop idx (a :: b :: r) s l = if (b.2 : Int) ≤ idx then (if (dropF s (walName a.1)).2 ≠ 0 then ((dropF s (walName a.1)).1, metF l (dropF s (walName a.1)).2, (dropF s (walName a.1)).2) else trimLoop idx (b :: r) (dropF s (walName a.1)).1 { l with pieces := b :: r }) else (s, l, 0) := rfl
theorem trimLoop_one (idx : Int) (a : Nat × Nat) (s : DS) (l : LogP) : trimLoop idx [a] s l = (s, l, 0) := rfl
/-- A slice without its first element. -/
theorem Own.tail {F : Nat → Prop} {w : World} {e sz g off n cap : Nat} {xs : List Value} (h : Own F w e sz (some ⟨g, off, none⟩) n cap xs) (hn : 1 ≤ n) : Own F w e sz (some ⟨g, off + sz, none⟩) (n - 1) (cap - 1) (xs.drop sz) := by
  obtain ⟨h1, h2, h3, h4⟩ := h
  have hm : n * sz = (n - 1) * sz + sz := by
    obtain ⟨k, rfl⟩ : ∃ k, n = k + 1 := ⟨n - 1, by omega⟩
    rw [Nat.add_mul, Nat.one_mul]
    rfl
  have hm2 : cap * sz = (cap - 1) * sz + sz := by
    obtain ⟨k, rfl⟩ : ∃ k, cap = k + 1 := ⟨cap - 1, by omega⟩
    rw [Nat.add_mul, Nat.one_mul]
    rfl
  refine ⟨by rw [List.length_drop, h1, hm]; omega, by omega, by omega, ?_⟩
  rcases h4 with h4 | ⟨g', off', cur, h0, hg, hh, hb, hr⟩
  · omega
  · cases h0
    refine Or.inr ⟨g, off + sz, cur, rfl, hg, hh, by omega, fun i hi => ?_⟩
    have hi2 : sz + i < xs.length := by rw [List.length_drop] at hi; omega
    have h5 := hr (sz + i) hi2
    rw [Nat.add_assoc, h5, List.getElem_drop]
theorem piecesV_tail (a : Nat × Nat) (r : List (Nat × Nat)) : (piecesV (a :: r)).drop 2 = piecesV r := by simp [piecesV]

set_option maxHeartbeats 1000000 in
theorem met_p (B c i : Nat) (col : Nat → Nat) (w : World) (p q : Nat) (s : DS) (l : LogP) (po : Option Addr) (pc : Nat) (e : Nat) (hd : Dk col i w p s) (hl : LAt c col w p q l po pc) (hc : Cols B w col) (hci : c ≠ 0 ∧ (c + 1 ≤ i ∨ i + 3 < c)) :
    Calls Tryz.prog 97 #[.pointer (some ⟨q, 0, none⟩), .int .i64 (e : Int)] w fun e' w' => e' = .returned (.int .i64 (e : Int)) ∧ Ext B (SL i c) col w col w' ∧ Dk col i w' p s ∧ LAt c col w' p q (metF l e) po pc := by
  have hb := hl.box
  unfold logC at hb
  obtain ⟨⟨y0, y1, y2, y3, y4, y5⟩, yf⟩ := cells_6f hb
  have yf5 := yf 5
  by_cases h2 : e = 2
  · have hm : metF l e = { l with shut := true } := by unfold metF; rw [if_pos h2]
    have hs := Lg.set (l' := { l with shut := true }) hd hl hc hci ((Kp.refl (fun j => j = q) w).setCell (p := ⟨q, 5, none⟩) (fun _ => rfl) (.bool true)) ((heap_set_cell hl.box).trans (by unfold logC; simp)) rfl
    have hs2 := hl.set (l' := { l with shut := true }) ((Kp.refl (fun j => j = q) w).setCell (p := ⟨q, 5, none⟩) (fun _ => rfl) (.bool true)) ((heap_set_cell hl.box).trans (by unfold logC; simp)) rfl
    rw [hm]
    have HS := Lib.hid (And.intro hs.1 (And.intro hs.2.dk hs2))
    subst h2
    clear hs hs2 hd hl hb hm
    go_enter Tryz.func97, Tryz.ntmps97
    go_wp2_with fail
    go_ret
    exact ⟨rfl, HS.out.1, HS.out.2.1, HS.out.2.2⟩
  · have hm : metF l e = l := by unfold metF; rw [if_neg h2]
    rw [hm]
    have he : ((e : Int) == 2) = false := by simp; omega
    have HS := Lib.hid (And.intro hd hl)
    clear hd hl hb hm h2
    go_enter Tryz.func97, Tryz.ntmps97
    go_wp2_with fail
    go_ret
    exact ⟨rfl, Ext.quiet hc (Kp.refl _ _), HS.out.1, HS.out.2⟩
theorem metF_pieces (l : LogP) (e : Nat) : (metF l e).pieces = l.pieces := by
  unfold metF
  split <;> rfl
/-- Between two pieces. -/
structure TrR (B c i : Nat) (c1 : Nat → Nat) (w1 : World) (p q : Nat) (idx : Int) (s0 : DS) (RES : DS × LogP × Nat) (wr : World) : Prop where
  ex : ∃ (col : Nat → Nat) (s : DS) (l : LogP), Ext B (SL i c) c1 w1 col wr ∧ Lg c i col wr p q s l ∧ LOk l ∧ s.steps + l.pieces.length ≤ s0.steps + 1048576 ∧ trimLoop idx l.pieces s l = RES
def lenAt (q : Nat) (w : World) : Nat := match w.cell? ⟨q, 2, none⟩ with
  | some (.slice _ n _) => n
  | _ => 0

theorem LAt.three {c : Nat} {col : Nat → Nat} {w : World} {p q : Nat} {l : LogP} {g off pc : Nat} {a : Nat × Nat} {r : List (Nat × Nat)} {np : Nat} (h : LAt c col w p q l (some ⟨g, off, none⟩) pc) (e : l.pieces = a :: r) (en : r.length + 1 = np) : w.cell? ⟨q, 0, none⟩ = some (.pointer (some ⟨p, 0, none⟩)) ∧ w.cell? ⟨q, 2, none⟩ = some (.slice (some ⟨g, off, none⟩) np pc) ∧ w.cell? ⟨g, off, none⟩ = some (.int .i64 (a.1 : Int)) := by
  have hb := h.box
  unfold logC at hb
  obtain ⟨y0, y1, y2, y3, y4, y5⟩ := (cells_6f hb).1
  obtain ⟨g', off', hpo, hc, -⟩ := h.first (j := 0) (by rw [e]; simp)
  cases hpo
  rw [Nat.zero_mul, Nat.add_zero] at hc
  simp only [e, List.getElem_cons_zero] at hc
  have hl : l.pieces.length = np := by rw [e, ← en]; rfl
  rw [hl] at y2
  exact ⟨y0, y2, hc⟩
attribute [local irreducible] dropF walName
set_option maxHeartbeats 4000000 in
set_option maxRecDepth 100000 in
theorem trim_l (B c i : Nat) (col : Nat → Nat) (w : World) (p q : Nat) (s : DS) (l : LogP) (idx : Int) (h : Lg c i col w p q s l) (hok : LOk l) (hc : Cols B w col) (hBw : B ≤ w.heap.size) (hci : c ≠ 0 ∧ (c + 1 ≤ i ∨ i + 3 < c)) (hst : s.steps < 4611686018420000000) :
    Calls Tryz.prog 48 #[.pointer (some ⟨q, 0, none⟩), .int .i64 idx] w fun e w' => LgTo B c i col w p q (trimLF s l idx).1 (trimLF s l idx).2.1 (.int .i64 ((trimLF s l idx).2.2 : Int)) e w' := by
  obtain ⟨RES, hRES⟩ : ∃ x, Hid (trimLF s l idx = x) := ⟨_, Lib.hid rfl⟩
  rw [hRES.out]
  have HR := hRES.out
  unfold trimLF at HR
  have hal := alive_l B c i col w p q s l h hc hci
  have haz := @aliveF_zero s l
  generalize aliveF s l = A at *
  obtain ⟨la, ea⟩ := A
  simp only [] at HR hal haz
  have HRR := Lib.hid HR
  have HAZ := Lib.hid haz
  clear HR hRES haz h
  go_enter Tryz.func48, Tryz.ntmps48
  go_wp2_with fail
  refine hal.mono ?_
  clear hal
  rintro e w1 hto
  obtain ⟨c1, rfl, x1, h1⟩ := hto.ex
  have HX1 := Lib.hid x1
  clear x1 hto
  by_cases h0 : ea = 0
  case neg =>
    have HR := HRR.out
    rw [if_pos h0] at HR
    subst HR
    have n0 : ((ea : Int) != 0) = true := by simpa using h0
    clear h0
    go_wp2_with fail
    go_ret
    exact ⟨⟨c1, rfl, HX1.out, h1⟩⟩
  subst h0
  have HR := HRR.out
  rw [if_neg (by simp)] at HR
  have hla := HAZ.out rfl
  rw [hla] at h1
  rw [Int.natCast_zero]
  have hB1 : B ≤ w1.heap.size := by have h := HX1.out.size; omega
  have R0 : Hid (TrR B c i c1 w1 p q idx s RES w1) := Lib.hid ⟨⟨c1, s, l, Ext.quiet HX1.out.cols (Kp.refl _ _), h1, hok, by have := hok.len; omega, HR⟩⟩
  clear HR HRR h1 hla hok
  go_wp2_with fail
  go_loopw [6] (fun _ wr => TrR B c i c1 w1 p q idx s RES wr) (fun _ wr => lenAt q wr)
  case atStart => exact R0.out
  case round =>
    clear R0
    obtain ⟨c2, s2, l2, X2, h2, ok2, hst2, hfold⟩ := hrel.ex
    obtain ⟨lim2, ps2, nx2, sz2, sh2⟩ := l2
    have hB2 : B ≤ wr.heap.size := by have h := X2.size; omega
    obtain ⟨hd2, po, pc, hl2⟩ := h2
    have hb2 := hl2.box
    unfold logC at hb2
    have hca := (cells_6f hb2).1
    obtain ⟨y0, y1, y2, y3, y4, y5⟩ := hca
    obtain ⟨a, r1, hps⟩ : ∃ a r1, ps2 = a :: r1 := by
      have h := ok2.pieces
      cases ps2 with
      | nil => exact absurd rfl h
      | cons a r1 => exact ⟨a, r1, rfl⟩
    simp only [] at hps y0 y1 y2 y3 y4 y5 hfold hst2
    subst hps
    have hfin : ∀ W, Kp Noone wr W → trimLoop idx (a :: r1) s2 ⟨lim2, a :: r1, nx2, sz2, sh2⟩ = (s2, ⟨lim2, a :: r1, nx2, sz2, sh2⟩, 0) → LgTo B c i col w p q RES.1 RES.2.1 (.int .i64 (RES.2.2 : Int)) (.returned (.int .i64 0)) W := fun W k e => by
      rw [hfold] at e
      rw [e]
      exact ⟨c2, rfl, HX1.out.trans (X2.trans (Ext.quiet X2.cols k)), Lg.keep ⟨hd2, po, pc, hl2⟩ k⟩
    have HFIN := Lib.hid hfin
    clear hfin
    cases r1 with
    | nil =>
      have hg : ¬ (1 : Int) < ((1 : Nat) : Int) := by omega
      have y2' : wr.cell? ⟨q, 2, none⟩ = some (.slice po 1 pc) := y2
      have HQ := Lib.hid (HFIN.out wr (Kp.refl _ _) (trimLoop_one idx a s2 _))
      clear HFIN hfold hd2 hl2 hb2 y2
      go_wp2_with fail
      go_ret
      exact HQ.out
    | cons b r =>
      have hlen := ok2.len
      have hbn : a.1 ≤ 999999 := ok2.nums a (List.mem_cons_self ..)
      obtain ⟨g, off, hpo, hg1, -⟩ := hl2.first (j := 0) (by simp)
      obtain ⟨g', off', hpo', -, hg2⟩ := hl2.first (j := 1) (by simp)
      rw [hpo] at hpo'
      cases hpo'
      have hgF : True := trivial
      subst hpo
      rw [Nat.zero_mul, Nat.add_zero] at hg1
      have y2' : wr.cell? ⟨q, 2, none⟩ = some (.slice (some ⟨g, off, none⟩) (r.length + 2) pc) := y2
      have hl2' : wr.cell? ⟨g, off, none⟩ = some (.int .i64 (a.1 : Int)) := hg1
      have hg2' : wr.cell? ⟨g, off + 1 * 2 + 1, none⟩ = some (.int .i64 (b.2 : Int)) := hg2
      have hlenr : r.length + 2 ≤ 1048576 := by simpa using hlen
      have hlA : lenAt q wr = r.length + 2 := by unfold lenAt; rw [y2']
      clear hg1 hg2 y2 hlen
      obtain ⟨np, hnp⟩ : ∃ x, Hid (r.length + 2 = x) := ⟨_, Lib.hid rfl⟩
      rw [hnp.out] at y2' hlenr hlA
      have hg : (1 : Int) < (np : Int) := by have := hnp.out; omega
      have hg0 : (0 : Int) < (np : Int) := by omega
      have hg0n : 0 < np := by omega
      have hF := Lib.hid hfold
      have HL := Lib.hid hl2
      have HD := Lib.hid hd2
      have HA := Lib.hid hlA
      have HST := Lib.hid hst2
      have HBX := Lib.hid hb2
      have HOK := Lib.hid ok2
      clear hfold hl2 hd2 hlA hst2 hb2 ok2 hrel
      by_cases hidx : (b.2 : Int) ≤ idx
      case neg =>
        have HQ := Lib.hid (HFIN.out wr (Kp.refl _ _) (by rw [trimLoop_cons, if_neg hidx]))
        clear HFIN
        go_wp2_with fail
        go_ret
        exact HQ.out
      clear HFIN
      have k0 : Kp Noone wr wr.drew := (Kp.refl _ _).drew
      have har := area_w a.1 wr.drew hbn
      have hns := walName_size a.1
      have hst3 : s2.steps < 4611686018427387904 := by have := HST.out; omega
      have hdr := fun W (k : Kp Noone wr W) => drop_dk B c2 i p s2 (walName a.1) W (HD.out.keep k) (X2.cols.keep k.size) (by rw [hns]; omega) hst3
      have hds := dropF_steps s2 (walName a.1)
      have hF2 := hF.out
      rw [trimLoop_cons, if_pos hidx] at hF2
      generalize walName a.1 = nm at *
      generalize dropF s2 nm = r2 at *
      obtain ⟨s3, e2⟩ := r2
      simp only [] at hF2 hdr hds
      have HDS := Lib.hid hds
      have HF2 := Lib.hid hF2
      have hla := fun (c3 : Nat → Nat) W V (k : Kp Noone wr W) (x : Ext B (S3 i) c2 W c3 V) => (HL.out.keep k).ext x (by unfold S3; omega) (by unfold S3; omega)
      have hmt := fun (c3 : Nat → Nat) W V (k : Kp Noone wr W) (x : Ext B (S3 i) c2 W c3 V) (H : Dk c3 i V p s3) => met_p B c i c3 V p q s3 _ _ _ e2 H (hla c3 W V k x) x.cols hci
      have hcs : ∀ W, Kp Noone wr W → (W.cell? ⟨q, 0, none⟩ = some (.pointer (some ⟨p, 0, none⟩)) ∧ W.cell? ⟨q, 2, none⟩ = some (.slice (some ⟨g, off, none⟩) np pc) ∧ W.cell? ⟨g, off, none⟩ = some (.int .i64 (a.1 : Int))) := fun W k => ⟨k.cell y0 id, k.cell y2' id, k.cell hl2' id⟩
      clear hF hF2 hds hst3 hns hla
      go_upto_region 5 with fail
      go_region_held3 (fun w' => w'.cell? ⟨q, 0, none⟩ = some (.pointer (some ⟨p, 0, none⟩)) ∧ w'.cell? ⟨q, 2, none⟩ = some (.slice (some ⟨g, off, none⟩) np pc) ∧ w'.cell? ⟨g, off, none⟩ = some (.int .i64 (a.1 : Int)))
        (first | exact hcs _ k0 | exact hcs _ ka | exact LAt.three ((HL.out.keep ka).ext x3 (by unfold S3; omega) (by unfold S3; omega)) rfl hnp.out | exact LAt.three l4 (metF_pieces _ _) hnp.out)
        (first
          | (go_at_call 54; refine har.mono ?_; rintro e wa ⟨rfl, ka1⟩; have ka := k0.trans ka1)
          | (go_at_call 53; refine (hdr _ ka).mono ?_; rintro e wb ⟨rfl, c3, x3, d3⟩)
          | (go_at_call 97; refine (hmt c3 _ wb ka x3 d3).mono ?_; rintro e wd ⟨rfl, x4, d4, l4⟩))
      have X4 := X2.trans ((Ext.quiet X2.cols ka).trans ((x3.mono (fun x hx => Or.inl hx)).trans x4))
      have HX4 := Lib.hid X4
      have HD4 := Lib.hid d4
      have HL4 := Lib.hid l4
      clear hcs har hdr hmt k0 ka ka1 x3 d3 x4 d4 l4 X4
      by_cases he2 : e2 = 0
      case neg =>
        have HR := HF2.out
        rw [if_pos he2] at HR
        have n2 : ((e2 : Int) != 0) = true := by simpa using he2
        have HQ : Hid (LgTo B c i col w p q RES.1 RES.2.1 (.int .i64 (RES.2.2 : Int)) (.returned (.int .i64 (e2 : Int))) wd) := Lib.hid (by
          rw [← HR]
          exact ⟨c3, rfl, HX1.out.trans HX4.out, HD4.out, _, _, HL4.out⟩)
        clear HR HF2 he2
        go_wp2_with fail
        go_ret
        exact HQ.out
      subst he2
      have HR := HF2.out
      rw [if_neg (by simp)] at HR
      rw [Int.natCast_zero]
      have hm0 : metF (⟨lim2, a :: b :: r, nx2, sz2, sh2⟩ : LogP) 0 = ⟨lim2, a :: b :: r, nx2, sz2, sh2⟩ := rfl
      have L4 := HL4.out
      rw [hm0] at L4
      have hb4 := L4.box
      have z2 := (LAt.three L4 rfl hnp.out).2.1
      unfold logC at hb4
      have zf := (cells_6f hb4).2 2
      have hcap : np ≤ pc := by have := L4.pieces.2.1; have := hnp.out; simp at *; omega
      have hcapi : (np : Int) ≤ (pc : Int) := by omega
      have hone : (1 : Int) ≤ (np : Int) := by omega
      have HR2 := Lib.hid HR
      have HL5 := Lib.hid L4
      clear HR HF2 L4 HL4 hb4
      go_wp2_with fail
      have hn := hnp.out
      subst hn
      have hL5 := HL5.out
      have kq : Kp (fun j => j = q) wd (wd.setCell ⟨q, 2, none⟩ (.slice (some ⟨g, off + 2, none⟩) (r.length + 2 - 1) (pc - 1))) := (Kp.refl (fun j => j = q) wd).setCell (p := ⟨q, 2, none⟩) (fun _ => rfl) _
      have hbx : (wd.setCell ⟨q, 2, none⟩ (.slice (some ⟨g, off + 2, none⟩) (r.length + 2 - 1) (pc - 1))).heap[q]? = some (.cells (logC p ⟨lim2, b :: r, nx2, sz2, sh2⟩ (some ⟨g, off + 2, none⟩) (pc - 1)) 125 (0, 0)) := (heap_set_cell hL5.box).trans (by unfold logC; simp)
      have hpp := Own.tail hL5.pieces (by simp)
      rw [piecesV_tail] at hpp
      have hl6 : LAt c c3 (wd.setCell ⟨q, 2, none⟩ (.slice (some ⟨g, off + 2, none⟩) (r.length + 2 - 1) (pc - 1))) p q ⟨lim2, b :: r, nx2, sz2, sh2⟩ (some ⟨g, off + 2, none⟩) (pc - 1) := ⟨hbx, hL5.qc, hpp.kp kq (fun j d e => by have d1 : c3 j = c + 1 := d; have h7 := hL5.qc; rw [e] at d1; omega)⟩
      have hls : lenAt q (wd.setCell ⟨q, 2, none⟩ (.slice (some ⟨g, off + 2, none⟩) (r.length + 2 - 1) (pc - 1))) = r.length + 1 := by
        have h8 := hbx
        unfold logC at h8
        have h9 := (cells_6f h8).1.2.2.1
        unfold lenAt
        rw [h9]
        rfl
      refine ⟨⟨⟨c3, s3, ⟨lim2, b :: r, nx2, sz2, sh2⟩, HX4.out.trans (box_extS HX4.out.cols (kq.mono (fun j _ e => by rw [e, hL5.qc]; exact Or.inr (Or.inl rfl)))), ⟨?_, _, _, hl6⟩, ?_, ?_, HR2.out⟩⟩, ?_⟩
      · obtain ⟨⟨r7, hr7⟩, hi7⟩ := HD4.out
        exact ⟨⟨r7, hr7.beside (S := fun x => x = c) (kq.mono (fun j _ e => by rw [e]; exact hL5.qc)) (fun x a b => by unfold S3 at a; omega)⟩, hi7⟩
      · have o := HOK.out
        exact ⟨o.limit, by simp, fun x hx => o.nums x (List.mem_cons_of_mem _ hx), fun x hx => o.firsts x (List.mem_cons_of_mem _ hx), o.next, o.size, by have := o.len; simp at *; omega⟩
      · have h1 := HST.out
        have h2 := HDS.out
        simp at *
        omega
      · rw [hls, HA.out]
        omega


end Go.Proofs.YtgbgbokcohfnpaaGreat
