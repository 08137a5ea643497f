/-
  WalRefE, WalRefF in one text.
-/
import Derived.Test.YtigdhdclfdojgaaGreatWalRefAD
import Derived.OwnWalk
/-
  THE WALK of the document's Found.
-/
namespace Go.Proofs.YtigdhdclfdojgaaGreat
open Go.RowKit

theorem info_pieceD : (Tryz.prog.info? 57).map (fun i => (i.zero, i.size, i.bytes)) = some (some (.agg #[.int .i64 0, .int .i64 0, .slice none 0 0]), 3, 40) := by kernel_rfl
theorem info_intD9 : (Tryz.prog.info? 3).map (fun i => (i.zero, i.size, i.bytes)) = some (some (.int .i64 0), 1, 8) := by kernel_rfl
def foundAt (L : Dat) (j : Nat) : FndR := (L.take j).foldl (fun g x => fnd1 g x.1 x.2) fnd0
theorem foundAt_step (L : Dat) (j : Nat) (h : j < L.length) : foundAt L (j + 1) = fnd1 (foundAt L j) L[j].1 L[j].2 := by
  unfold foundAt
  rw [List.take_succ_eq_append_getElem h, List.foldl_append]
  rfl
theorem foundAt_all (L : Dat) (j : Nat) (h : L.length ≤ j) : foundAt L j = foundR L := by
  unfold foundAt foundR
  rw [List.take_of_length_le h]
/-- The first index in a piece's header; 0: there is none. -/
def firstD (ds : List (List UInt8)) (num : Nat) : Nat := if (headOf ds num).2 = true then (headOf ds num).1 else 0
structure FBdR (j : Nat) (g : FndR) : Prop where
  ps : g.ps.length ≤ j
  strays : g.strays.length ≤ j
  next : g.next ≤ 1099515822080
  good : g.good ≤ 4194304
theorem fnd1_bd {j : Nat} {g : FndR} (h : FBdR j g) (k : ByteArray) (b : List UInt8) (hb : b.length ≤ 4194304) : FBdR (j + 1) (fnd1 g k b) := by
  have hh := headOf_le (splitL b) (numberN k)
  have h1 := split_len b
  have h2 := split_count b
  have i1 := h.ps
  have i2 := h.strays
  unfold fnd1
  split
  · exact ⟨by omega, by omega, h.next, h.good⟩
  · split
    · exact ⟨by show g.ps.length ≤ _; omega, by simp only [List.length_append, List.length_cons, List.length_nil]; omega, h.next, h.good⟩
    · refine ⟨by simp only [List.length_append, List.length_cons, List.length_nil]; omega, by show g.strays.length ≤ _; omega, ?_, ?_⟩
      · simp only [List.length_tail]
        omega
      · simp only []
        omega
theorem begins_pos {d : List UInt8} {num : Nat} (h : (beginsF d num).2 = true) : 0 < (beginsF d num).1 := by
  unfold beginsF at h ⊢
  simp only [decide_eq_true_eq] at h
  exact h.2.2
theorem firstD_zero (ds : List (List UInt8)) (num : Nat) : firstD ds num = 0 ↔ (headOf ds num).2 = false := by
  unfold firstD
  cases ds with
  | nil => simp [headOf]
  | cons d r =>
    by_cases h : (headOf (d :: r) num).2 = true
    · rw [if_pos h, h]
      have := begins_pos (d := d) (num := num) h
      simp [headOf]
      omega
    · rw [if_neg h]
      simp at h
      simp [h]
theorem stray_first {g : FndR} {k : ByteArray} {b : List UInt8} {f : Nat} (hf : firstD (splitL b) (numberN k) = f) : strayD g k b ↔ (g.whole = false ∨ f = 0 ∨ (0 < g.ps.length ∧ f ≠ g.next)) := by
  have h0 := firstD_zero (splitL b) (numberN k)
  rw [hf] at h0
  unfold strayD
  by_cases hz : f = 0
  · constructor
    · intro _; exact Or.inr (Or.inl hz)
    · intro _; exact Or.inr (Or.inl (h0.1 hz))
  · have h1 : (headOf (splitL b) (numberN k)).2 = true := by
      cases hx : (headOf (splitL b) (numberN k)).2 with
      | true => rfl
      | false => exact absurd (h0.2 hx) hz
    have h2 : (headOf (splitL b) (numberN k)).1 = f := by
      rw [← hf]
      unfold firstD
      rw [if_pos h1]
    rw [h1, h2]
    simp [hz]
theorem fnd1_zero {g : FndR} {k : ByteArray} {b : List UInt8} (h : numberN k = 0) : fnd1 g k b = g := by unfold fnd1; rw [if_pos h]
theorem fnd1_stray {g : FndR} {k : ByteArray} {b : List UInt8} (h : numberN k ≠ 0) (hs : strayD g k b) : fnd1 g k b = { g with whole := false, strays := g.strays ++ [numberN k] } := by unfold fnd1; rw [if_neg h, if_pos hs]
theorem fnd1_took {g : FndR} {k : ByteArray} {b : List UInt8} {f : Nat} (hf : firstD (splitL b) (numberN k) = f) (h : numberN k ≠ 0) (h0 : f ≠ 0) (hs : ¬ strayD g k b) : fnd1 g k b = ⟨g.ps ++ [⟨numberN k, f, (splitL b).tail⟩], g.strays, decide ((frames (splitL b)).length = b.length), f + (splitL b).tail.length, (frames (splitL b)).length⟩ := by
  have h1 : (headOf (splitL b) (numberN k)).2 = true := by
    cases hx : (headOf (splitL b) (numberN k)).2 with
    | true => rfl
    | false => exact absurd (hf.symm.trans ((firstD_zero _ _).2 hx)) h0
  have h2 : (headOf (splitL b) (numberN k)).1 = f := by
    rw [← hf]
    unfold firstD
    rw [if_pos h1]
  unfold fnd1
  rw [if_neg h, if_neg hs, h2]
/-- Between two areas. -/
structure FdR (w : World) (L : Dat) (n : Nat) (v5 v6 v7 v8 v9 v22 : Value) (wr : World) : Prop where
  ex : ∃ (j : Nat) (g : FndR) (col : Nat → Nat) (po : Option Addr) (pc : Nat) (so : Option Addr) (sc : Nat) (hs : Phs), Hid (foundAt L j = g) ∧ v5 = .slice po g.ps.length pc ∧ v6 = .slice so g.strays.length sc ∧ v7 = .bool g.whole ∧ v8 = .int .i64 (g.next : Int) ∧ v9 = .int .i64 (g.good : Int) ∧ v22 = .int .i64 (j : Int) ∧ j ≤ n ∧ FBdR j g ∧
    Cols w.heap.size wr col ∧ PcsP (fun i => w.heap.size ≤ i) 1 col wr po pc hs g.ps ∧ Own (Col col 2) wr 3 1 so g.strays.length sc (restV g.strays) ∧ Kp Noone w wr
/-- What Found answers. -/
structure FdTo (P : Nat → Prop) (w : World) (g : FndR) (e : Ending) (w' : World) : Prop where
  ex : ∃ po pc so sc, e = .returned (.tuple #[.slice po g.ps.length pc, .slice so g.strays.length sc, .int .i64 (g.good : Int)]) ∧ RPs P w' po g.ps.length pc g.ps ∧ Own (fun i => w.heap.size ≤ i) w' 3 1 so g.strays.length sc (restV g.strays) ∧ Kp Noone w w'
theorem restV_one (x : Nat) : restV [x] = [.int .i64 (x : Int)] := rfl

attribute [local irreducible] putQ

set_option maxHeartbeats 8000000 in
set_option maxRecDepth 100000 in
theorem found_ref (P : Nat → Prop) (ao : Option Addr) (n cap : Nat) (L : Img) (w : World) (h : RA P w ao n cap L) (hn : n ≤ 64) (hD : ∀ x ∈ L, x.1.size ≤ maxLen ∧ x.2.data.length ≤ 4194304) (hP : ∀ j, w.heap.size ≤ j → P j) :
    Calls Tryz.prog 56 #[.slice ao n cap] w fun e w' => FdTo P w (foundR (datL L)) e w' := by
  obtain ⟨i0, hi, hz0, hz1, hz2⟩ := info_parts info_pieceD
  obtain ⟨i1, hj, hy0, hy1, hy2⟩ := info_parts info_intD9
  have hlen := h.len
  have HA := Lib.hid h
  have HD := Lib.hid hD
  have HP := Lib.hid hP
  have HL := Lib.hid hlen
  have kA : ∀ A B : Obj, Kp Noone w ((w.alloc A).alloc B) := fun A B => ((Kp.refl _ _).alloc _).alloc _
  have R0 : Hid (FdR w (datL L) n (.slice (some ⟨w.heap.size, 0, none⟩) 0 0) (.slice (some ⟨w.heap.size + 1, 0, none⟩) 0 0) (.bool true) (.int .i64 0) (.int .i64 0) (.int .i64 0) ((w.alloc (.cells #[] 57)).alloc (.cells #[] 3))) := Lib.hid ⟨⟨0, fnd0, fun _ => 0, some ⟨w.heap.size, 0, none⟩, 0, some ⟨w.heap.size + 1, 0, none⟩, 0, [], Lib.hid rfl, rfl, rfl, rfl, rfl, rfl, rfl, Nat.zero_le _, ⟨Nat.zero_le _, Nat.zero_le _, by simp [fnd0], by simp [fnd0]⟩, Cols.zero _ _, PcsP.nil _ _ _ _ _, Own.nil _ _ _ _ _, kA _ _⟩⟩
  clear h hD hP hlen kA
  go_enter Tryz.func56, Tryz.ntmps56
  go_wp2_with fail
  go_loopw [5, 6, 7, 8, 9, 22] (fun v5 v6 v7 v8 v9 v22 wr => FdR w (datL L) n v5 v6 v7 v8 v9 v22 wr) (fun _ _ _ _ _ v22 _ => n - (intOf v22).toNat)
  case atStart => exact R0.out
  case round =>
    clear R0
    obtain ⟨j, g, col, po, pc, so, sc, hs, hg, rfl, rfl, rfl, rfl, rfl, rfl, hjn, hbd, hcol, hps, hst, kr⟩ := hrel.ex
    clear hrel
    have HC := Lib.hid hcol
    have HPS := Lib.hid hps
    have HST := Lib.hid hst
    have HK := Lib.hid kr
    have HBD := Lib.hid hbd
    clear hcol hps hst kr hbd
    by_cases hlt : j < n
    case neg =>
      obtain rfl : j = n := by omega
      have e : foundR (datL L) = g := by
        rw [← foundAt_all (datL L) j (by unfold datL; rw [List.length_map, HL.out]; exact Nat.le_refl _)]
        exact hg.out
      have HE := Lib.hid e
      have HPP := HP.out
      have F := HPS.out.rps HC.out (by omega) (fun i a _ => HPP i a) (fun i _ c => HPP i c.2)
      have F2 := HST.out.mono (G := fun i => w.heap.size ≤ i) (fun i _ c => by have c1 : col i = 2 := c; exact (HC.out i (by omega)).1)
      have HF := Lib.hid (And.intro F F2)
      clear F F2 e
      go_wp2_with fail
      refine bodyPost_ret (results_tmp3 rfl _ _ _) rfl ?_
      rw [HE.out]
      exact ⟨⟨po, pc, so, sc, rfl, HF.out.1, HF.out.2, HK.out⟩⟩
    have hjl : j < L.length := by have := HL.out; omega
    have hjd : j < (datL L).length := by unfold datL; rw [List.length_map]; exact hjl
    have hstep := foundAt_step (datL L) j hjd
    rw [hg.out] at hstep
    have hdj : (datL L)[j] = (L[j].1, L[j].2.data) := by simp [datL]
    rw [hdj] at hstep
    obtain ⟨b, off, bo, m, c, rfl, hbl, -, c0, c1, -, hda⟩ := HA.out.get j hjl
    obtain ⟨hk, hdl⟩ := HD.out L[j] (List.getElem_mem hjl)
    simp only [] at hstep
    have hbd' := fnd1_bd HBD.out L[j].1 L[j].2.data hdl
    generalize L[j].2.data = d at *
    generalize L[j].1 = k at *
    have c0 := HK.out.cell c0 id
    have c1 := HK.out.cell c1 id
    have hda := hda.keep HK.out
    have HSTEP := Lib.hid hstep
    have HBD' := Lib.hid hbd'
    have hwj : IntKind.i64.wrap ((j : Int) + 1) = (j : Int) + 1 := IntWalk.i64_in _ (by omega)
    have hnr := number_ref k wr hk
    obtain ⟨N, hN⟩ : ∃ N, Hid (numberN k = N) := ⟨_, Lib.hid rfl⟩
    rw [hN.out] at hnr
    have HDA := Lib.hid hda
    have HBL := Lib.hid hbl
    clear hstep hbd' hdj hda hbl
    go_wp2_with fail
    refine hnr.mono ?_
    clear hnr
    rintro e w2 ⟨rfl, k2⟩
    have c1 := k2.cell c1 id
    clear c0
    by_cases h0 : N = 0
    · subst h0
      have e : foundAt (datL L) (j + 1) = g := by rw [HSTEP.out, fnd1_zero hN.out]
      have hb2 := HBD.out
      have R : Hid (FdR w (datL L) n (.slice po g.ps.length pc) (.slice so g.strays.length sc) (.bool g.whole) (.int .i64 (g.next : Int)) (.int .i64 (g.good : Int)) (.int .i64 ((j : Int) + 1)) w2) := Lib.hid ⟨⟨j + 1, g, col, po, pc, so, sc, hs, Lib.hid e, rfl, rfl, rfl, rfl, rfl, rfl, by omega, ⟨by have := hb2.ps; omega, by have := hb2.strays; omega, hb2.next, hb2.good⟩, HC.out.keep k2.size, HPS.out.keep k2, HST.out.keep k2, HK.out.trans k2⟩⟩
      clear e hb2 k2 HPS HST HK HC HBD HBD' HDA
      go_wp2_with fail
      go_roundw
      case rel => exact R.out
      case measure => simp [intOf]; omega
    have h0i : ((N : Int) == 0) = false := by simp; omega
    have HC2 := Lib.hid (HC.out.keep k2.size)
    have HPS2 := Lib.hid (HPS.out.keep k2)
    have HST2 := Lib.hid (HST.out.keep k2)
    have HK2 := Lib.hid (HK.out.trans k2)
    have hz2b := HK2.out.size
    have hfr := frames_ref (fun i => col i = 0 ∧ w.heap.size ≤ i) bo m c d w2 (HDA.out.1.keep k2) (by have := HDA.out.1.len; omega) (fun i hi => ⟨cols_new HC2.out hi, by omega⟩)
    have hml := HDA.out.1.len
    have HML := Lib.hid hml
    have HBDG := Lib.hid HBD.out
    clear k2 HC HPS HST HK HBD hml
    go_wp2_with fail
    refine hfr.mono ?_
    clear hfr
    rintro e w3 hto
    obtain ⟨xo, xc, rfl, hx3, k3⟩ := hto.ex
    have HC3 := Lib.hid (HC2.out.keep k3.size)
    have HPS3 := Lib.hid (HPS2.out.keep k3)
    have HST3 := Lib.hid (HST2.out.keep k3)
    have HK3 := Lib.hid (HK2.out.trans k3)
    have HDA3 := Lib.hid (HDA.out.1.keep (Kp.refl Noone wr))
    have c1 := k3.cell c1 id
    have HX3 := Lib.hid hx3
    have hsl := split_len d
    have hsc := split_count d
    have hfn := headOf_le (splitL d) N
    obtain ⟨G', hG'⟩ : ∃ G', Hid (fnd1 g k d = G') := ⟨_, Lib.hid rfl⟩
    have hfd : ∃ f, Hid (firstD (splitL d) N = f) := ⟨_, Lib.hid rfl⟩
    obtain ⟨f, hf⟩ := hfd
    have hfle : f ≤ 1099511627776 := by
      rw [← hf.out]
      unfold firstD
      split
      · exact hfn
      · omega
    obtain ⟨rl, hrl⟩ : ∃ rl, Hid ((splitL d).length = rl) := ⟨_, Lib.hid rfl⟩
    obtain ⟨gl, hgl⟩ : ∃ gl, Hid ((frames (splitL d)).length = gl) := ⟨_, Lib.hid rfl⟩
    rw [hrl.out, hgl.out]
    rw [hrl.out] at hsc
    rw [hgl.out] at hsl
    have hbl2 := HBL.out
    have hwf1 : IntKind.i64.wrap ((f : Int) + (rl : Int)) = (f : Int) + (rl : Int) := IntWalk.i64_in _ (by omega)
    have hgs2 := HBDG.out.strays
    have hgp2 := HBDG.out.ps
    have HFLE := Lib.hid hfle
    have HDL := Lib.hid hdl
    clear hfle hdl
    clear hto hx3 k3 HC2 HPS2 HST2 HK2 HDA hfn
    have hcase : g.whole = false ∨ (g.whole = true ∧ rl = 0) ∨ (g.whole = true ∧ 0 < rl) := by
      cases g.whole with
      | false => exact Or.inl rfl
      | true => exact Or.inr ((Nat.eq_zero_or_pos rl).imp (fun h => ⟨rfl, h⟩) (fun h => ⟨rfl, h⟩))
    have hff := hf.out
    rw [← hN.out] at hff
    have HSF := Lib.hid (stray_first (g := g) hff)
    clear hff
    rcases hcase with cW | ⟨cW, cR⟩ | ⟨cW, cR⟩
    case' inl =>
      have HSD : Hid (strayD g k d) := Lib.hid (Or.inl cW)
      generalize w3 = wq at *
      have HKQ := Lib.hid (Kp.refl Noone wq)
      rw [cW]
      go_upto_region 20 with fail
    case' inr.inl =>
      have hf0 : f = 0 := by
        rw [← hf.out, List.eq_nil_of_length_eq_zero (hrl.out.trans cR)]
        rfl
      have HSD : Hid (strayD g k d) := Lib.hid (HSF.out.2 (Or.inr (Or.inl hf0)))
      subst cR
      generalize w3 = wq at *
      have HKQ := Lib.hid (Kp.refl Noone wq)
      rw [cW]
      go_upto_region 20 with fail
    case' inr.inr =>
      obtain ⟨hd0, tl, hsd⟩ : ∃ h t, splitL d = h :: t := by
        cases hx : splitL d with
        | nil => have := hrl.out; rw [hx] at this; simp at this; omega
        | cons h t => exact ⟨h, t, rfl⟩
      obtain ⟨gx, ox, uo, um, uc, hul, hxo, hue, hud⟩ := HX3.out.at (j := 0) (by rw [hrl.out]; exact cR)
      have hu0 : (splitL d)[0] = hd0 := by simp [hsd]
      rw [hu0] at hud
      rw [Nat.add_zero] at hue
      have hde := split_each d hd0 (by rw [hsd]; exact List.mem_cons_self ..)
      subst hxo
      obtain ⟨R1, hR1⟩ : ∃ x, Hid (rcount hd0 0 999999 = x) := ⟨_, Lib.hid rfl⟩
      obtain ⟨R2, hR2⟩ : ∃ x, Hid (rcount R1.1.1 R1.1.2 1099511627776 = x) := ⟨_, Lib.hid rfl⟩
      obtain ⟨dn, hdn⟩ : ∃ x, Hid (rdone R2.1.1 R2.1.2 = x) := ⟨_, Lib.hid rfl⟩
      have f1 : R1.1.2 ≤ 13 := by rw [← hR1.out]; exact rcount_bad_le _ _ _ (by omega)
      have f2 : R2.1.2 ≤ 13 := by rw [← hR2.out]; exact rcount_bad_le _ _ _ f1
      have g1 : R1.2 ≤ 999999 := by rw [← hR1.out]; exact rcount_upto _ _ 999999
      have g2 : R2.2 ≤ 1099511627776 := by rw [← hR2.out]; exact rcount_upto _ _ 1099511627776
      have HFV : Hid (f = if dn = 0 ∧ R1.2 = N then R2.2 else 0) := Lib.hid (by
        have e := hf.out
        rw [hsd] at e
        unfold firstD at e
        have eb : headOf (hd0 :: tl) N = (R2.2, decide (dn = 0 ∧ R1.2 = N ∧ 0 < R2.2)) := by
          show beginsF hd0 N = _
          unfold beginsF
          rw [hR1.out, hR2.out, hdn.out]
        rw [eb] at e
        simp only [decide_eq_true_eq] at e
        rw [← e]
        by_cases c : dn = 0 ∧ R1.2 = N
        · rw [if_pos c]
          by_cases c0 : 0 < R2.2
          · rw [if_pos ⟨c.1, c.2, c0⟩]
          · rw [if_neg (fun h => c0 h.2.2)]; omega
        · rw [if_neg c, if_neg (fun h => c ⟨h.1, h.2.1⟩)])
      have HE2 := Lib.hid hR2.out
      have C1 : Calls Tryz.prog 80 #[.agg #[.slice uo um uc, .int .i64 0], .int .i64 999999] w3 (RefPost w3 uo um uc hd0 R1.1.1 R1.1.2 (.int .i64 (R1.2 : Int))) := by
        have h := refReadCount_any uo um uc hd0 0 999999 w3 hud.1 (by omega) (by omega) (by omega)
        rw [hR1.out] at h
        exact h
      have hob := hud.1
      have HF := Lib.hid (And.intro f1 f2)
      have HG := Lib.hid (And.intro g1 g2)
      have hrl0 : (0 : Int) < (rl : Int) := by omega
      clear hu0 hud hde hul f1 f2 hsd
      rw [cW]
      go_wp2_with fail
      refine C1.mono ?_
      rintro e w4 ⟨r1o, r1n, r1c, rfl, hb3, k3⟩
      have hbs3 := hb3 w4 (hob.keep k3)
      have F3 := Lib.hid hb3
      have HD3 := Lib.hid ((hob.dataP (P := fun j => j < w3.heap.size) (fun _ h => h)).keep k3)
      have HQ3 := Lib.hid k3
      have hgs : w3.heap.size ≤ w4.heap.size := k3.size
      have C2 := fun (W : World) (hb : BS W r1o r1n r1c R1.1.1) => refReadCount_any r1o r1n r1c R1.1.1 R1.1.2 1099511627776 W hb HF.out.1 (by omega) (by omega)
      rw [HE2.out] at C2
      have HB3 := Lib.hid hbs3
      clear C1 hob hb3 k3 hbs3
      unfold rrV at C2 ⊢
      have kB : Kp Noone w4 (w4.alloc (.cells #[.slice r1o r1n r1c, .int .i64 (R1.1.2 : Int)] 138)) := (Kp.refl _ _).alloc _
      have hB := heap_alloc_new w4 (.cells #[.slice r1o r1n r1c, .int .i64 (R1.1.2 : Int)] 138)
      have HB4 := Lib.hid (HB3.out.keep kB)
      have HQ4 := Lib.hid (HQ3.out.trans kB)
      have HD4 := Lib.hid ((HD3.out.mono (Q := fun j => j < w4.heap.size) (fun _ _ c => Nat.lt_of_lt_of_le c hgs)).keep kB)
      go_upto_region 15 with fail
      generalize w4.alloc (.cells #[.slice r1o r1n r1c, .int .i64 (R1.1.2 : Int)] 138) = w5 at *
      generalize w4.heap.size = gb at *
      obtain ⟨z0, z1, -, -⟩ := cells_two hB
      go_wp2_with fail
      refine (C2 _ HB4.out).mono ?_
      rintro e w6 ⟨r2o, r2n, r2c, rfl, hb5, k5⟩
      have hB5 := k5.heap hB id
      have F5 := Lib.hid hb5
      have HD5 := Lib.hid (HD4.out.keep k5)
      have HQ5 := Lib.hid (HQ4.out.trans k5)
      clear C2 hb5 k5 hB z0 z1 HB3 HB4 kB HD3 HD4
      unfold rrV
      have k6 := putQ_kp w6 gb r2o r2n r2c R2.1.2
      have hB6 := putQ_heap r2o r2n r2c R2.1.2 hB5
      have HD6 := Lib.hid (HD5.out.kp k6 (fun j _ c e => by omega))
      have HQ6 := Lib.hid (HQ5.out.fin k6 (fun j e => Or.inr (by omega)))
      go_upto_region 16 with (refine wpList_store_rdr rfl (.tmp 15) (.tmp 59) rfl gb r2o r2n r2c R2.1.2 (by rfl) (by rfl) hB5 ?_)
      clear k6 hB5 HD5 HQ5
      generalize putQ w6 gb r2o r2n r2c R2.1.2 = w7 at *
      obtain ⟨z0, z1, -, -⟩ := cells_two hB6
      have hbs6 := F5.out w7 (F3.out w7 HD6.out.1)
      have C4 := refDone_any r2o r2n r2c R2.1.1 R2.1.2 w7 hbs6
      rw [hdn.out] at C4
      unfold rrV at C4
      clear hbs6
      go_wp2_with fail
      refine C4.mono ?_
      rintro e w9 ⟨rfl, k9⟩
      have hB9 := k9.heap hB6 id
      have HQ9 := Lib.hid (HQ6.out.trans k9)
      clear C4 k9 hB6 z0 z1 HD6 HQ6
      have k10 := putQ_kp w9 gb r2o r2n r2c dn
      have hB10 := putQ_heap r2o r2n r2c dn hB9
      have HKQ := Lib.hid (HQ9.out.fin k10 (fun j e => Or.inr (by omega)))
      go_upto_region 17 with (refine wpList_store_rdr rfl (.tmp 15) (.tmp 62) rfl gb r2o r2n r2c dn (by rfl) (by rfl) hB9 ?_)
      clear k10 hB9 HQ9 HQ3 HQ4
      generalize putQ w9 gb r2o r2n r2c dn = wq at *
      obtain ⟨z0, z1, -, -⟩ := cells_two hB10
      generalize R1.2 = a1 at *
      generalize R2.2 = a2 at *
      clear hR1 hR2 HE2 hdn HF F3 F5
      have hways : (((dn : Int) == 0) = true ∧ ((a1 : Int) == (N : Int)) = true ∧ f = a2 ∧ ((f : Int) == 0) = false ∧ f ≠ 0 ∧ (0 : Int) < (g.ps.length : Int) ∧ ((f : Int) != (g.next : Int)) = false ∧ Hid (¬ strayD g k d) ∧ xc = 1) ∨
          (((dn : Int) == 0) = true ∧ ((a1 : Int) == (N : Int)) = true ∧ f = a2 ∧ ((f : Int) == 0) = false ∧ f ≠ 0 ∧ (0 : Int) < (g.ps.length : Int) ∧ ((f : Int) != (g.next : Int)) = false ∧ Hid (¬ strayD g k d) ∧ ¬ xc = 1) ∨
          (((dn : Int) == 0) = true ∧ ((a1 : Int) == (N : Int)) = true ∧ f = a2 ∧ ((f : Int) == 0) = false ∧ f ≠ 0 ∧ ¬ (0 : Int) < (g.ps.length : Int) ∧ True ∧ Hid (¬ strayD g k d) ∧ xc = 1) ∨
          (((dn : Int) == 0) = true ∧ ((a1 : Int) == (N : Int)) = true ∧ f = a2 ∧ ((f : Int) == 0) = false ∧ f ≠ 0 ∧ ¬ (0 : Int) < (g.ps.length : Int) ∧ True ∧ Hid (¬ strayD g k d) ∧ ¬ xc = 1) ∨
          (((dn : Int) == 0) = false ∧ f = 0 ∧ Hid (strayD g k d)) ∨ (((dn : Int) == 0) = true ∧ ((a1 : Int) == (N : Int)) = false ∧ f = 0 ∧ Hid (strayD g k d)) ∨
          (((dn : Int) == 0) = true ∧ ((a1 : Int) == (N : Int)) = true ∧ f = a2 ∧ ((f : Int) == 0) = true ∧ Hid (strayD g k d)) ∨
          (((dn : Int) == 0) = true ∧ ((a1 : Int) == (N : Int)) = true ∧ f = a2 ∧ ((f : Int) == 0) = false ∧ (0 : Int) < (g.ps.length : Int) ∧ ((f : Int) != (g.next : Int)) = true ∧ Hid (strayD g k d)) := by
        have e := HFV.out
        by_cases hz : dn = 0
        case neg =>
          have hf0 : f = 0 := by rw [e, if_neg (fun c => hz c.1)]
          exact Or.inr (Or.inr (Or.inr (Or.inr (Or.inl ⟨by simpa using hz, hf0, Lib.hid (HSF.out.2 (Or.inr (Or.inl hf0)))⟩))))
        have hz1 : ((dn : Int) == 0) = true := by subst hz; rfl
        by_cases ha : a1 = N
        case neg =>
          have hf0 : f = 0 := by rw [e, if_neg (fun c => ha c.2)]
          exact Or.inr (Or.inr (Or.inr (Or.inr (Or.inr (Or.inl ⟨hz1, by simp; omega, hf0, Lib.hid (HSF.out.2 (Or.inr (Or.inl hf0)))⟩)))))
        have ha1 : ((a1 : Int) == (N : Int)) = true := by subst ha; simp
        have hfa : f = a2 := by rw [e, if_pos ⟨hz, ha⟩]
        by_cases hf0 : f = 0
        · exact Or.inr (Or.inr (Or.inr (Or.inr (Or.inr (Or.inr (Or.inl ⟨hz1, ha1, hfa, by simpa using hf0, Lib.hid (HSF.out.2 (Or.inr (Or.inl hf0)))⟩))))))
        have hf1 : ((f : Int) == 0) = false := by simpa using hf0
        by_cases hps : 0 < g.ps.length
        · by_cases hfn : f = g.next
          · have hns : ¬ strayD g k d := fun c => by
              rcases HSF.out.1 c with c | c | c
              · rw [cW] at c; cases c
              · exact hf0 c
              · exact c.2 hfn
            have hn2 : ((f : Int) != (g.next : Int)) = false := by simp; omega
            by_cases hx : xc = 1
            · exact Or.inl ⟨hz1, ha1, hfa, hf1, hf0, by omega, hn2, Lib.hid hns, hx⟩
            · exact Or.inr (Or.inl ⟨hz1, ha1, hfa, hf1, hf0, by omega, hn2, Lib.hid hns, hx⟩)
          · exact Or.inr (Or.inr (Or.inr (Or.inr (Or.inr (Or.inr (Or.inr ⟨hz1, ha1, hfa, hf1, by omega, by simp; omega, Lib.hid (HSF.out.2 (Or.inr (Or.inr ⟨hps, hfn⟩)))⟩))))))
        · have hns : ¬ strayD g k d := fun c => by
            rcases HSF.out.1 c with c | c | c
            · rw [cW] at c; cases c
            · exact hf0 c
            · exact hps c.1
          by_cases hx : xc = 1
          · exact Or.inr (Or.inr (Or.inl ⟨hz1, ha1, hfa, hf1, hf0, by omega, trivial, Lib.hid hns, hx⟩))
          · exact Or.inr (Or.inr (Or.inr (Or.inl ⟨hz1, ha1, hfa, hf1, hf0, by omega, trivial, Lib.hid hns, hx⟩)))
      obtain ⟨B, hBB⟩ : ∃ B, ((gl : Int) == (m : Int)) = B := ⟨_, rfl⟩
      have HBv : Hid (decide (gl = m) = B) := Lib.hid (by rw [← hBB, Bool.eq_iff_iff]; simp; omega)
      have hwf2 : IntKind.i64.wrap ((f : Int) + (rl : Int) - 1) = ((f + (rl - 1) : Nat) : Int) := by have := HFLE.out; have := HDL.out; rw [IntWalk.i64_in _ (by omega)]; omega
      clear HFV
      rcases hways with ⟨n1, n2, rfl, n3, hf0, n4, n5, HNS, hxc0⟩ | ⟨n1, n2, rfl, n3, hf0, n4, n5, HNS, hxc0⟩ | ⟨n1, n2, rfl, n3, hf0, n4, n5, HNS, hxc0⟩ | ⟨n1, n2, rfl, n3, hf0, n4, n5, HNS, hxc0⟩ | ⟨n1, rfl, HSD⟩ | ⟨n1, n2, rfl, HSD⟩ | ⟨n1, n2, rfl, n3, HSD⟩ | ⟨n1, n2, rfl, n3, n4, n5, HSD⟩
      · have hr1 : rl = 1 := by
          have hx := HX3.out
          rw [hrl.out] at hx
          have := hx.le
          omega
        subst hxc0
        subst hr1
        have hwa : IntKind.i64.wrap ((f : Int) + 1) = (f : Int) + 1 := by have := HFLE.out; exact IntWalk.i64_in _ (by omega)
        have hwb : IntKind.i64.wrap ((f : Int) + 1 - 1) = (f : Int) := by have := HFLE.out; rw [IntWalk.i64_in _ (by omega)]; omega
        have hwc : IntKind.i64.wrap (f : Int) = (f : Int) := by have := HFLE.out; exact IntWalk.i64_in _ (by omega)
        have HRT : Hid (RRec (fun i => col i = 0 ∧ w.heap.size ≤ i) w3 (some ⟨gx, ox, none⟩) 0 0 (splitL d).tail) := Lib.hid (by
          have e : (splitL d).tail = [] := List.eq_nil_of_length_eq_zero (by rw [List.length_tail, hrl.out])
          rw [e]
          exact RRec.nil _ _ _)
        clear hwf1 hwf2
        have hA6 := heap_alloc_new wq (.cells #[.int .i64 (N : Int), .int .i64 (f : Int), .slice (some ⟨gx, ox, none⟩) 0 0] 57)
        have kC : Kp Noone w3 (wq.alloc (.cells #[.int .i64 (N : Int), .int .i64 (f : Int), .slice (some ⟨gx, ox, none⟩) 0 0] 57)) := HKQ.out.alloc _
        have hpB := HPS3.out.keep kC
        have hown := hpB.own
        have hrow : Row (wq.alloc (.cells #[.int .i64 (N : Int), .int .i64 (f : Int), .slice (some ⟨gx, ox, none⟩) 0 0] 57)) (some ⟨wq.heap.size, 0, none⟩) [.int .i64 (N : Int), .int .i64 (f : Int), .slice (some ⟨gx, ox, none⟩) 0 0] := Row.ofHeap hA6
        have hcB := HC3.out.keep kC.size
        have hsB : w.heap.size ≤ (wq.alloc (.cells #[.int .i64 (N : Int), .int .i64 (f : Int), .slice (some ⟨gx, ox, none⟩) 0 0] 57)).heap.size := Nat.le_trans HK3.out.size kC.size
        have hrB := HRT.out.keep kC
        have hstB := HST3.out.keep kC
        have c1B := kC.cell c1 id
        have HKB := Lib.hid (HK3.out.trans kC)
        clear kC
        go_wp2_with (at_builtin; refine wpList_append_gen _ rfl (.tmp 92) (.tmp 98) 35 rfl 57 i0 (.agg #[.int .i64 0, .int .i64 0, .slice none 0 0]) 3 40 Tryz.underlying35 hi hz0 hz1 hz2 rfl po g.ps.length pc rfl (some ⟨wq.heap.size, 0, none⟩) 1 1 rfl (Col col 1) (pcsV g.ps hs) hown [.int .i64 (N : Int), .int .i64 (f : Int), .slice (some ⟨gx, ox, none⟩) 0 0] rfl hrow (by intro u hu; simp at hu; rcases hu with rfl | rfl | rfl <;> rfl) (by omega) (by unfold maxLen; omega) ?_)
        intro yo yc w6 ho6 k6
        have hb1 : ¬ Col col 1 b := fun c => by have c2 : col b = 1 := c; have := HC3.out b (by omega); omega
        have c1 := k6.cell c1B hb1
        have hpush := hpB.push (p := ⟨N, f, (splitL d).tail⟩) (ro := some ⟨gx, ox, none⟩) (rc := 0) hcB hsB (by omega) k6 (by rw [List.length_tail, hrl.out]; exact ho6) (by rw [List.length_tail, hrl.out]; exact hrB)
        have xp := Ext.tint (B := w.heap.size) hcB hsB k6
        have hst6 := hstB.colE xp (by omega)
        have hc6 := hcB.paint hsB k6.size 1
        have k06 := HKB.out.fin k6 (fun i c => Or.inr (Col.lt hcB (by omega) c).1)
        generalize paint col (wq.alloc (.cells #[.int .i64 (N : Int), .int .i64 (f : Int), .slice (some ⟨gx, ox, none⟩) 0 0] 57)) w6 1 = col6 at *
        have e : foundAt (datL L) (j + 1) = ⟨g.ps ++ [⟨N, f, (splitL d).tail⟩], g.strays, B, f + (1 - 1), gl⟩ := by
          have hff := hf.out
          rw [← hN.out] at hff
          rw [HSTEP.out, fnd1_took hff (by rw [hN.out]; exact h0) hf0 HNS.out, hN.out, hgl.out, List.length_tail, hrl.out, HML.out, HBv.out]
        have hbd6 := HBD'.out
        rw [← HSTEP.out, e] at hbd6
        have R : Hid (FdR w (datL L) n (.slice yo (g.ps.length + 1) yc) (.slice so g.strays.length sc) (.bool B) (.int .i64 (f : Int)) (.int .i64 (gl : Int)) (.int .i64 ((j : Int) + 1)) w6) := Lib.hid ⟨⟨j + 1, _, col6, yo, yc, so, sc, _, Lib.hid e, by rw [List.length_append]; rfl, rfl, rfl, rfl, rfl, rfl, by omega, hbd6, hc6, hpush, hst6, k06⟩⟩
        clear hpush xp hst6 hc6 k06 ho6 k6 e hbd6 hrB hstB c1B hown hrow hcB hsB hpB hA6 HKB
        go_wp2_with fail
        go_roundw
        case rel => exact R.out
        case measure => simp [intOf]; omega
      · have hxc : ¬ xc = 1 := by omega
        have HRT : Hid (RRec (fun i => col i = 0 ∧ w.heap.size ≤ i) w3 (some ⟨gx, ox + 1, none⟩) (rl - 1) (xc - 1) (splitL d).tail) := Lib.hid (by
          have hx := HX3.out
          rw [hrl.out] at hx
          exact hx.tail (by omega))
        have hA6 := heap_alloc_new wq (.cells #[.int .i64 (N : Int), .int .i64 (f : Int), .slice (some ⟨gx, ox + 1, none⟩) (rl - 1) (xc - 1)] 57)
        have kC : Kp Noone w3 (wq.alloc (.cells #[.int .i64 (N : Int), .int .i64 (f : Int), .slice (some ⟨gx, ox + 1, none⟩) (rl - 1) (xc - 1)] 57)) := HKQ.out.alloc _
        have hpB := HPS3.out.keep kC
        have hown := hpB.own
        have hrow : Row (wq.alloc (.cells #[.int .i64 (N : Int), .int .i64 (f : Int), .slice (some ⟨gx, ox + 1, none⟩) (rl - 1) (xc - 1)] 57)) (some ⟨wq.heap.size, 0, none⟩) [.int .i64 (N : Int), .int .i64 (f : Int), .slice (some ⟨gx, ox + 1, none⟩) (rl - 1) (xc - 1)] := Row.ofHeap hA6
        have hcB := HC3.out.keep kC.size
        have hsB : w.heap.size ≤ (wq.alloc (.cells #[.int .i64 (N : Int), .int .i64 (f : Int), .slice (some ⟨gx, ox + 1, none⟩) (rl - 1) (xc - 1)] 57)).heap.size := Nat.le_trans HK3.out.size kC.size
        have hrB := HRT.out.keep kC
        have hstB := HST3.out.keep kC
        have c1B := kC.cell c1 id
        have HKB := Lib.hid (HK3.out.trans kC)
        clear kC
        go_wp2_with (at_builtin; refine wpList_append_gen _ rfl (.tmp 92) (.tmp 98) 35 rfl 57 i0 (.agg #[.int .i64 0, .int .i64 0, .slice none 0 0]) 3 40 Tryz.underlying35 hi hz0 hz1 hz2 rfl po g.ps.length pc rfl (some ⟨wq.heap.size, 0, none⟩) 1 1 rfl (Col col 1) (pcsV g.ps hs) hown [.int .i64 (N : Int), .int .i64 (f : Int), .slice (some ⟨gx, ox + 1, none⟩) (rl - 1) (xc - 1)] rfl hrow (by intro u hu; simp at hu; rcases hu with rfl | rfl | rfl <;> rfl) (by omega) (by unfold maxLen; omega) ?_)
        intro yo yc w6 ho6 k6
        have hb1 : ¬ Col col 1 b := fun c => by have c2 : col b = 1 := c; have := HC3.out b (by omega); omega
        have c1 := k6.cell c1B hb1
        have hpush := hpB.push (p := ⟨N, f, (splitL d).tail⟩) (ro := some ⟨gx, ox + 1, none⟩) (rc := xc - 1) hcB hsB (by omega) k6 (by rw [List.length_tail, hrl.out]; exact ho6) (by rw [List.length_tail, hrl.out]; exact hrB)
        have xp := Ext.tint (B := w.heap.size) hcB hsB k6
        have hst6 := hstB.colE xp (by omega)
        have hc6 := hcB.paint hsB k6.size 1
        have k06 := HKB.out.fin k6 (fun i c => Or.inr (Col.lt hcB (by omega) c).1)
        generalize paint col (wq.alloc (.cells #[.int .i64 (N : Int), .int .i64 (f : Int), .slice (some ⟨gx, ox + 1, none⟩) (rl - 1) (xc - 1)] 57)) w6 1 = col6 at *
        have e : foundAt (datL L) (j + 1) = ⟨g.ps ++ [⟨N, f, (splitL d).tail⟩], g.strays, B, f + (rl - 1), gl⟩ := by
          have hff := hf.out
          rw [← hN.out] at hff
          rw [HSTEP.out, fnd1_took hff (by rw [hN.out]; exact h0) hf0 HNS.out, hN.out, hgl.out, List.length_tail, hrl.out, HML.out, HBv.out]
        have hbd6 := HBD'.out
        rw [← HSTEP.out, e] at hbd6
        have R : Hid (FdR w (datL L) n (.slice yo (g.ps.length + 1) yc) (.slice so g.strays.length sc) (.bool B) (.int .i64 ((f + (rl - 1) : Nat) : Int)) (.int .i64 (gl : Int)) (.int .i64 ((j : Int) + 1)) w6) := Lib.hid ⟨⟨j + 1, _, col6, yo, yc, so, sc, _, Lib.hid e, by rw [List.length_append]; rfl, rfl, rfl, rfl, rfl, rfl, by omega, hbd6, hc6, hpush, hst6, k06⟩⟩
        clear hpush xp hst6 hc6 k06 ho6 k6 e hbd6 hrB hstB c1B hown hrow hcB hsB hpB hA6 HKB
        go_wp2_with fail
        go_roundw
        case rel => exact R.out
        case measure => simp [intOf]; omega
      · have hr1 : rl = 1 := by
          have hx := HX3.out
          rw [hrl.out] at hx
          have := hx.le
          omega
        subst hxc0
        subst hr1
        have hwa : IntKind.i64.wrap ((f : Int) + 1) = (f : Int) + 1 := by have := HFLE.out; exact IntWalk.i64_in _ (by omega)
        have hwb : IntKind.i64.wrap ((f : Int) + 1 - 1) = (f : Int) := by have := HFLE.out; rw [IntWalk.i64_in _ (by omega)]; omega
        have hwc : IntKind.i64.wrap (f : Int) = (f : Int) := by have := HFLE.out; exact IntWalk.i64_in _ (by omega)
        have HRT : Hid (RRec (fun i => col i = 0 ∧ w.heap.size ≤ i) w3 (some ⟨gx, ox, none⟩) 0 0 (splitL d).tail) := Lib.hid (by
          have e : (splitL d).tail = [] := List.eq_nil_of_length_eq_zero (by rw [List.length_tail, hrl.out])
          rw [e]
          exact RRec.nil _ _ _)
        clear hwf1 hwf2
        have hA6 := heap_alloc_new wq (.cells #[.int .i64 (N : Int), .int .i64 (f : Int), .slice (some ⟨gx, ox, none⟩) 0 0] 57)
        have kC : Kp Noone w3 (wq.alloc (.cells #[.int .i64 (N : Int), .int .i64 (f : Int), .slice (some ⟨gx, ox, none⟩) 0 0] 57)) := HKQ.out.alloc _
        have hpB := HPS3.out.keep kC
        have hown := hpB.own
        have hrow : Row (wq.alloc (.cells #[.int .i64 (N : Int), .int .i64 (f : Int), .slice (some ⟨gx, ox, none⟩) 0 0] 57)) (some ⟨wq.heap.size, 0, none⟩) [.int .i64 (N : Int), .int .i64 (f : Int), .slice (some ⟨gx, ox, none⟩) 0 0] := Row.ofHeap hA6
        have hcB := HC3.out.keep kC.size
        have hsB : w.heap.size ≤ (wq.alloc (.cells #[.int .i64 (N : Int), .int .i64 (f : Int), .slice (some ⟨gx, ox, none⟩) 0 0] 57)).heap.size := Nat.le_trans HK3.out.size kC.size
        have hrB := HRT.out.keep kC
        have hstB := HST3.out.keep kC
        have c1B := kC.cell c1 id
        have HKB := Lib.hid (HK3.out.trans kC)
        clear kC
        go_wp2_with (at_builtin; refine wpList_append_gen _ rfl (.tmp 92) (.tmp 98) 35 rfl 57 i0 (.agg #[.int .i64 0, .int .i64 0, .slice none 0 0]) 3 40 Tryz.underlying35 hi hz0 hz1 hz2 rfl po g.ps.length pc rfl (some ⟨wq.heap.size, 0, none⟩) 1 1 rfl (Col col 1) (pcsV g.ps hs) hown [.int .i64 (N : Int), .int .i64 (f : Int), .slice (some ⟨gx, ox, none⟩) 0 0] rfl hrow (by intro u hu; simp at hu; rcases hu with rfl | rfl | rfl <;> rfl) (by omega) (by unfold maxLen; omega) ?_)
        intro yo yc w6 ho6 k6
        have hb1 : ¬ Col col 1 b := fun c => by have c2 : col b = 1 := c; have := HC3.out b (by omega); omega
        have c1 := k6.cell c1B hb1
        have hpush := hpB.push (p := ⟨N, f, (splitL d).tail⟩) (ro := some ⟨gx, ox, none⟩) (rc := 0) hcB hsB (by omega) k6 (by rw [List.length_tail, hrl.out]; exact ho6) (by rw [List.length_tail, hrl.out]; exact hrB)
        have xp := Ext.tint (B := w.heap.size) hcB hsB k6
        have hst6 := hstB.colE xp (by omega)
        have hc6 := hcB.paint hsB k6.size 1
        have k06 := HKB.out.fin k6 (fun i c => Or.inr (Col.lt hcB (by omega) c).1)
        generalize paint col (wq.alloc (.cells #[.int .i64 (N : Int), .int .i64 (f : Int), .slice (some ⟨gx, ox, none⟩) 0 0] 57)) w6 1 = col6 at *
        have e : foundAt (datL L) (j + 1) = ⟨g.ps ++ [⟨N, f, (splitL d).tail⟩], g.strays, B, f + (1 - 1), gl⟩ := by
          have hff := hf.out
          rw [← hN.out] at hff
          rw [HSTEP.out, fnd1_took hff (by rw [hN.out]; exact h0) hf0 HNS.out, hN.out, hgl.out, List.length_tail, hrl.out, HML.out, HBv.out]
        have hbd6 := HBD'.out
        rw [← HSTEP.out, e] at hbd6
        have R : Hid (FdR w (datL L) n (.slice yo (g.ps.length + 1) yc) (.slice so g.strays.length sc) (.bool B) (.int .i64 (f : Int)) (.int .i64 (gl : Int)) (.int .i64 ((j : Int) + 1)) w6) := Lib.hid ⟨⟨j + 1, _, col6, yo, yc, so, sc, _, Lib.hid e, by rw [List.length_append]; rfl, rfl, rfl, rfl, rfl, rfl, by omega, hbd6, hc6, hpush, hst6, k06⟩⟩
        clear hpush xp hst6 hc6 k06 ho6 k6 e hbd6 hrB hstB c1B hown hrow hcB hsB hpB hA6 HKB
        go_wp2_with fail
        go_roundw
        case rel => exact R.out
        case measure => simp [intOf]; omega
      · have hxc : ¬ xc = 1 := by omega
        have HRT : Hid (RRec (fun i => col i = 0 ∧ w.heap.size ≤ i) w3 (some ⟨gx, ox + 1, none⟩) (rl - 1) (xc - 1) (splitL d).tail) := Lib.hid (by
          have hx := HX3.out
          rw [hrl.out] at hx
          exact hx.tail (by omega))
        have hA6 := heap_alloc_new wq (.cells #[.int .i64 (N : Int), .int .i64 (f : Int), .slice (some ⟨gx, ox + 1, none⟩) (rl - 1) (xc - 1)] 57)
        have kC : Kp Noone w3 (wq.alloc (.cells #[.int .i64 (N : Int), .int .i64 (f : Int), .slice (some ⟨gx, ox + 1, none⟩) (rl - 1) (xc - 1)] 57)) := HKQ.out.alloc _
        have hpB := HPS3.out.keep kC
        have hown := hpB.own
        have hrow : Row (wq.alloc (.cells #[.int .i64 (N : Int), .int .i64 (f : Int), .slice (some ⟨gx, ox + 1, none⟩) (rl - 1) (xc - 1)] 57)) (some ⟨wq.heap.size, 0, none⟩) [.int .i64 (N : Int), .int .i64 (f : Int), .slice (some ⟨gx, ox + 1, none⟩) (rl - 1) (xc - 1)] := Row.ofHeap hA6
        have hcB := HC3.out.keep kC.size
        have hsB : w.heap.size ≤ (wq.alloc (.cells #[.int .i64 (N : Int), .int .i64 (f : Int), .slice (some ⟨gx, ox + 1, none⟩) (rl - 1) (xc - 1)] 57)).heap.size := Nat.le_trans HK3.out.size kC.size
        have hrB := HRT.out.keep kC
        have hstB := HST3.out.keep kC
        have c1B := kC.cell c1 id
        have HKB := Lib.hid (HK3.out.trans kC)
        clear kC
        go_wp2_with (at_builtin; refine wpList_append_gen _ rfl (.tmp 92) (.tmp 98) 35 rfl 57 i0 (.agg #[.int .i64 0, .int .i64 0, .slice none 0 0]) 3 40 Tryz.underlying35 hi hz0 hz1 hz2 rfl po g.ps.length pc rfl (some ⟨wq.heap.size, 0, none⟩) 1 1 rfl (Col col 1) (pcsV g.ps hs) hown [.int .i64 (N : Int), .int .i64 (f : Int), .slice (some ⟨gx, ox + 1, none⟩) (rl - 1) (xc - 1)] rfl hrow (by intro u hu; simp at hu; rcases hu with rfl | rfl | rfl <;> rfl) (by omega) (by unfold maxLen; omega) ?_)
        intro yo yc w6 ho6 k6
        have hb1 : ¬ Col col 1 b := fun c => by have c2 : col b = 1 := c; have := HC3.out b (by omega); omega
        have c1 := k6.cell c1B hb1
        have hpush := hpB.push (p := ⟨N, f, (splitL d).tail⟩) (ro := some ⟨gx, ox + 1, none⟩) (rc := xc - 1) hcB hsB (by omega) k6 (by rw [List.length_tail, hrl.out]; exact ho6) (by rw [List.length_tail, hrl.out]; exact hrB)
        have xp := Ext.tint (B := w.heap.size) hcB hsB k6
        have hst6 := hstB.colE xp (by omega)
        have hc6 := hcB.paint hsB k6.size 1
        have k06 := HKB.out.fin k6 (fun i c => Or.inr (Col.lt hcB (by omega) c).1)
        generalize paint col (wq.alloc (.cells #[.int .i64 (N : Int), .int .i64 (f : Int), .slice (some ⟨gx, ox + 1, none⟩) (rl - 1) (xc - 1)] 57)) w6 1 = col6 at *
        have e : foundAt (datL L) (j + 1) = ⟨g.ps ++ [⟨N, f, (splitL d).tail⟩], g.strays, B, f + (rl - 1), gl⟩ := by
          have hff := hf.out
          rw [← hN.out] at hff
          rw [HSTEP.out, fnd1_took hff (by rw [hN.out]; exact h0) hf0 HNS.out, hN.out, hgl.out, List.length_tail, hrl.out, HML.out, HBv.out]
        have hbd6 := HBD'.out
        rw [← HSTEP.out, e] at hbd6
        have R : Hid (FdR w (datL L) n (.slice yo (g.ps.length + 1) yc) (.slice so g.strays.length sc) (.bool B) (.int .i64 ((f + (rl - 1) : Nat) : Int)) (.int .i64 (gl : Int)) (.int .i64 ((j : Int) + 1)) w6) := Lib.hid ⟨⟨j + 1, _, col6, yo, yc, so, sc, _, Lib.hid e, by rw [List.length_append]; rfl, rfl, rfl, rfl, rfl, rfl, by omega, hbd6, hc6, hpush, hst6, k06⟩⟩
        clear hpush xp hst6 hc6 k06 ho6 k6 e hbd6 hrB hstB c1B hown hrow hcB hsB hpB hA6 HKB
        go_wp2_with fail
        go_roundw
        case rel => exact R.out
        case measure => simp [intOf]; omega
      all_goals (go_upto_region 20 with fail)
    all_goals (
      have kC := HKQ.out.alloc (.cells #[.int .i64 (N : Int)] 3)
      have hstB := HST3.out.keep kC
      have hpB := HPS3.out.keep kC
      have hcB := HC3.out.keep kC.size
      have hsB : w.heap.size ≤ (wq.alloc (.cells #[.int .i64 (N : Int)] 3)).heap.size := Nat.le_trans HK3.out.size kC.size
      have HKB := Lib.hid (HK3.out.trans kC)
      have hrow : Row (wq.alloc (.cells #[.int .i64 (N : Int)] 3)) (some ⟨wq.heap.size, 0, none⟩) [.int .i64 (N : Int)] := Row.ofHeap (heap_alloc_new wq _)
      clear kC
      go_wp2_with (at_builtin; refine wpList_append_gen _ rfl (.tmp 88) (.tmp 90) 43 rfl 3 i1 (.int .i64 0) 1 8 Tryz.underlying43 hj hy0 hy1 hy2 rfl so g.strays.length sc rfl (some ⟨wq.heap.size, 0, none⟩) 1 1 rfl (Col col 2) (restV g.strays) hstB [.int .i64 (N : Int)] rfl hrow (by intro u hu; simp at hu; subst hu; rfl) (by omega) (by unfold maxLen; omega) ?_)
      intro yo yc w6 ho6 k6
      have xp := Ext.tint (B := w.heap.size) hcB hsB k6
      have hp6 := hpB.ext xp (by omega) (by omega)
      have ho6p := ho6.painted
      rw [restV_snoc] at ho6p
      have hc6 := hcB.paint hsB k6.size 2
      have k06 := HKB.out.fin k6 (fun i c => Or.inr (Col.lt hcB (by omega) c).1)
      generalize paint col (wq.alloc (.cells #[.int .i64 (N : Int)] 3)) w6 2 = col6 at *
      have e : foundAt (datL L) (j + 1) = { g with whole := false, strays := g.strays ++ [N] } := by rw [HSTEP.out, fnd1_stray (by rw [hN.out]; exact h0) HSD.out, hN.out]
      have hbd6 := HBD'.out
      rw [← HSTEP.out, e] at hbd6
      have R : Hid (FdR w (datL L) n (.slice po g.ps.length pc) (.slice yo (g.strays.length + 1) yc) (.bool false) (.int .i64 (g.next : Int)) (.int .i64 (g.good : Int)) (.int .i64 ((j : Int) + 1)) w6) := Lib.hid ⟨⟨j + 1, _, col6, po, pc, yo, yc, hs, Lib.hid e, rfl, by rw [List.length_append]; rfl, rfl, rfl, rfl, rfl, by omega, hbd6, hc6, hp6, by rw [List.length_append]; exact ho6p, k06⟩⟩
      clear xp hp6 ho6p hc6 k06 ho6 k6 e hbd6 hstB hpB hcB hsB hrow HKB
      go_wp2_with fail
      go_roundw
      case rel => exact R.out
      case measure => simp [intOf]; omega)

end Go.Proofs.YtigdhdclfdojgaaGreat

/-
  THE WALKS of the document's log: step, begin; the log's eight cells.
-/
namespace Go.Proofs.YtigdhdclfdojgaaGreat
open Go.RowKit

def rlC (ao : Option Addr) (cap : Nat) (po : Option Addr) (pc : Nat) (m : RLog) : Array Value := #[.slice ao m.d.L.length cap, .int .i64 m.d.room, .int .i64 m.d.steps, .int .i64 m.d.fuse, .bool m.d.down, .int .i64 (m.lim : Int), .slice po m.ps.length pc, .bool m.shut]
def rlV (ao : Option Addr) (cap : Nat) (po : Option Addr) (pc : Nat) (m : RLog) : Value := .agg (rlC ao cap po pc m)
theorem info_rlog : (Tryz.prog.info? 37).map (·.size) = some 8 := by kernel_rfl
theorem cells_8 {w : World} {p e : Nat} {a b c d x y z u : Value} (h : w.heap[p]? = some (.cells #[a, b, c, d, x, y, z, u] e (0, 0))) :
    (w.cell? ⟨p, 0, none⟩ = some a ∧ w.cell? ⟨p, 1, none⟩ = some b ∧ w.cell? ⟨p, 2, none⟩ = some c ∧ w.cell? ⟨p, 3, none⟩ = some d) ∧ (w.cell? ⟨p, 4, none⟩ = some x ∧ w.cell? ⟨p, 5, none⟩ = some y ∧ w.cell? ⟨p, 6, none⟩ = some z ∧ w.cell? ⟨p, 7, none⟩ = some u) ∧ ∀ i, w.frozen? ⟨p, i, none⟩ = false := by
  refine ⟨⟨?_, ?_, ?_, ?_⟩, ⟨?_, ?_, ?_, ?_⟩, fun i => by simp [World.frozen?, h]⟩
  all_goals (rw [cell_of_row w p _ _ e (0, 0) h]; rfl)
theorem there_at {w : World} {g e n : Nat} {cs : Array Value} (h : w.heap[g]? = some (.cells cs e (0, 0))) (hn : n ≤ cs.size) : w.there g 0 n := by
  intro j hj
  refine ⟨?_, by simp [World.frozen?, h]⟩
  rw [Nat.zero_add, cell_of_row w g j cs e (0, 0) h, Array.getElem?_eq_getElem (by omega)]
  rfl
/-- The log's cells are stored. -/
def putL9 (w : World) (g : Nat) (ao : Option Addr) (cap : Nat) (po : Option Addr) (pc : Nat) (m : RLog) : World := w.setCells g 0 (rlC ao cap po pc m).toList
theorem putL9_kp (w : World) (g : Nat) (ao : Option Addr) (cap : Nat) (po : Option Addr) (pc : Nat) (m : RLog) : Kp (fun j => j = g) w (putL9 w g ao cap po pc m) :=
  (((((((((Kp.refl (fun j => j = g) w).setCell (p := ⟨g, 0, none⟩) (fun _ => rfl) (.slice ao m.d.L.length cap)).setCell (p := ⟨g, 1, none⟩) (fun _ => rfl) (.int .i64 m.d.room)).setCell (p := ⟨g, 2, none⟩) (fun _ => rfl) (.int .i64 m.d.steps)).setCell (p := ⟨g, 3, none⟩) (fun _ => rfl) (.int .i64 m.d.fuse)).setCell (p := ⟨g, 4, none⟩) (fun _ => rfl) (.bool m.d.down)).setCell (p := ⟨g, 5, none⟩) (fun _ => rfl) (.int .i64 (m.lim : Int))).setCell (p := ⟨g, 6, none⟩) (fun _ => rfl) (.slice po m.ps.length pc)).setCell (p := ⟨g, 7, none⟩) (fun _ => rfl) (.bool m.shut))
theorem putL9_heap {w : World} {g e : Nat} {a0 a1 a2 a3 a4 a5 a6 a7 : Value} (ao : Option Addr) (cap : Nat) (po : Option Addr) (pc : Nat) (m : RLog) (h : w.heap[g]? = some (.cells #[a0, a1, a2, a3, a4, a5, a6, a7] e (0, 0))) : (putL9 w g ao cap po pc m).heap[g]? = some (.cells (rlC ao cap po pc m) e (0, 0)) :=
  (heap_set_cell (heap_set_cell (heap_set_cell (heap_set_cell (heap_set_cell (heap_set_cell (heap_set_cell (heap_set_cell h)))))))).trans (by simp [rlC])
theorem wpList_store_rlog {ops : Array Oper} {rest : List Oper} {op : Oper} {a : Act} {w : World} {Q : Exit → Act → World → Prop} (hgd : op.guard = none) (x y : Operand) (ho : op.op = .store 37 x y)
    (g : Nat) (ao : Option Addr) (cap : Nat) (po : Option Addr) (pc : Nat) (m : RLog) (hx : a.eval x = .pointer (some ⟨g, 0, none⟩)) (hy : a.eval y = rlV ao cap po pc m) {a0 a1 a2 a3 a4 a5 a6 a7 : Value} (hb : w.heap[g]? = some (.cells #[a0, a1, a2, a3, a4, a5, a6, a7] 37 (0, 0)))
    (h : wpList Tryz.prog ops Q rest (a.put op.dst undef) (putL9 w g ao cap po pc m)) : wpList Tryz.prog ops Q (op :: rest) a w :=
  wpList_store_mid hgd 37 x y ho g 0 (rlC ao cap po pc m) hx hy (show w.there g 0 8 from there_at (cs := #[a0, a1, a2, a3, a4, a5, a6, a7]) hb (Nat.le_refl _)) info_rlog (by unfold rlC; simp [Value.oneCell']) h
/-- The log's disk alone is stored. -/
theorem putD_heap8 {w : World} {g e : Nat} {a0 a1 a2 a3 a4 a5 a6 a7 : Value} (ao : Option Addr) (cap : Nat) (d : RD) (h : w.heap[g]? = some (.cells #[a0, a1, a2, a3, a4, a5, a6, a7] e (0, 0))) : (putD w g ao cap d).heap[g]? = some (.cells #[.slice ao d.L.length cap, .int .i64 d.room, .int .i64 d.steps, .int .i64 d.fuse, .bool d.down, a5, a6, a7] e (0, 0)) :=
  (heap_set_cell (heap_set_cell (heap_set_cell (heap_set_cell (heap_set_cell h))))).trans (by simp)
theorem wpList_store_disk8 {ops : Array Oper} {rest : List Oper} {op : Oper} {a : Act} {w : World} {Q : Exit → Act → World → Prop} (hgd : op.guard = none) (x y : Operand) (ho : op.op = .store 26 x y)
    (g : Nat) (ao : Option Addr) (cap : Nat) (m : RD) (hx : a.eval x = .pointer (some ⟨g, 0, none⟩)) (hy : a.eval y = rdV ao cap m) {a0 a1 a2 a3 a4 a5 a6 a7 : Value} (hb : w.heap[g]? = some (.cells #[a0, a1, a2, a3, a4, a5, a6, a7] 37 (0, 0)))
    (h : wpList Tryz.prog ops Q rest (a.put op.dst undef) (putD w g ao cap m)) : wpList Tryz.prog ops Q (op :: rest) a w :=
  wpList_store_mid hgd 26 x y ho g 0 (rdC ao cap m) hx hy (show w.there g 0 5 from there_at (cs := #[a0, a1, a2, a3, a4, a5, a6, a7]) hb (by simp)) info_disk (by unfold rdC; simp [Value.oneCell']) h
theorem rlog_load (w : World) (g : Nat) (cs : Array Value) (hg : w.heap[g]? = some (.cells cs 37 (0, 0))) (h8 : cs.size = 8) : (loadVar 37 ⟨g, 0, none⟩).run Tryz.prog w = .ok (.agg cs) w := by
  have h := run_loadVar_mid (P := Tryz.prog) w g 0 37 cs.toList _ (fun j v hv => by
    rw [Nat.zero_add, cell_of_row w g j cs _ (0, 0) hg]
    simpa using hv) Tryz.underlying37 rfl (by rw [info_rlog, Array.length_toList, h8])
  simpa using h
theorem results_rlog_tmp {fn : Func} {p u : Tmp} (h : fn.results = #[.cell p 37, .tmp u]) (tmps : Array Value) (w : World) (g : Nat) (cs : Array Value)
    (hp : tmps.getD p undef = .pointer (some ⟨g, 0, none⟩)) (hg : w.heap[g]? = some (.cells cs 37 (0, 0))) (h8 : cs.size = 8) :
    (results fn tmps).run Tryz.prog w = .ok (.tuple #[.agg cs, tmps.getD u undef]) w := by
  have hp' : tmps[p]?.getD undef = .pointer (some ⟨g, 0, none⟩) := by simpa using hp
  simp [results, h, hp', asAddr, rlog_load w g cs hg h8]
theorem results_rlog_tmp2 {fn : Func} {p u v : Tmp} (h : fn.results = #[.cell p 37, .tmp u, .tmp v]) (tmps : Array Value) (w : World) (g : Nat) (cs : Array Value)
    (hp : tmps.getD p undef = .pointer (some ⟨g, 0, none⟩)) (hg : w.heap[g]? = some (.cells cs 37 (0, 0))) (h8 : cs.size = 8) :
    (results fn tmps).run Tryz.prog w = .ok (.tuple #[.agg cs, tmps.getD u undef, tmps.getD v undef]) w := by
  have hp' : tmps[p]?.getD undef = .pointer (some ⟨g, 0, none⟩) := by simpa using hp
  simp [results, h, hp', asAddr, rlog_load w g cs hg h8]

theorem three_new (w : World) (A B C : Obj) : (((w.alloc A).alloc B).alloc C).heap[w.heap.size]? = some A ∧ (((w.alloc A).alloc B).alloc C).heap[w.heap.size + 1]? = some B ∧ (((w.alloc A).alloc B).alloc C).heap[w.heap.size + 1 + 1]? = some C ∧ Kp Noone w (((w.alloc A).alloc B).alloc C) ∧ (((w.alloc A).alloc B).alloc C).heap.size = w.heap.size + 3 := by
  have e1 := alloc_size w A
  have e2 := alloc_size (w.alloc A) B
  have e3 := alloc_size ((w.alloc A).alloc B) C
  have h1 := (((Kp.refl Noone (w.alloc A)).alloc B).alloc C).heap (heap_alloc_new w A) id
  have h2 := ((Kp.refl Noone ((w.alloc A).alloc B)).alloc C).heap (heap_alloc_new (w.alloc A) B) id
  have h3 := heap_alloc_new ((w.alloc A).alloc B) C
  rw [e1] at h2 e2
  rw [e2] at h3 e3
  exact ⟨h1, h2, h3, (((Kp.refl _ _).alloc _).alloc _).alloc _, e3⟩
/-- What step answers: the disk turns, the pieces stay where they lie. -/
structure StepTo (P : Nat → Prop) (po : Option Addr) (pc : Nat) (w : World) (R : RLE) (e : Ending) (w' : World) : Prop where
  ex : ∃ ao cap, e = .returned (.tuple #[rlV ao cap po pc R.1, .int .i64 (R.2 : Int)]) ∧ RA P w' ao R.1.d.L.length cap R.1.d.L ∧ Kp Noone w w'
attribute [local irreducible] putD doE putL9

set_option maxHeartbeats 4000000 in
set_option maxRecDepth 100000 in
theorem step_ref (P : Nat → Prop) (ao : Option Addr) (cap : Nat) (po : Option Addr) (pc : Nat) (m : RLog) (s : DS) (o : OpD) (bo : Option Addr) (bm bc : Nat) (ko : Option Addr) (km kc : Nat) (w : World) (h : RA P w ao m.d.L.length cap m.d.L) (hP : ∀ j, w.heap.size ≤ j → P j) (hs : Sim m.d s) (hd : DOk s) (hop : OpOk o 1048576) (hb : BS w bo bm bc o.b) (hk : IS w ko km kc o.keep) (hst : s.steps < 4611686018427387904) :
    Calls Tryz.prog 57 #[rlV ao cap po pc m, opV o bo bm bc ko km kc] w fun e w' => StepTo P po pc w (stepR m o) e w' := by
  obtain ⟨RES, hRES⟩ : ∃ x, Hid (stepR m o = x) := ⟨_, Lib.hid rfl⟩
  rw [hRES.out]
  have HR := hRES.out
  unfold stepR at HR
  have D1 := fun (P' : Nat → Prop) (w' : World) (hr : RA P' w' ao m.d.L.length cap m.d.L) (hp : ∀ j, w'.heap.size ≤ j → P' j) (hb : BS w' bo bm bc o.b) (hk : IS w' ko km kc o.keep) => do_step P' ao cap m.d s o bo bm bc ko km kc w' hr hp hs hd hop hb hk hst
  generalize doE m.d o = r1 at *
  obtain ⟨⟨L, rm, st, fu, dn⟩, lim, ps, sh⟩ := m
  simp only [] at h D1 HR
  unfold opV at D1 ⊢
  unfold rdV rdC at D1
  simp only [] at D1
  unfold rlV rlC
  simp only []
  obtain ⟨hx, ho, hr, kA, eA⟩ := three_new w (.cells #[.slice ao L.length cap, .int .i64 rm, .int .i64 st, .int .i64 fu, .bool dn, .int .i64 (lim : Int), .slice po ps.length pc, .bool sh] 37) (.cells #[.int .i64 o.k, .string o.name, .string o.dest, .slice bo bm bc, .int .i64 o.n, .slice ko km kc] 50) (.cells #[.slice none 0 0, .int .i64 0, .int .i64 0, .int .i64 0, .bool false, .int .i64 0, .slice none 0 0, .bool false] 37)
  have HRR := Lib.hid HR
  clear hRES HR
  go_enter Tryz.func57, Tryz.ntmps57
  go_upto_region 1 with fail
  generalize ((w.alloc (.cells #[.slice ao L.length cap, .int .i64 rm, .int .i64 st, .int .i64 fu, .bool dn, .int .i64 (lim : Int), .slice po ps.length pc, .bool sh] 37)).alloc (.cells #[.int .i64 o.k, .string o.name, .string o.dest, .slice bo bm bc, .int .i64 o.n, .slice ko km kc] 50)).alloc (.cells #[.slice none 0 0, .int .i64 0, .int .i64 0, .int .i64 0, .bool false, .int .i64 0, .slice none 0 0, .bool false] 37) = wA at *
  generalize hgr : w.heap.size + 1 + 1 = gr at *
  generalize hgo : w.heap.size + 1 = go at *
  generalize hgx : w.heap.size = gx at *
  have HP' : Hid (∀ j, wA.heap.size ≤ j → P j ∧ j ≠ gx ∧ j ≠ gr) := Lib.hid (fun j hj => ⟨hP j (by omega), by omega, by omega⟩)
  have HRA := Lib.hid ((h.mono (Q := fun j => P j ∧ j ≠ gx ∧ j ≠ gr) (fun j hj c => ⟨c, by omega, by omega⟩)).keep kA)
  have D1 := D1 (fun j => P j ∧ j ≠ gx ∧ j ≠ gr) wA HRA.out HP'.out (hb.keep kA) (hk.keep kA)
  obtain ⟨⟨y0, y1, y2, y3⟩, ⟨y4, y5, y6, y7⟩, -⟩ := cells_8 hx
  obtain ⟨z0, z1, z2, z3, z4, z5⟩ := cells_six ho
  have HKA := Lib.hid kA
  clear h hb hk kA hP
  go_wp2_with fail
  refine D1.mono ?_
  clear D1
  rintro e w1 ⟨o1, c1, x1o, x1n, x1c, rfl, hra1, k1⟩
  obtain ⟨⟨L1, rm1, st1, fu1, dn1⟩, e1⟩ := r1
  simp only [] at hra1 HRR ⊢
  have kN : Kp Noone w1 (w1.alloc (.cells #[.slice o1 L1.length c1, .int .i64 rm1, .int .i64 st1, .int .i64 fu1, .bool dn1] 26)) := (Kp.refl _ _).alloc _
  have hN := heap_alloc_new w1 (.cells #[.slice o1 L1.length c1, .int .i64 rm1, .int .i64 st1, .int .i64 fu1, .bool dn1] 26)
  have k2 := k1.trans kN
  have hx2 := k2.heap hx id
  have hr2 := k2.heap hr id
  have HRA2 := Lib.hid (hra1.keep kN)
  have HK2 := Lib.hid (HKA.out.trans k2)
  go_upto_region 2 with fail
  clear k1 kN k2 hra1 y0 y1 y2 y3 y4 y5 y6 y7 z0 z1 z2 z3 z4 z5 hx ho hr HRA HKA
  generalize w1.alloc (.cells #[.slice o1 L1.length c1, .int .i64 rm1, .int .i64 st1, .int .i64 fu1, .bool dn1] 26) = w2 at *
  generalize w1.heap.size = gy at *
  obtain ⟨⟨y0, y1, y2, y3, y4⟩, -⟩ := cells_five hN
  have p3 := putD_kp w2 gx o1 c1 ⟨L1, rm1, st1, fu1, dn1⟩
  have hx3 := putD_heap8 o1 c1 ⟨L1, rm1, st1, fu1, dn1⟩ hx2
  have hr3 := p3.heap hr2 (by omega)
  have HRA3 := Lib.hid (HRA2.out.kp p3 (fun j _ c e => c.2.1 e))
  have HK3 := Lib.hid (HK2.out.fin p3 (fun j e => Or.inr (by omega)))
  go_upto_region 3 with (refine wpList_store_disk8 rfl (.tmp 18) (.tmp 17) rfl gx o1 c1 ⟨L1, rm1, st1, fu1, dn1⟩ (by rfl) (by rfl) hx2 ?_)
  clear y0 y1 y2 y3 y4 p3 hx2 hr2 hN HRA2 HK2
  generalize putD w2 gx o1 c1 ⟨L1, rm1, st1, fu1, dn1⟩ = w3 at *
  simp only [] at hx3
  by_cases he : e1 = 2
  · subst he
    have HR2 := HRR.out
    rw [if_pos rfl] at HR2
    subst HR2
    have k4 := (Kp.refl (fun j => j = gx) w3).setCell (p := ⟨gx, 7, none⟩) (fun _ => rfl) (.bool true)
    have hx4 : (w3.setCell ⟨gx, 7, none⟩ (.bool true)).heap[gx]? = some (.cells #[.slice o1 L1.length c1, .int .i64 rm1, .int .i64 st1, .int .i64 fu1, .bool dn1, .int .i64 (lim : Int), .slice po ps.length pc, .bool true] 37 (0, 0)) := (heap_set_cell hx3).trans (by simp)
    have hr4 := k4.heap hr3 (by omega)
    have HRA4 := Lib.hid (HRA3.out.kp k4 (fun j _ c e => c.2.1 e))
    have HK4 := Lib.hid (HK3.out.fin k4 (fun j e => Or.inr (by omega)))
    obtain ⟨-, ⟨-, -, -, y7⟩, yf⟩ := cells_8 hx3
    have yf7 := yf 7
    go_upto_region 5 with fail
    clear y7 yf yf7 k4 hx3 hr3 HRA3 HK3
    generalize w3.setCell ⟨gx, 7, none⟩ (.bool true) = w4 at *
    obtain ⟨⟨y0, y1, y2, y3⟩, ⟨y4, y5, y6, y7⟩, -⟩ := cells_8 hx4
    go_wp2_with (refine wpList_store_rlog rfl (.tmp 4) (.tmp 22) rfl gr o1 c1 po pc ⟨⟨L1, rm1, st1, fu1, dn1⟩, lim, ps, true⟩ (by rfl) (by rfl) hr4 ?_)
    refine bodyPost_ret (v := .tuple #[rlV o1 c1 po pc ⟨⟨L1, rm1, st1, fu1, dn1⟩, lim, ps, true⟩, .int .i64 2]) (by rw [results_rlog_tmp rfl _ _ gr _ rfl (putL9_heap o1 c1 po pc ⟨⟨L1, rm1, st1, fu1, dn1⟩, lim, ps, true⟩ hr4) rfl]; rfl) rfl ?_
    exact ⟨⟨o1, c1, rfl, (HRA4.out.kp (putL9_kp _ _ _ _ _ _ _) (fun j _ c e => c.2.2 e)).mono (fun j _ c => c.1), HK4.out.fin (putL9_kp _ _ _ _ _ _ _) (fun j e => Or.inr (by omega))⟩⟩
  · have HR2 := HRR.out
    rw [if_neg he] at HR2
    subst HR2
    have n0 : ((e1 : Int) == 2) = false := by simp; omega
    obtain ⟨⟨y0, y1, y2, y3⟩, ⟨y4, y5, y6, y7⟩, -⟩ := cells_8 hx3
    clear he
    go_wp2_with (refine wpList_store_rlog rfl (.tmp 4) (.tmp 22) rfl gr o1 c1 po pc ⟨⟨L1, rm1, st1, fu1, dn1⟩, lim, ps, sh⟩ (by rfl) (by rfl) hr3 ?_)
    refine bodyPost_ret (v := .tuple #[rlV o1 c1 po pc ⟨⟨L1, rm1, st1, fu1, dn1⟩, lim, ps, sh⟩, .int .i64 (e1 : Int)]) (by rw [results_rlog_tmp rfl _ _ gr _ rfl (putL9_heap o1 c1 po pc ⟨⟨L1, rm1, st1, fu1, dn1⟩, lim, ps, sh⟩ hr3) rfl]; rfl) rfl ?_
    exact ⟨⟨o1, c1, rfl, (HRA3.out.kp (putL9_kp _ _ _ _ _ _ _) (fun j _ c e => c.2.2 e)).mono (fun j _ c => c.1), HK3.out.fin (putL9_kp _ _ _ _ _ _ _) (fun j e => Or.inr (by omega))⟩⟩

end Go.Proofs.YtigdhdclfdojgaaGreat

