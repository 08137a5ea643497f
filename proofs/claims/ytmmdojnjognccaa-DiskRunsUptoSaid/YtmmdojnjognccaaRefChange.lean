/-
  THE WALK of the document's change.
-/
import Derived.Test.YtmmdojnjognccaaRefWhy
namespace Go.Proofs.Ytmmdojnjognccaa
open Go.RowKit

def changeL (L : Img) (o : OpD) : Img :=
  if o.k = 0 then withL L (o.name, ⟨(get0 o.name L).data ++ o.b, (get0 o.name L).safe⟩)
  else if o.k = 1 then withL L (o.name, ⟨(get0 o.name L).data, (get0 o.name L).data.length⟩)
  else if o.k = 2 then withL L (o.name, cutA (get0 o.name L) o.n)
  else if o.k = 3 then withL (withoutL L o.name) (o.dest, get0 o.name L)
  else withoutL L o.name
/-- What change asks. -/
structure ChOk (L : Img) (o : OpD) : Prop where
  k : 0 ≤ o.k ∧ o.k ≤ 4
  there : o.k ≠ 0 → alGet o.name L ≠ none
  cut : o.k = 2 → 0 ≤ o.n ∧ o.n ≤ (get0 o.name L).data.length
  app : o.k = 0 → (get0 o.name L).data.length + o.b.length ≤ 4194304

/-- Ahead of the last With. -/
structure ChT (P : Nat → Prop) (gd gr ga : Nat) (room steps fuse : Int) (down : Bool) (RESL : Img) (w wt : World) : Prop where
  ex : ∃ (ao1 : Option Addr) (cap1 : Nat) (L1 : Img) (k1 : ByteArray) (xo : Option Addr) (xm xc : Nat) (d1 : List UInt8) (s1 : Int),
    wt.heap[gd]? = some (.cells #[.slice ao1 L1.length cap1, .int .i64 room, .int .i64 steps, .int .i64 fuse, .bool down] 56 (0, 0)) ∧
    wt.heap[gr]? = some (.cells #[.slice none 0 0, .int .i64 0, .int .i64 0, .int .i64 0, .bool false] 56 (0, 0)) ∧
    wt.heap[ga]? = some (.cells #[.string k1, .slice xo xm xc, .int .i64 s1] 46 (0, 0)) ∧
    RA (fun i => P i ∧ i ≠ gd ∧ i ≠ gr ∧ i ≠ ga) wt ao1 L1.length cap1 L1 ∧ DataP (fun i => P i ∧ i ≠ gd ∧ i ≠ gr ∧ i ≠ ga) wt xo xm xc d1 ∧ Kp Noone w wt ∧ L1.length ≤ 1048576 ∧ RESL = withL L1 (k1, ⟨d1, s1⟩) ∧ ga < wt.heap.size

theorem get0_len {L : Img} (h : L.Fit) (k : ByteArray) : 0 ≤ (get0 k L).safe ∧ (get0 k L).safe ≤ (get0 k L).data.length ∧ (get0 k L).data.length ≤ 140737488355328 := by
  unfold get0
  cases hg : alGet k L with
  | none => simp
  | some a => exact h _ (alGet_mem hg)
theorem withoutL_le (L : Img) (k : ByteArray) : (withoutL L k).length ≤ L.length := by
  have h := withoutL_len k L L.length (Nat.le_refl _)
  rwa [List.take_length] at h

set_option maxHeartbeats 4000000 in
set_option maxRecDepth 100000 in
theorem change_any (P : Nat → Prop) (ao : Option Addr) (cap : Nat) (m : RD) (o : OpD) (bo : Option Addr) (bm bc : Nat) (ko : Option Addr) (km kc : Nat) (w : World) (h : RA P w ao m.L.length cap m.L) (hP : ∀ j, w.heap.size ≤ j → P j) (hok : ROk m) (hop : OpOk o 1048576) (hb : BS w bo bm bc o.b) (hch : ChOk m.L o) :
    Calls Try.prog 45 #[rdV ao cap m, opV o bo bm bc ko km kc] w fun e w' => ∃ ao' cap', e = .returned (rdV ao' cap' { m with L := changeL m.L o }) ∧ RA P w' ao' (changeL m.L o).length cap' (changeL m.L o) ∧ Kp Noone w w' := by
  obtain ⟨i0, hi, hz0, hz1, hz2⟩ := info_parts info_u8
  obtain ⟨L, room, steps, fuse, down⟩ := m
  obtain ⟨K, nm, tn, b, N, keep⟩ := o
  obtain ⟨n, hn⟩ : ∃ n, L.length = n := ⟨_, rfl⟩
  have h64 := hok.len
  have hfit := hok.fit
  have hN := hop.n
  have hlb := hb.len
  obtain ⟨hK, hth, hcu, hap⟩ := hch
  have hg0 := get0_len hok.fit nm
  simp only [] at h h64 hfit hN hK hth hcu hap hg0 hb hlb
  rw [hn] at h h64
  obtain ⟨RES, hRES⟩ : ∃ x, Hid (changeL L ⟨K, nm, tn, b, N, keep⟩ = x) := ⟨_, Lib.hid rfl⟩
  simp only []
  rw [hRES.out]
  have hA := heap_alloc_new w (.cells #[.slice ao n cap, .int .i64 room, .int .i64 steps, .int .i64 fuse, .bool down] 56)
  have eA := alloc_size w (.cells #[.slice ao n cap, .int .i64 room, .int .i64 steps, .int .i64 fuse, .bool down] 56)
  have kA : Kp Noone w ((w.alloc (.cells #[.slice ao n cap, .int .i64 room, .int .i64 steps, .int .i64 fuse, .bool down] 56)).alloc (.cells #[.int .i64 K, .string nm, .string tn, .slice bo bm bc, .int .i64 N, .slice ko km kc] 52)) := ((Kp.refl _ _).alloc _).alloc _
  have hdA := ((Kp.refl Noone (w.alloc (.cells #[.slice ao n cap, .int .i64 room, .int .i64 steps, .int .i64 fuse, .bool down] 56))).alloc (.cells #[.int .i64 K, .string nm, .string tn, .slice bo bm bc, .int .i64 N, .slice ko km kc] 52)).heap hA id
  have hoA := heap_alloc_new (w.alloc (.cells #[.slice ao n cap, .int .i64 room, .int .i64 steps, .int .i64 fuse, .bool down] 56)) (.cells #[.int .i64 K, .string nm, .string tn, .slice bo bm bc, .int .i64 N, .slice ko km kc] 52)
  have eB := alloc_size (w.alloc (.cells #[.slice ao n cap, .int .i64 room, .int .i64 steps, .int .i64 fuse, .bool down] 56)) (.cells #[.int .i64 K, .string nm, .string tn, .slice bo bm bc, .int .i64 N, .slice ko km kc] 52)
  rw [eA] at hoA eB
  unfold rdV rdC opV
  simp only [hn]
  go_enter Try.func45, Try.ntmps45
  go_upto_region 1 with fail
  generalize (w.alloc (.cells #[.slice ao n cap, .int .i64 room, .int .i64 steps, .int .i64 fuse, .bool down] 56)).alloc (.cells #[.int .i64 K, .string nm, .string tn, .slice bo bm bc, .int .i64 N, .slice ko km kc] 52) = wA at *
  have hrB := heap_alloc_new wA (.cells #[.slice none 0 0, .int .i64 0, .int .i64 0, .int .i64 0, .bool false] 56)
  have kB : Kp Noone wA (wA.alloc (.cells #[.slice none 0 0, .int .i64 0, .int .i64 0, .int .i64 0, .bool false] 56)) := (Kp.refl _ _).alloc _
  have esB := alloc_size wA (.cells #[.slice none 0 0, .int .i64 0, .int .i64 0, .int .i64 0, .bool false] 56)
  rw [eB] at hrB esB
  have hdB := kB.heap hdA id
  have hoB := kB.heap hoA id
  have KB := kA.trans kB
  generalize wA.alloc (.cells #[.slice none 0 0, .int .i64 0, .int .i64 0, .int .i64 0, .bool false] 56) = wB at *
  have haC := heap_alloc_new wB (.cells #[.string nm, .slice none 0 0, .int .i64 0] 46)
  have kC : Kp Noone wB (wB.alloc (.cells #[.string nm, .slice none 0 0, .int .i64 0] 46)) := (Kp.refl _ _).alloc _
  have esC := alloc_size wB (.cells #[.string nm, .slice none 0 0, .int .i64 0] 46)
  rw [esB] at haC esC
  have hdC := kC.heap hdB id
  have hoC := kC.heap hoB id
  have hrC := kC.heap hrB id
  have KC := Lib.hid (KB.trans kC)
  obtain ⟨z0, z1, z2, z3, z4, z5⟩ := cells_six hoB
  have HL := Lib.hid (h.mono (Q := fun j => P j ∧ j < w.heap.size) (fun i hi c => ⟨c, hi⟩))
  have HB := Lib.hid (hb.dataP (P := fun j => j < w.heap.size) (fun j hj => hj))
  have HP := Lib.hid hP
  have HF := Lib.hid hfit
  clear h hb hP hA eA hok hop kA hdA hoA eB hrB kB hdB KB kC hfit
  go_upto_region 2 with fail
  clear z0 z1 z2 z3 z4 z5 hoB
  generalize wB.alloc (.cells #[.string nm, .slice none 0 0, .int .i64 0] 46) = wC at *
  generalize hgr : w.heap.size + 1 + 1 = gr at *
  generalize hga : gr + 1 = ga at *
  obtain ⟨⟨q0, q1, q2, q3, q4⟩, -⟩ := cells_five hdC
  obtain ⟨z0, z1, z2, z3, z4, z5⟩ := cells_six hoC
  go_wp2_with fail
  refine (at_ref _ ao n cap L room steps fuse down nm wC (HL.out.keep KC.out) (by omega)).mono ?_
  rintro e w2 ⟨rfl, k2⟩
  have hd2 := k2.heap hdC id
  have ho2 := k2.heap hoC id
  have hr2 := k2.heap hrC id
  have ha2 := k2.heap haC id
  have HL2 := Lib.hid (HL.out.keep (KC.out.trans k2))
  have HB2 := Lib.hid (HB.out.keep (KC.out.trans k2))
  have HK2 := Lib.hid (KC.out.trans k2)
  have hsz2 : ga < w2.heap.size := (Array.getElem?_eq_some_iff.1 ha2).1
  clear q0 q1 q2 q3 q4 z0 z1 z2 z3 z4 z5 k2 hdC hoC hrC haC HL HB KC esC
  obtain ⟨a0, a1, a2, af0, af1, af2⟩ := cells_three ha2
  obtain ⟨⟨q0, q1, q2, q3, q4⟩, qf⟩ := cells_five hd2
  obtain ⟨D, hD⟩ : ∃ x, get0 nm L = x := ⟨_, rfl⟩
  obtain ⟨d, sf⟩ := D
  rw [hD] at hg0 hcu hap
  simp only [] at hg0 hcu hap
  have hHT := Lib.hid hth
  generalize hpl : atL L nm = pl at *
  have hcase : pl = -1 ∨ ∃ i : Nat, pl = (i : Int) := by
    by_cases hz : alGet nm L = none
    · exact Or.inl (by rw [← hpl]; exact atL_none hz)
    · obtain ⟨i, _, hat, _⟩ := atL_some hz
      exact Or.inr ⟨i, by rw [← hpl]; exact hat⟩
  go_upto_if 15 with fail
  go_cut [] from 14 to 20 (fun wx => Kp (fun i => i = ga) w2 wx ∧ ∃ xo xm xc, wx.heap[ga]? = some (.cells #[.string nm, .slice xo xm xc, .int .i64 sf] 46 (0, 0)) ∧ DataP (fun j => P j ∧ j < w.heap.size) wx xo xm xc d)
  case first =>
    by_cases hz : alGet nm L = none
    · have hat := atL_none hz
      have hde : d = [] ∧ sf = 0 := by
        unfold get0 at hD
        rw [hz] at hD
        simp only [Option.getD_none, AreaP.mk.injEq] at hD
        exact ⟨hD.1.symm, hD.2.symm⟩
      obtain ⟨rfl, rfl⟩ := hde
      clear hD hcu hap hth hRES hz
      rw [hpl] at hat
      subst hat
      clear hpl hcase
      go_wp2_with fail
      go_meet
      case rel => exact ⟨Kp.refl _ _, none, 0, 0, ha2, ⟨⟨rfl, Nat.le_refl _, by simp [maxLen], Row.nil _ _⟩, fun hx => absurd rfl hx⟩⟩
    · obtain ⟨i, hi', hat, hnx, hget⟩ := atL_some hz
      obtain ⟨gb, off, xo, xm, xc, rfl, hgl, hPg, c0, c1, c2, hda⟩ := HL2.out.get i hi'
      have hDx : L[i].2 = ⟨d, sf⟩ := by rw [← hD]; unfold get0; rw [hget]; rfl
      rw [hnx] at c0
      rw [hDx] at c2 hda
      simp only [] at c2 hda
      rw [hpl] at hat
      subst hat
      clear hpl hcase
      have hin : i < n := by omega
      have HDA := Lib.hid hda
      have kS : Kp (fun i => i = ga) w2 (((w2.setCell ⟨ga, 0, none⟩ (.string nm)).setCell ⟨ga, 1, none⟩ (.slice xo xm xc)).setCell ⟨ga, 2, none⟩ (.int .i64 sf)) := ((((Kp.refl (fun j => j = ga) w2).setCell (fun _ => rfl) _).setCell (fun _ => rfl) _).setCell (fun _ => rfl) _)
      have R : Hid (Kp (fun i => i = ga) w2 (((w2.setCell ⟨ga, 0, none⟩ (.string nm)).setCell ⟨ga, 1, none⟩ (.slice xo xm xc)).setCell ⟨ga, 2, none⟩ (.int .i64 sf)) ∧ ∃ xo' xm' xc', (((w2.setCell ⟨ga, 0, none⟩ (.string nm)).setCell ⟨ga, 1, none⟩ (.slice xo xm xc)).setCell ⟨ga, 2, none⟩ (.int .i64 sf)).heap[ga]? = some (.cells #[.string nm, .slice xo' xm' xc', .int .i64 sf] 46 (0, 0)) ∧ DataP (fun j => P j ∧ j < w.heap.size) (((w2.setCell ⟨ga, 0, none⟩ (.string nm)).setCell ⟨ga, 1, none⟩ (.slice xo xm xc)).setCell ⟨ga, 2, none⟩ (.int .i64 sf)) xo' xm' xc' d) := Lib.hid
        ⟨kS, xo, xm, xc, (heap_set_cell (heap_set_cell (heap_set_cell ha2))).trans (by simp), HDA.out.kp kS (fun j _ c e => by have := c.2; omega)⟩
      clear hda hDx hget hz hD hcu hap hth hRES hnx kS
      go_wp2_with fail
      go_meet
      case rel => exact R.out
  case rest =>
  obtain ⟨kx, xo, xm, xc, hac, hdc⟩ := hcut
  have hgd1 : w.heap.size ≠ ga ∧ w.heap.size ≠ gr ∧ gr ≠ ga ∧ w.heap.size + 1 ≠ ga ∧ w.heap.size < gr ∧ gr < ga := by omega
  have hdw := kx.heap hd2 hgd1.1
  have how := kx.heap ho2 hgd1.2.2.2.1
  have hrw := kx.heap hr2 hgd1.2.2.1
  have hszc : ga < wc.heap.size := Nat.lt_of_lt_of_le hsz2 kx.size
  have HLC := Lib.hid ((HL2.out.kp kx (fun j _ c e => by have := c.2; omega)).mono (Q := fun i => P i ∧ i ≠ w.heap.size ∧ i ≠ gr ∧ i ≠ ga) (fun j _ c => ⟨c.1, by have := c.2; omega, by have := c.2; omega, by have := c.2; omega⟩))
  have HDC := Lib.hid (hdc.mono (Q := fun i => P i ∧ i ≠ w.heap.size ∧ i ≠ gr ∧ i ≠ ga) (fun j _ c => ⟨c.1, by have := c.2; omega, by have := c.2; omega, by have := c.2; omega⟩))
  have HBC : Hid (BS wc bo bm bc b) := Lib.hid (HB2.out.kp kx (fun j _ c e => by omega)).1
  have HKC : Hid (Kp Noone w wc) := Lib.hid (HK2.out.fin kx (fun j c => Or.inr (by omega)))
  have hRES2 := hRES.out
  unfold changeL at hRES2
  simp only [hD] at hRES2
  have HRES := Lib.hid hRES2
  have hxm : d.length = xm := hdc.1.len
  clear hRES2 hRES hd2 ho2 hr2 ha2 kx hdc a0 a1 a2 af0 af1 af2 q0 q1 q2 q3 q4 qf HL2 HB2 HK2 hcase hpl hsz2
  obtain ⟨a0, a1, a2, af0, af1, af2⟩ := cells_three hac
  obtain ⟨⟨q0, q1, q2, q3, q4⟩, qf⟩ := cells_five hdw
  obtain ⟨z0, z1, z2, z3, z4, z5⟩ := cells_six how
  have qf0 := qf 0
  rcases (show K = 4 ∨ K = 0 ∨ K = 1 ∨ K = 2 ∨ K = 3 by omega) with rfl | rfl | rfl | rfl | rfl
  · have hR : Hid (RES = withoutL L nm) := Lib.hid (by have h := HRES.out; simp at h; exact h.symm)
    have hwo := without_any (fun i => P i ∧ i ≠ w.heap.size ∧ i ≠ gr ∧ i ≠ ga) ao n cap L nm wc HLC.out (fun j hj => ⟨HP.out j (by have := HKC.out.size; omega), by omega, by omega, by omega⟩) (by omega)
    rw [← hR.out] at hwo
    go_wp2_with fail
    refine hwo.mono ?_
    clear hwo
    rintro e w3 ⟨ao', cap', rfl, hra, k3⟩
    have hd3 := k3.heap hdw id
    have hr3 := k3.heap hrw id
    obtain ⟨⟨u0, -, -, -, -⟩, uf⟩ := cells_five hd3
    have uf0 := uf 0
    have kS : Kp (fun i => i = w.heap.size) w3 (w3.setCell ⟨w.heap.size, 0, none⟩ (.slice ao' RES.length cap')) := (Kp.refl (fun i => i = w.heap.size) w3).setCell (fun _ => rfl) _
    have hd4 : (w3.setCell ⟨w.heap.size, 0, none⟩ (.slice ao' RES.length cap')).heap[w.heap.size]? = some (.cells #[.slice ao' RES.length cap', .int .i64 room, .int .i64 steps, .int .i64 fuse, .bool down] 56 (0, 0)) := (heap_set_cell hd3).trans (by simp)
    have hr4 := kS.heap hr3 (by omega)
    have HRA := Lib.hid (hra.kp kS (fun j _ c e => c.2.1 e))
    have HK4 : Hid (Kp Noone w (w3.setCell ⟨w.heap.size, 0, none⟩ (.slice ao' RES.length cap'))) := Lib.hid ((HKC.out.trans k3).fin kS (fun j c => Or.inr (Nat.le_of_eq c.symm)))
    clear hra k3 hd3 hr3 uf kS q0 q1 q2 q3 q4 qf qf0 z0 z1 z2 z3 z4 z5 a0 a1 a2 af0 af1 af2
    go_upto_region 19 with fail
    generalize w3.setCell ⟨w.heap.size, 0, none⟩ (.slice ao' RES.length cap') = wt at *
    obtain ⟨⟨q0, q1, q2, q3, q4⟩, -⟩ := cells_five hd4
    go_wp2_with (refine wpList_store_disk (by dsimp only) (.tmp 4) (.tmp 74) (by dsimp only) gr ao' cap' ⟨RES, room, steps, fuse, down⟩ (by rfl) (by rfl) hr4 ?_)
    refine bodyPost_ret (v := rdV ao' cap' ⟨RES, room, steps, fuse, down⟩) (results_cell_row (ty := 56) rfl _ _ gr _ _ _ _ rfl (putD_heap ao' cap' ⟨RES, room, steps, fuse, down⟩ hr4) Try.underlying56 rfl info_disk) rfl ?_
    exact ⟨ao', cap', rfl, (HRA.out.kp (putD_kp _ _ _ _ _) (fun i _ c e => c.2.2.1 e)).mono (fun i _ c => c.1), HK4.out.fin (putD_kp _ _ _ _ _) (fun j c => Or.inr (by omega))⟩
  case' inr.inl =>
    have hE := HRES.out
    simp only [if_true] at hE
    have hap2 := hap rfl
    have hC : Calls Try.prog 11 #[.slice xo xm xc] wc.drew fun e w8 => e = .returned (.slice (some ⟨wc.heap.size, 0, none⟩) xm xm) ∧ Kp Noone wc w8 ∧ Own (fun i => i = wc.heap.size) w8 5 1 (some ⟨wc.heap.size, 0, none⟩) xm xm (bv d) := by
      refine (copy_exact xo xm xc d wc.drew (HDC.out.1.keep ((Kp.refl _ _).drew)) (by omega)).mono ?_
      rintro e w8 ⟨he, hw8⟩
      obtain ⟨hbc, kw⟩ := copied2 hw8 hxm (by unfold maxLen; omega)
      refine ⟨he, ((Kp.refl Noone wc).drew).trans kw, ?_⟩
      have hcp := (congrArg (fun x => x.heap[wc.heap.size]?) hw8).trans (heap_alloc_new wc.drew _)
      exact Own.fresh rfl hcp (by rw [length_bv, hxm, Nat.mul_one]) (by unfold maxLen; omega)
    have h8 : ∀ w8, Kp Noone wc w8 → w8.cell? ⟨w.heap.size + 1, 3, none⟩ = some (.slice bo bm bc) := fun w8 k => (cells_six (k.heap how id)).2.2.2.1
    have h9 : ∀ w8 w9, Kp Noone wc w8 → Kp (fun i => i = wc.heap.size) w8 w9 → w9.cell? ⟨ga, 1, none⟩ = some (.slice xo xm xc) ∧ w9.frozen? ⟨ga, 1, none⟩ = false := fun w8 w9 k8 k9 => by
      obtain ⟨-, y1, -, -, yf, -⟩ := cells_three (k9.heap (k8.heap hac id) (by omega))
      exact ⟨y1, yf⟩
    have hX : ∀ w8 w9 ao' cap', Kp Noone wc w8 → Kp (fun i => i = wc.heap.size) w8 w9 → Own (Ex (fun i => i = wc.heap.size) w8 w9) w9 5 1 ao' (xm + bm) cap' (bv d ++ bv b) →
        ChT P w.heap.size gr ga room steps fuse down RES w (w9.setCell ⟨ga, 1, none⟩ (.slice ao' (xm + bm) cap')) := fun w8 w9 ao' cap' k8 k9 ho => by
      have kS : Kp (fun i => i = ga) w9 (w9.setCell ⟨ga, 1, none⟩ (.slice ao' (xm + bm) cap')) := (Kp.refl (fun i => i = ga) w9).setCell (fun _ => rfl) _
      have kk : Kp Noone wc w9 := k8.fin k9 (fun j c => Or.inr (Nat.le_of_eq c.symm))
      have ha9 := kk.heap hac id
      rw [bv_append] at ho
      have hd9 : DataP (fun i => P i ∧ i ≠ w.heap.size ∧ i ≠ gr ∧ i ≠ ga) w9 ao' (xm + bm) cap' (d ++ b) := ho.dataP.mono (fun i _ c => by
        have hsz := k8.size
        have hi : wc.heap.size ≤ i := by
          rcases c with c | c
          · exact Nat.le_of_eq c.symm
          · omega
        exact ⟨HP.out _ (by omega), by omega, by omega, by omega⟩)
      exact ⟨⟨ao, cap, L, nm, ao', xm + bm, cap', d ++ b, sf, by rw [hn]; exact kS.heap (kk.heap hdw id) hgd1.1, kS.heap (kk.heap hrw id) hgd1.2.2.1, (heap_set_cell ha9).trans (by simp), by rw [hn]; exact (HLC.out.keep kk).kp kS (fun j _ c e => c.2.2.2 e), hd9.kp kS (fun j _ c e => c.2.2.2 e), (HKC.out.trans kk).fin kS (fun j c => Or.inr (by omega)), by omega, hE.symm, by have := kk.size; have := kS.size; omega⟩⟩
    have HBB := Lib.hid HBC.out.row
    go_upto_region 7 with fail
    clear q0 q1 q2 q3 q4 qf qf0 hdw how hrw
    apply wp_region_to (G := fun _ _ wt => ChT P w.heap.size gr ga room steps fuse down RES w wt)
    case h =>
      go_region_law (first
        | (refine step_append_gen rfl (.tmp 27) (.tmp 29) 22 (by dsimp only) 5 i0 (.int .u8 0) 1 1 Try.underlying22 hi hz0 hz1 hz2 rfl (some ⟨wc.heap.size, 0, none⟩) xm xm (by rfl) bo bm bc (by rfl) (fun i => i = wc.heap.size) (bv d) how8 (bv b) (by rw [length_bv, hlb, Nat.mul_one]) (HBB.out.keep k8) (bv_one _) (by omega) (by unfold maxLen; omega) ?_; intro ao' cap' w9 ho9 k9; obtain ⟨hcA, hcB⟩ := h9 _ _ k8 k9)
        | (go_simp; go_at_call 11; refine hC.mono ?_; rintro e w8 ⟨rfl, k8, how8⟩; have hcC := h8 _ k8))
      all_goals exact NoPanic.normal ⟨rfl, ao', cap', rfl, hX _ _ _ _ k8 k9 ho9⟩
    case' k =>
      intro ao' cap' wt hG
      have hT := Lib.hid hG
      clear hG hC h8 h9 hX a0 a1 a2 af0 af1 af2 z0 z1 z2 z3 z4 z5
      go_upto_region 20 with fail
  case' inr.inr.inl =>
    have hE := HRES.out
    simp only [Int.reduceEq, if_false, if_true] at hE
    have hw2 : (wc.setCell ⟨ga, 2, none⟩ (.int .i64 (xm : Int))).heap[ga]? = some (.cells #[.string nm, .slice xo xm xc, .int .i64 (xm : Int)] 46 (0, 0)) := (heap_set_cell hac).trans (by simp)
    have kS : Kp (fun i => i = ga) wc (wc.setCell ⟨ga, 2, none⟩ (.int .i64 (xm : Int))) := (Kp.refl (fun i => i = ga) wc).setCell (fun _ => rfl) _
    have hT := Lib.hid (ChT.mk (P := P) (gd := w.heap.size) (gr := gr) (RESL := RES) (w := w) (wt := wc.setCell ⟨ga, 2, none⟩ (.int .i64 (xm : Int))) ⟨ao, cap, L, nm, xo, xm, xc, d, (xm : Int), by rw [hn]; exact kS.heap hdw hgd1.1, kS.heap hrw hgd1.2.2.1, hw2, by rw [hn]; exact HLC.out.kp kS (fun j _ c e => c.2.2.2 e), HDC.out.kp kS (fun j _ c e => c.2.2.2 e), HKC.out.fin kS (fun j c => Or.inr (by omega)), by omega, by rw [← hE, hxm], Nat.lt_of_lt_of_le hszc kS.size⟩)
    clear hE hw2 kS
    go_upto_region 20 with fail
    clear a0 a1 a2 af0 af1 af2 q0 q1 q2 q3 q4 qf qf0 z0 z1 z2 z3 z4 z5
    generalize wc.setCell ⟨ga, 2, none⟩ (.int .i64 (xm : Int)) = wt at *
  case' inr.inr.inr.inl =>
    have hE := HRES.out
    simp only [Int.reduceEq, if_false, if_true] at hE
    have hcu2 := hcu rfl
    obtain ⟨q, rfl⟩ : ∃ q : Nat, N = (q : Int) := ⟨N.toNat, by omega⟩
    have hqm : q ≤ xm := by omega
    have hxc := HDC.out.1.le
    have hx0 : (0 : Int) ≤ (q : Int) := by omega
    have hx1 : (q : Int) ≤ (xc : Int) := by omega
    have hx2 : q ≤ xc := by omega
    have htl : (d.take q).length = q := by rw [List.length_take]; omega
    have hC : Calls Try.prog 11 #[.slice xo q xc] wc fun e w8 => e = .returned (.slice (some ⟨wc.heap.size, 0, none⟩) q q) ∧ Kp Noone wc w8 ∧ DataP (fun i => P i ∧ i ≠ w.heap.size ∧ i ≠ gr ∧ i ≠ ga) w8 (some ⟨wc.heap.size, 0, none⟩) q q (d.take q) := by
      refine (copy_exact xo q xc (d.take q) wc (HDC.out.1.fore hqm) (by omega)).mono ?_
      rintro e w8 ⟨he, hw8⟩
      obtain ⟨hbc, kw⟩ := copied2 hw8 htl (by unfold maxLen; omega)
      refine ⟨he, kw, ?_⟩
      have hcp := (congrArg (fun x => x.heap[wc.heap.size]?) hw8).trans (heap_alloc_new wc _)
      have h1 := (Array.getElem?_eq_some_iff.1 hcp).1
      exact (show DataP (fun i => i = wc.heap.size) w8 (some ⟨wc.heap.size, 0, none⟩) q q (d.take q) from ⟨hbc, fun _ a ha => by cases ha; exact ⟨rfl, h1⟩⟩).mono (fun i _ e => by
        subst e
        exact ⟨HP.out _ (by omega), by omega, by omega, by omega⟩)
    have HE := Lib.hid hE
    clear hE
    go_wp2_with fail
    refine hC.mono ?_
    clear hC
    rintro e w3 ⟨rfl, k3, hd3⟩
    have ha3 := k3.heap hac id
    obtain ⟨y0, y1, y2, yf0, yf1, yf2⟩ := cells_three ha3
    have kS : Kp (fun i => i = ga) w3 (w3.setCell ⟨ga, 1, none⟩ (.slice (some ⟨wc.heap.size, 0, none⟩) q q)) := (Kp.refl (fun i => i = ga) w3).setCell (fun _ => rfl) _
    have ha4 : (w3.setCell ⟨ga, 1, none⟩ (.slice (some ⟨wc.heap.size, 0, none⟩) q q)).heap[ga]? = some (.cells #[.string nm, .slice (some ⟨wc.heap.size, 0, none⟩) q q, .int .i64 sf] 46 (0, 0)) := (heap_set_cell ha3).trans (by simp)
    have hd4 := kS.heap (k3.heap hdw id) hgd1.1
    have hr4 := kS.heap (k3.heap hrw id) hgd1.2.2.1
    have ho4 := kS.heap (k3.heap how id) hgd1.2.2.2.1
    have HDA := Lib.hid (hd3.kp kS (fun j _ c e => c.2.2.2 e))
    have HLA := Lib.hid ((HLC.out.keep k3).kp kS (fun j _ c e => c.2.2.2 e))
    have HK4 : Hid (Kp Noone w (w3.setCell ⟨ga, 1, none⟩ (.slice (some ⟨wc.heap.size, 0, none⟩) q q))) := Lib.hid ((HKC.out.trans k3).fin kS (fun j c => Or.inr (by omega)))
    have hs4 : ga < (w3.setCell ⟨ga, 1, none⟩ (.slice (some ⟨wc.heap.size, 0, none⟩) q q)).heap.size := (Array.getElem?_eq_some_iff.1 ha4).1
    clear hd3 k3 kS ha3 q0 q1 q2 q3 q4 qf qf0 z0 z1 z2 z3 z4 z5 a0 a1 a2 af0 af1 af2
    go_upto_region 12 with fail
    clear y0 y1 y2 yf0 yf1 yf2
    generalize w3.setCell ⟨ga, 1, none⟩ (.slice (some ⟨wc.heap.size, 0, none⟩) q q) = w4 at *
    obtain ⟨z0, z1, z2, z3, z4, z5⟩ := cells_six ho4
    obtain ⟨a0, a1, a2, af0, af1, af2⟩ := cells_three ha4
    by_cases hsq : sf > (q : Int)
    case' pos =>
      have kS : Kp (fun i => i = ga) w4 (w4.setCell ⟨ga, 2, none⟩ (.int .i64 (q : Int))) := (Kp.refl (fun i => i = ga) w4).setCell (fun _ => rfl) _
      have hT := Lib.hid (ChT.mk (P := P) (gd := w.heap.size) (gr := gr) (RESL := RES) (w := w) (wt := w4.setCell ⟨ga, 2, none⟩ (.int .i64 (q : Int))) ⟨ao, cap, L, nm, some ⟨wc.heap.size, 0, none⟩, q, q, d.take q, (q : Int), by rw [hn]; exact kS.heap hd4 hgd1.1, kS.heap hr4 hgd1.2.2.1, (heap_set_cell ha4).trans (by simp), by rw [hn]; exact HLA.out.kp kS (fun j _ c e => c.2.2.2 e), HDA.out.kp kS (fun j _ c e => c.2.2.2 e), HK4.out.fin kS (fun j c => Or.inr (by omega)), by omega, by
        rw [← HE.out]; unfold cutA; simp only [Int.toNat_natCast]; rw [show min sf (q : Int) = (q : Int) by omega], Nat.lt_of_lt_of_le hs4 kS.size⟩)
      clear kS hd4 hr4 ho4 hs4
      go_upto_region 20 with fail
      clear a0 a1 a2 af0 af1 af2 z0 z1 z2 z3 z4 z5 ha4
      generalize w4.setCell ⟨ga, 2, none⟩ (.int .i64 (q : Int)) = wt at *
    case' neg =>
      have hT := Lib.hid (ChT.mk (P := P) (gd := w.heap.size) (gr := gr) (RESL := RES) (w := w) (wt := w4) ⟨ao, cap, L, nm, some ⟨wc.heap.size, 0, none⟩, q, q, d.take q, sf, by rw [hn]; exact hd4, hr4, ha4, by rw [hn]; exact HLA.out, HDA.out, HK4.out, by omega, by
        rw [← HE.out]; unfold cutA; simp only [Int.toNat_natCast]; rw [show min sf (q : Int) = sf by omega], hs4⟩)
      clear hd4 hr4 ho4 hs4
      go_upto_region 20 with fail
      clear a0 a1 a2 af0 af1 af2 z0 z1 z2 z3 z4 z5 ha4
  case' inr.inr.inr.inr =>
    have hE := HRES.out
    simp only [Int.reduceEq, if_false, if_true] at hE
    have hwo := without_any (fun i => P i ∧ i ≠ w.heap.size ∧ i ≠ gr ∧ i ≠ ga) ao n cap L nm wc HLC.out (fun j hj => ⟨HP.out j (by omega), by omega, by omega, by omega⟩) (by omega)
    have hle := withoutL_le L nm
    generalize withoutL L nm = L1 at *
    have HE := Lib.hid hE
    clear hE
    go_wp2_with fail
    refine hwo.mono ?_
    clear hwo
    rintro e w3 ⟨ao', cap', rfl, hra, k3⟩
    have hd3 := k3.heap hdw id
    have hr3 := k3.heap hrw id
    have ho3 := k3.heap how id
    have ha3 := k3.heap hac id
    obtain ⟨⟨u0, -, -, -, -⟩, uf⟩ := cells_five hd3
    have uf0 := uf 0
    have kS : Kp (fun i => i = w.heap.size) w3 (w3.setCell ⟨w.heap.size, 0, none⟩ (.slice ao' L1.length cap')) := (Kp.refl (fun i => i = w.heap.size) w3).setCell (fun _ => rfl) _
    have hd4 : (w3.setCell ⟨w.heap.size, 0, none⟩ (.slice ao' L1.length cap')).heap[w.heap.size]? = some (.cells #[.slice ao' L1.length cap', .int .i64 room, .int .i64 steps, .int .i64 fuse, .bool down] 56 (0, 0)) := (heap_set_cell hd3).trans (by simp)
    have hr4 := kS.heap hr3 (by omega)
    have ho4 := kS.heap ho3 (by omega)
    have ha4 := kS.heap ha3 (by omega)
    have HRA := Lib.hid (hra.kp kS (fun j _ c e => c.2.1 e))
    have HDA := Lib.hid ((HDC.out.keep k3).kp kS (fun j _ c e => c.2.1 e))
    have HK4 : Hid (Kp Noone w (w3.setCell ⟨w.heap.size, 0, none⟩ (.slice ao' L1.length cap'))) := Lib.hid ((HKC.out.trans k3).fin kS (fun j c => Or.inr (Nat.le_of_eq c.symm)))
    have hs4 : ga < (w3.setCell ⟨w.heap.size, 0, none⟩ (.slice ao' L1.length cap')).heap.size := (Array.getElem?_eq_some_iff.1 ha4).1
    clear hra k3 hd3 hr3 ho3 ha3 uf kS q0 q1 q2 q3 q4 qf qf0 z0 z1 z2 z3 z4 z5 a0 a1 a2 af0 af1 af2
    go_upto_region 16 with fail
    clear u0 uf0
    generalize w3.setCell ⟨w.heap.size, 0, none⟩ (.slice ao' L1.length cap') = w4 at *
    obtain ⟨z0, z1, z2, z3, z4, z5⟩ := cells_six ho4
    obtain ⟨a0, a1, a2, af0, af1, af2⟩ := cells_three ha4
    have kS : Kp (fun i => i = ga) w4 (w4.setCell ⟨ga, 0, none⟩ (.string tn)) := (Kp.refl (fun i => i = ga) w4).setCell (fun _ => rfl) _
    have hT := Lib.hid (ChT.mk (P := P) (gd := w.heap.size) (gr := gr) (RESL := RES) (w := w) (wt := w4.setCell ⟨ga, 0, none⟩ (.string tn)) ⟨ao', cap', L1, tn, xo, xm, xc, d, sf, kS.heap hd4 hgd1.1, kS.heap hr4 hgd1.2.2.1, (heap_set_cell ha4).trans (by simp), HRA.out.kp kS (fun j _ c e => c.2.2.2 e), HDA.out.kp kS (fun j _ c e => c.2.2.2 e), HK4.out.fin kS (fun j c => Or.inr (by omega)), by omega, HE.out.symm, Nat.lt_of_lt_of_le hs4 kS.size⟩)
    clear kS hd4 hr4 ho4 hs4
    go_upto_region 20 with fail
    clear a0 a1 a2 af0 af1 af2 z0 z1 z2 z3 z4 z5 ha4
    generalize w4.setCell ⟨ga, 0, none⟩ (.string tn) = wt at *
  all_goals (
    obtain ⟨ao1, cap1, L1, k1, yo, ym, yc, d1, s1, g1, g2, g3, hra, hda, hkw, hl1, hres, hgl⟩ := hT.out.ex
    have hwi := with_any (fun i => P i ∧ i ≠ w.heap.size ∧ i ≠ gr ∧ i ≠ ga) ao1 L1.length cap1 L1 k1 yo ym yc d1 s1 _ hra hda (fun j hj => ⟨HP.out j (by omega), by omega, by omega, by omega⟩) hl1
    rw [← hres] at hwi
    obtain ⟨⟨q0, q1, q2, q3, q4⟩, -⟩ := cells_five g1
    obtain ⟨a0, a1, a2, af0, af1, af2⟩ := cells_three g3
    go_wp2_with fail
    refine hwi.mono ?_
    clear hwi
    rintro e w3 ⟨ao', cap', rfl, hra', k3⟩
    have hd3 := k3.heap g1 id
    have hr3 := k3.heap g2 id
    clear q0 q1 q2 q3 q4 a0 a1 a2 af0 af1 af2
    obtain ⟨⟨u0, -, -, -, -⟩, uf⟩ := cells_five hd3
    have uf0 := uf 0
    have kS : Kp (fun i => i = w.heap.size) w3 (w3.setCell ⟨w.heap.size, 0, none⟩ (.slice ao' RES.length cap')) := (Kp.refl (fun i => i = w.heap.size) w3).setCell (fun _ => rfl) _
    have hd4 : (w3.setCell ⟨w.heap.size, 0, none⟩ (.slice ao' RES.length cap')).heap[w.heap.size]? = some (.cells #[.slice ao' RES.length cap', .int .i64 room, .int .i64 steps, .int .i64 fuse, .bool down] 56 (0, 0)) := (heap_set_cell hd3).trans (by simp)
    have hr4 := kS.heap hr3 (by omega)
    have HRA := Lib.hid (hra'.kp kS (fun j _ c e => c.2.1 e))
    have HK4 : Hid (Kp Noone w (w3.setCell ⟨w.heap.size, 0, none⟩ (.slice ao' RES.length cap'))) := Lib.hid ((hkw.trans k3).fin kS (fun j c => Or.inr (Nat.le_of_eq c.symm)))
    clear hra' k3 hd3 hr3 uf kS hra hda hkw hres g1 g2 g3
    go_upto_region 21 with fail
    generalize w3.setCell ⟨w.heap.size, 0, none⟩ (.slice ao' RES.length cap') = wu at *
    obtain ⟨⟨q0, q1, q2, q3, q4⟩, -⟩ := cells_five hd4
    go_wp2_with (refine wpList_store_disk (by dsimp only) (.tmp 4) (.tmp 80) (by dsimp only) gr ao' cap' ⟨RES, room, steps, fuse, down⟩ (by rfl) (by rfl) hr4 ?_)
    refine bodyPost_ret (v := rdV ao' cap' ⟨RES, room, steps, fuse, down⟩) (results_cell_row (ty := 56) rfl _ _ gr _ _ _ _ rfl (putD_heap ao' cap' ⟨RES, room, steps, fuse, down⟩ hr4) Try.underlying56 rfl info_disk) rfl ?_
    exact ⟨ao', cap', rfl, (HRA.out.kp (putD_kp _ _ _ _ _) (fun i _ c e => c.2.2.1 e)).mono (fun i _ c => c.1), HK4.out.fin (putD_kp _ _ _ _ _) (fun j c => Or.inr (by omega))⟩)

end Go.Proofs.Ytmmdojnjognccaa
