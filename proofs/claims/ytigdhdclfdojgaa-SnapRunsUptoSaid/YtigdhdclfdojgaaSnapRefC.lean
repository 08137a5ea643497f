/-
  THE WALK of the document's snap: lay.
-/
import Derived.Test.YtigdhdclfdojgaaSnapRefB
namespace Go.Proofs.Ytigdhdclfdojgaa
open Go.RowKit

theorem op_drop {k : ByteArray} (hk : k.size ≤ maxLen) : OpOk (oDrop k) 1048576 := ⟨by simp [oDrop], hk, by simp [oDrop], by simp [oDrop], by simp [oDrop], by simp [oDrop]⟩
theorem op_sync {k : ByteArray} (hk : k.size ≤ maxLen) : OpOk (oSync k) 1048576 := ⟨by simp [oSync], hk, by simp [oSync], by simp [oSync], by simp [oSync], by simp [oSync]⟩
theorem op_app {k : ByteArray} {b : List UInt8} (hk : k.size ≤ maxLen) (hb : b.length + 1 ≤ 1048576) : OpOk (oApp k b) 1048576 := ⟨by simp [oApp], hk, by simp [oApp], by simp [oApp], hb, by simp [oApp]⟩
theorem op_move {f t : ByteArray} (hf : f.size ≤ maxLen) (ht : t.size ≤ maxLen) : OpOk (oMove f t) 1048576 := ⟨by simp [oMove], hf, ht, by simp [oMove], by simp [oMove], by simp [oMove]⟩
/-- One call of Do, with the disk that it stands for. -/
theorem do_step (P : Nat → Prop) (ao : Option Addr) (cap : Nat) (m : RD) (s : DS) (o : OpD) (bo : Option Addr) (bm bc : Nat) (ko : Option Addr) (km kc : Nat) (w : World) (h : RA P w ao m.L.length cap m.L) (hP : ∀ j, w.heap.size ≤ j → P j) (hs : Sim m s) (hd : DOk s) (hop : OpOk o 1048576) (hb : BS w bo bm bc o.b) (hk : IS w ko km kc o.keep) (hst : s.steps < 4611686018427387904) :
    Calls Try.prog 29 #[rdV ao cap m, opV o bo bm bc ko km kc] w fun e w' => ∃ ao' cap' xo xn xc, e = .returned (.tuple #[rdV ao' cap' (doE m o).1, .slice xo xn xc, .int .i64 ((doE m o).2 : Int)]) ∧ RA P w' ao' (doE m o).1.L.length cap' (doE m o).1.L ∧ Kp Noone w w' := by
  refine (doR_any P ao cap m o bo bm bc ko km kc w h hP (hs.rok hd) hop hb hk (by rw [hs.steps]; exact hst)).mono ?_
  rintro e w' hto
  obtain ⟨ao', cap', xo, xc, rfl, h1, -, k⟩ := hto.ex
  exact ⟨ao', cap', xo, _, xc, rfl, h1, k⟩
/-- What the document's calls that change a disk answer. -/
structure RErr (P : Nat → Prop) (w : World) (R : RD × Nat) (e : Ending) (w' : World) : Prop where
  ex : ∃ ao cap, e = .returned (.tuple #[rdV ao cap R.1, .int .i64 (R.2 : Int)]) ∧ RA P w' ao R.1.L.length cap R.1.L ∧ Kp Noone w w'

attribute [local irreducible] putD doE

set_option maxHeartbeats 4000000 in
set_option maxRecDepth 100000 in
theorem lay_ref (P : Nat → Prop) (ao : Option Addr) (cap : Nat) (m : RD) (s : DS) (k : ByteArray) (bo : Option Addr) (bm bc : Nat) (b : List UInt8) (w : World) (h : RA P w ao m.L.length cap m.L) (hP : ∀ j, w.heap.size ≤ j → P j) (hs : Sim m s) (hd : DOk s) (hk : k.size ≤ maxLen) (hb : BS w bo bm bc b) (hbl : b.length + 1 ≤ 1048576) (hst : s.steps < 4611686018427387900) :
    Calls Try.prog 59 #[rdV ao cap m, .string k, .slice bo bm bc] w fun e w' => RErr P w (layR m k b) e w' := by
  obtain ⟨RES, hRES⟩ : ∃ x, Hid (layR m k b = x) := ⟨_, Lib.hid rfl⟩
  rw [hRES.out]
  have HR := hRES.out
  unfold layR at HR
  have h1 := sim_drop hs hd k
  have d1 := dropF_ok hd k (by omega)
  have s1 := dropF_steps s k
  have hz := hs
  have D1 := fun (P' : Nat → Prop) (w' : World) (hr : RA P' w' ao m.L.length cap m.L) (hp : ∀ j, w'.heap.size ≤ j → P' j) => do_step P' ao cap m s (oDrop k) none 0 0 none 0 0 w' hr hp hs hd (op_drop hk) (BS.nil _ _) (IS.nil _) (by omega)
  generalize doE m (oDrop k) = r1 at *
  generalize dropF s k = q1 at *
  obtain ⟨L, rm, st, fu, dn⟩ := m
  simp only [] at h D1
  have hA := heap_alloc_new w (.cells #[.slice ao L.length cap, .int .i64 rm, .int .i64 st, .int .i64 fu, .bool dn] 51)
  have eA := alloc_size w (.cells #[.slice ao L.length cap, .int .i64 rm, .int .i64 st, .int .i64 fu, .bool dn] 51)
  have kA : Kp Noone w ((w.alloc (.cells #[.slice ao L.length cap, .int .i64 rm, .int .i64 st, .int .i64 fu, .bool dn] 51)).alloc (.cells #[.slice none 0 0, .int .i64 0, .int .i64 0, .int .i64 0, .bool false] 51)) := ((Kp.refl _ _).alloc _).alloc _
  have hx := ((Kp.refl Noone (w.alloc (.cells #[.slice ao L.length cap, .int .i64 rm, .int .i64 st, .int .i64 fu, .bool dn] 51))).alloc (.cells #[.slice none 0 0, .int .i64 0, .int .i64 0, .int .i64 0, .bool false] 51)).heap hA id
  have hr := heap_alloc_new (w.alloc (.cells #[.slice ao L.length cap, .int .i64 rm, .int .i64 st, .int .i64 fu, .bool dn] 51)) (.cells #[.slice none 0 0, .int .i64 0, .int .i64 0, .int .i64 0, .bool false] 51)
  rw [eA] at hr
  have HRR := Lib.hid HR
  clear hRES HR hA eA
  unfold rdV rdC
  go_enter Try.func59, Try.ntmps59
  go_upto_region 1 with fail
  generalize (w.alloc (.cells #[.slice ao L.length cap, .int .i64 rm, .int .i64 st, .int .i64 fu, .bool dn] 51)).alloc (.cells #[.slice none 0 0, .int .i64 0, .int .i64 0, .int .i64 0, .bool false] 51) = wA at *
  generalize hgr : w.heap.size + 1 = gr at *
  generalize hgx : w.heap.size = gx at *
  have hxl := (Array.getElem?_eq_some_iff.1 hx).1
  have hrl := (Array.getElem?_eq_some_iff.1 hr).1
  have HP' : Hid (∀ j, wA.heap.size ≤ j → P j ∧ j ≠ gx ∧ j ≠ gr) := Lib.hid (fun j hj => ⟨hP j (by omega), by omega, by omega⟩)
  have HRA := Lib.hid ((h.mono (Q := fun j => P j ∧ j ≠ gx ∧ j ≠ gr) (fun j hj c => ⟨c, by omega, by omega⟩)).keep kA)
  have D1 := D1 (fun j => P j ∧ j ≠ gx ∧ j ≠ gr) wA HRA.out HP'.out
  obtain ⟨⟨y0, y1, y2, y3, y4⟩, -⟩ := cells_five hx
  have HBB := Lib.hid ((hb.dataP (P := fun j => j < gx) (fun _ h => by omega)).keep kA)
  have HKA := Lib.hid kA
  clear h hb kA hP
  go_wp2_with fail
  refine D1.mono ?_
  clear D1
  rintro e w1 ⟨o1, c1, x1o, x1n, x1c, rfl, hra1, k1⟩
  obtain ⟨⟨L1, rm1, st1, fu1, dn1⟩, e1⟩ := r1
  simp only [] at hra1
  have hx1 := k1.heap hx id
  have hr1 := k1.heap hr id
  have p1 := putD_kp w1 gx o1 c1 ⟨L1, rm1, st1, fu1, dn1⟩
  have hx2 := putD_heap o1 c1 ⟨L1, rm1, st1, fu1, dn1⟩ hx1
  have hr2 := p1.heap hr1 (by omega)
  have HRA2 := Lib.hid (hra1.kp p1 (fun j _ c e => c.2.1 e))
  have HK2 := Lib.hid ((HKA.out.trans k1).fin p1 (fun j e => Or.inr (by omega)))
  have HB2 := Lib.hid ((HBB.out.keep k1).kp p1 (fun j _ c e => by omega))
  have hs2 : wA.heap.size ≤ (putD w1 gx o1 c1 ⟨L1, rm1, st1, fu1, dn1⟩).heap.size := Nat.le_trans k1.size p1.size
  unfold rdV rdC
  simp only []
  go_upto_region 2 with (refine wpList_store_disk rfl (.tmp 3) (.tmp 18) rfl gx o1 c1 ⟨L1, rm1, st1, fu1, dn1⟩ (by rfl) (by rfl) hx1 ?_)
  clear y0 y1 y2 y3 y4 p1 hx1 hr1 k1 hx hr hra1 HRA HKA HBB
  generalize putD w1 gx o1 c1 ⟨L1, rm1, st1, fu1, dn1⟩ = w2 at *
  unfold rdC at hx2
  simp only [] at hx2
  obtain ⟨⟨y0, y1, y2, y3, y4⟩, -⟩ := cells_five hx2
  by_cases hc1 : e1 ≠ 0 ∧ e1 ≠ 41
  · have HR2 := HRR.out
    rw [if_pos hc1] at HR2
    subst HR2
    have n0 : ((e1 : Int) != 0) = true := by simpa using hc1.1
    have n1 : ((e1 : Int) != 41) = true := by simp; omega
    clear hc1
    go_wp2_with (refine wpList_store_disk rfl (.tmp 6) (.tmp 27) rfl gr o1 c1 ⟨L1, rm1, st1, fu1, dn1⟩ (by rfl) (by rfl) hr2 ?_)
    refine bodyPost_ret (v := .tuple #[rdV o1 c1 ⟨L1, rm1, st1, fu1, dn1⟩, .int .i64 (e1 : Int)]) (by rw [results_disk_tmp rfl _ _ gr _ rfl (putD_heap o1 c1 ⟨L1, rm1, st1, fu1, dn1⟩ hr2) rfl]; rfl) rfl ?_
    exact ⟨⟨o1, c1, rfl, (HRA2.out.kp (putD_kp _ _ _ _ _) (fun j _ c e => c.2.2 e)).mono (fun j _ c => c.1), HK2.out.fin (putD_kp _ _ _ _ _) (fun j e => Or.inr (by omega))⟩⟩
  have HR2 := HRR.out
  rw [if_neg hc1] at HR2
  simp only [] at h1 s1 HR2
  have h2 := sim_app h1.1 d1 k b
  have d2 := appendF_ok d1 k b (by omega)
  have s2 := appendF_steps q1.1 k b
  have D2 := do_step (fun j => P j ∧ j ≠ gx ∧ j ≠ gr) o1 c1 ⟨L1, rm1, st1, fu1, dn1⟩ q1.1 (oApp k b) bo bm bc none 0 0 w2 HRA2.out (fun j hj => HP'.out j (by omega)) h1.1 d1 (op_app hk hbl) HB2.out.1 (IS.nil _) (by omega)
  generalize doE ⟨L1, rm1, st1, fu1, dn1⟩ (oApp k b) = r2 at *
  generalize appendF q1.1 k b = q2 at *
  obtain ⟨⟨L2, rm2, st2, fu2, dn2⟩, e2⟩ := r2
  simp only [] at D2 HR2 h2
  have HRB := Lib.hid HR2
  have h12 : ((e1 : Int) != 0) = false ∨ (((e1 : Int) != 0) = true ∧ ((e1 : Int) != 41) = false) := by
    by_cases h0 : e1 = 0
    · exact Or.inl (by subst h0; rfl)
    · exact Or.inr ⟨by simpa using h0, by simp; omega⟩
  have H1 := Lib.hid h1
  have H2 := Lib.hid h2
  clear HR2 hc1 HRR h1 h2
  rcases h12 with n0 | ⟨n0, n1⟩
  all_goals (
    go_wp2_with fail
    refine D2.mono ?_
    clear D2
    rintro e w3 ⟨o2, c2, x2o, x2n, x2c, rfl, hra3, k3⟩
    have hx3 := k3.heap hx2 id
    have hr3 := k3.heap hr2 id
    have p3 := putD_kp w3 gx o2 c2 ⟨L2, rm2, st2, fu2, dn2⟩
    have hx4 := putD_heap o2 c2 ⟨L2, rm2, st2, fu2, dn2⟩ hx3
    have hr4 := p3.heap hr3 (by omega)
    have HRA4 := Lib.hid (hra3.kp p3 (fun j _ c e => c.2.1 e))
    have HK4 := Lib.hid ((HK2.out.trans k3).fin p3 (fun j e => Or.inr (by omega)))
    have hs4 : wA.heap.size ≤ (putD w3 gx o2 c2 ⟨L2, rm2, st2, fu2, dn2⟩).heap.size := Nat.le_trans hs2 (Nat.le_trans k3.size p3.size)
    unfold rdV rdC
    simp only []
    go_upto_region 5 with (refine wpList_store_disk rfl (.tmp 3) (.tmp 35) rfl gx o2 c2 ⟨L2, rm2, st2, fu2, dn2⟩ (by rfl) (by rfl) hx3 ?_)
    clear y0 y1 y2 y3 y4 p3 hx3 hr3 k3 hx2 hr2 hra3 HRA2 HK2 HB2 hs2
    generalize putD w3 gx o2 c2 ⟨L2, rm2, st2, fu2, dn2⟩ = w4 at *
    unfold rdC at hx4
    simp only [] at hx4
    obtain ⟨⟨y0, y1, y2, y3, y4⟩, -⟩ := cells_five hx4
    by_cases hc2 : e2 = 0
    case neg =>
      have HR3 := HRB.out
      rw [if_pos hc2] at HR3
      subst HR3
      have n2 : ((e2 : Int) != 0) = true := by simpa using hc2
      clear hc2
      go_wp2_with (refine wpList_store_disk rfl (.tmp 6) (.tmp 40) rfl gr o2 c2 ⟨L2, rm2, st2, fu2, dn2⟩ (by rfl) (by rfl) hr4 ?_)
      refine bodyPost_ret (v := .tuple #[rdV o2 c2 ⟨L2, rm2, st2, fu2, dn2⟩, .int .i64 (e2 : Int)]) (by rw [results_disk_tmp rfl _ _ gr _ rfl (putD_heap o2 c2 ⟨L2, rm2, st2, fu2, dn2⟩ hr4) rfl]; rfl) rfl ?_
      exact ⟨⟨o2, c2, rfl, (HRA4.out.kp (putD_kp _ _ _ _ _) (fun j _ c e => c.2.2 e)).mono (fun j _ c => c.1), HK4.out.fin (putD_kp _ _ _ _ _) (fun j e => Or.inr (by omega))⟩⟩
    subst hc2
    have HR3 := HRB.out
    rw [if_neg (by simp)] at HR3
    rw [Int.natCast_zero]
    have h2 := H2.out
    have h3 := sim_sync h2.1 d2 k
    have d3 := syncF_ok d2 k (by omega)
    have s3 := syncF_steps q2.1 k
    have D3 := do_step (fun j => P j ∧ j ≠ gx ∧ j ≠ gr) o2 c2 ⟨L2, rm2, st2, fu2, dn2⟩ q2.1 (oSync k) none 0 0 none 0 0 w4 HRA4.out (fun j hj => HP'.out j (by omega)) h2.1 d2 (op_sync hk) (BS.nil _ _) (IS.nil _) (by omega)
    generalize doE ⟨L2, rm2, st2, fu2, dn2⟩ (oSync k) = r3 at *
    generalize syncF q2.1 k = q3 at *
    obtain ⟨⟨L3, rm3, st3, fu3, dn3⟩, e3⟩ := r3
    unfold layEndR at HR3
    simp only [] at D3 HR3 h3
    have HRD := Lib.hid HR3
    have H3 := Lib.hid h3
    clear HR3 h2 h3 HRB
    go_wp2_with fail
    refine D3.mono ?_
    clear D3
    rintro e w5 ⟨o3, c3, x3o, x3n, x3c, rfl, hra5, k5⟩
    have hx5 := k5.heap hx4 id
    have hr5 := k5.heap hr4 id
    have p5 := putD_kp w5 gx o3 c3 ⟨L3, rm3, st3, fu3, dn3⟩
    have hx6 := putD_heap o3 c3 ⟨L3, rm3, st3, fu3, dn3⟩ hx5
    have hr6 := p5.heap hr5 (by omega)
    have HRA6 := Lib.hid (hra5.kp p5 (fun j _ c e => c.2.1 e))
    have HK6 := Lib.hid ((HK4.out.trans k5).fin p5 (fun j e => Or.inr (by omega)))
    have hs6 : wA.heap.size ≤ (putD w5 gx o3 c3 ⟨L3, rm3, st3, fu3, dn3⟩).heap.size := Nat.le_trans hs4 (Nat.le_trans k5.size p5.size)
    unfold rdV rdC
    simp only []
    go_upto_region 8 with (refine wpList_store_disk rfl (.tmp 3) (.tmp 47) rfl gx o3 c3 ⟨L3, rm3, st3, fu3, dn3⟩ (by rfl) (by rfl) hx5 ?_)
    clear y0 y1 y2 y3 y4 p5 hx5 hr5 k5 hx4 hr4 hra5 HRA4 HK4 hs4
    generalize putD w5 gx o3 c3 ⟨L3, rm3, st3, fu3, dn3⟩ = w6 at *
    unfold rdC at hx6
    simp only [] at hx6
    obtain ⟨⟨y0, y1, y2, y3, y4⟩, -⟩ := cells_five hx6
    by_cases hc3 : e3 = 42
    case neg =>
      have HR3 := HRD.out
      rw [if_neg hc3] at HR3
      subst HR3
      have n3 : ((e3 : Int) == 42) = false := by simp; omega
      clear hc3
      go_wp2_with (refine wpList_store_disk rfl (.tmp 6) (.tmp 64) rfl gr o3 c3 ⟨L3, rm3, st3, fu3, dn3⟩ (by rfl) (by rfl) hr6 ?_)
      refine bodyPost_ret (v := .tuple #[rdV o3 c3 ⟨L3, rm3, st3, fu3, dn3⟩, .int .i64 (e3 : Int)]) (by rw [results_disk_tmp rfl _ _ gr _ rfl (putD_heap o3 c3 ⟨L3, rm3, st3, fu3, dn3⟩ hr6) rfl]; rfl) rfl ?_
      exact ⟨⟨o3, c3, rfl, (HRA6.out.kp (putD_kp _ _ _ _ _) (fun j _ c e => c.2.2 e)).mono (fun j _ c => c.1), HK6.out.fin (putD_kp _ _ _ _ _) (fun j e => Or.inr (by omega))⟩⟩
    subst hc3
    have HR4 := HRD.out
    rw [if_pos rfl] at HR4
    have D4 := do_step (fun j => P j ∧ j ≠ gx ∧ j ≠ gr) o3 c3 ⟨L3, rm3, st3, fu3, dn3⟩ q3.1 (oDrop k) none 0 0 none 0 0 w6 HRA6.out (fun j hj => HP'.out j (by omega)) H3.out.1 d3 (op_drop hk) (BS.nil _ _) (IS.nil _) (by omega)
    generalize doE ⟨L3, rm3, st3, fu3, dn3⟩ (oDrop k) = r4 at *
    obtain ⟨⟨L4, rm4, st4, fu4, dn4⟩, e4⟩ := r4
    simp only [] at D4 HR4
    have HRE := Lib.hid HR4
    clear HR4 HRD
    go_wp2_with fail
    refine D4.mono ?_
    clear D4
    rintro e w7 ⟨o4, c4, x4o, x4n, x4c, rfl, hra7, k7⟩
    unfold rdV rdC
    simp only []
    have kN : Kp Noone w7 (w7.alloc (.cells #[.slice o4 L4.length c4, .int .i64 rm4, .int .i64 st4, .int .i64 fu4, .bool dn4] 51)) := (Kp.refl _ _).alloc _
    have hN := heap_alloc_new w7 (.cells #[.slice o4 L4.length c4, .int .i64 rm4, .int .i64 st4, .int .i64 fu4, .bool dn4] 51)
    have hx8 := kN.heap (k7.heap hx6 id) id
    have hr8 := kN.heap (k7.heap hr6 id) id
    have HRA8 := Lib.hid (hra7.keep kN)
    have HK8 := Lib.hid ((HK6.out.trans k7).trans kN)
    go_upto_region 10 with fail
    clear y0 y1 y2 y3 y4 k7 hx6 hr6 hra7 HRA6 HK6 kN
    generalize w7.alloc (.cells #[.slice o4 L4.length c4, .int .i64 rm4, .int .i64 st4, .int .i64 fu4, .bool dn4] 51) = w8 at *
    generalize w7.heap.size = gy at *
    obtain ⟨⟨y0, y1, y2, y3, y4⟩, -⟩ := cells_five hN
    have p8 := putD_kp w8 gx o4 c4 ⟨L4, rm4, st4, fu4, dn4⟩
    have hx9 := putD_heap o4 c4 ⟨L4, rm4, st4, fu4, dn4⟩ hx8
    have hr9 := p8.heap hr8 (by omega)
    have HRA9 := Lib.hid (HRA8.out.kp p8 (fun j _ c e => c.2.1 e))
    have HK9 := Lib.hid (HK8.out.fin p8 (fun j e => Or.inr (by omega)))
    go_upto_region 11 with (refine wpList_store_disk rfl (.tmp 3) (.tmp 60) rfl gx o4 c4 ⟨L4, rm4, st4, fu4, dn4⟩ (by rfl) (by rfl) hx8 ?_)
    clear y0 y1 y2 y3 y4 p8 hx8 hr8 HRA8 HK8 hN
    generalize putD w8 gx o4 c4 ⟨L4, rm4, st4, fu4, dn4⟩ = w9 at *
    unfold rdC at hx9
    simp only [] at hx9
    obtain ⟨⟨y0, y1, y2, y3, y4⟩, -⟩ := cells_five hx9
    by_cases hc4 : e4 = 0
    · subst hc4
      have HR5 := HRE.out
      rw [if_neg (by simp)] at HR5
      subst HR5
      rw [Int.natCast_zero]
      go_wp2_with (refine wpList_store_disk rfl (.tmp 6) (.tmp 64) rfl gr o4 c4 ⟨L4, rm4, st4, fu4, dn4⟩ (by rfl) (by rfl) hr9 ?_)
      refine bodyPost_ret (v := .tuple #[rdV o4 c4 ⟨L4, rm4, st4, fu4, dn4⟩, .int .i64 42]) (by rw [results_disk_tmp rfl _ _ gr _ rfl (putD_heap o4 c4 ⟨L4, rm4, st4, fu4, dn4⟩ hr9) rfl]; rfl) rfl ?_
      exact ⟨⟨o4, c4, rfl, (HRA9.out.kp (putD_kp _ _ _ _ _) (fun j _ c e => c.2.2 e)).mono (fun j _ c => c.1), HK9.out.fin (putD_kp _ _ _ _ _) (fun j e => Or.inr (by omega))⟩⟩
    · have HR5 := HRE.out
      rw [if_pos hc4] at HR5
      subst HR5
      have n4 : ((e4 : Int) != 0) = true := by simpa using hc4
      clear hc4
      go_wp2_with (refine wpList_store_disk rfl (.tmp 6) (.tmp 64) rfl gr o4 c4 ⟨L4, rm4, st4, fu4, dn4⟩ (by rfl) (by rfl) hr9 ?_)
      refine bodyPost_ret (v := .tuple #[rdV o4 c4 ⟨L4, rm4, st4, fu4, dn4⟩, .int .i64 (e4 : Int)]) (by rw [results_disk_tmp rfl _ _ gr _ rfl (putD_heap o4 c4 ⟨L4, rm4, st4, fu4, dn4⟩ hr9) rfl]; rfl) rfl ?_
      exact ⟨⟨o4, c4, rfl, (HRA9.out.kp (putD_kp _ _ _ _ _) (fun j _ c e => c.2.2 e)).mono (fun j _ c => c.1), HK9.out.fin (putD_kp _ _ _ _ _) (fun j e => Or.inr (by omega))⟩⟩
    skip)

end Go.Proofs.Ytigdhdclfdojgaa
