/-
  THE WALK of the document's snap: Save.
-/
import Derived.Test.YtigdhdclfdojgaaSnapRefD
import Derived.Deep.RegionHeld3
import Derived.Deep.RegionLaw
namespace Go.Proofs.Ytigdhdclfdojgaa
open Go.RowKit

/-- A region to whose end every order comes with one frame, but for two letters. -/
theorem wp_region_two {P : Program} {id : Nat} {ops : Array Oper} {b : Bool} {Q : Exit → Act → World → Prop} {a : Act} {w : World} {F : Option Addr → Nat → Act} {G : Option Addr → Nat → World → Prop}
    (h : (Code.region id ops b).wp P (NoPanic fun e a' w' => e = .normal ∧ ∃ ao cap, a' = F ao cap ∧ G ao cap w') a w) (k : ∀ ao cap w', G ao cap w' → Q .normal (F ao cap) w') : (Code.region id ops b).wp P Q a w :=
  Code.wp_mono (fun e a' w' q => by
    obtain ⟨rfl, ao, cap, rfl, hg⟩ := NoPanic.imp e a' w' q
    exact k ao cap w' hg) h

theorem wp_region_four {P : Program} {id : Nat} {ops : Array Oper} {b : Bool} {Q : Exit → Act → World → Prop} {a : Act} {w : World} {F : Option Addr → Nat → Option Addr → Nat → Act} {G : Option Addr → Nat → Option Addr → Nat → World → Prop}
    (h : (Code.region id ops b).wp P (NoPanic fun e a' w' => e = .normal ∧ ∃ xo xc ao cap, a' = F xo xc ao cap ∧ G xo xc ao cap w') a w) (k : ∀ xo xc ao cap w', G xo xc ao cap w' → Q .normal (F xo xc ao cap) w') : (Code.region id ops b).wp P Q a w :=
  Code.wp_mono (fun e a' w' q => by
    obtain ⟨rfl, xo, xc, ao, cap, rfl, hg⟩ := NoPanic.imp e a' w' q
    exact k xo xc ao cap w' hg) h

theorem wp_region_5 {P : Program} {id : Nat} {ops : Array Oper} {b : Bool} {Q : Exit → Act → World → Prop} {a : Act} {w : World} {F : Nat → Option Addr → Nat → Option Addr → Nat → Act} {G : Nat → Option Addr → Nat → Option Addr → Nat → World → Prop}
    (h : (Code.region id ops b).wp P (NoPanic fun e a' w' => e = .normal ∧ ∃ n xo xc ao cap, a' = F n xo xc ao cap ∧ G n xo xc ao cap w') a w) (k : ∀ n xo xc ao cap w', G n xo xc ao cap w' → Q .normal (F n xo xc ao cap) w') : (Code.region id ops b).wp P Q a w :=
  Code.wp_mono (fun e a' w' q => by
    obtain ⟨rfl, n, xo, xc, ao, cap, rfl, hg⟩ := NoPanic.imp e a' w' q
    exact k n xo xc ao cap w' hg) h

attribute [local irreducible] putD doE layR currentR

set_option maxHeartbeats 4000000 in
set_option maxRecDepth 100000 in
theorem save_ref (P : Nat → Prop) (ao : Option Addr) (cap : Nat) (m : RD) (s : DS) (slot : Int) (fo : Option Addr) (n fc : Nat) (b : List UInt8) (w : World) (h : RA P w ao m.L.length cap m.L) (hP : ∀ j, w.heap.size ≤ j → P j) (hs : Sim m s) (hd : DOk s) (hb : BS w fo n fc b) (hst : s.steps < 4611686018427387000) :
    Calls Try.prog 26 #[rdV ao cap m, .int .i64 slot, .slice fo n fc] w fun e w' => RErr P w (saveR m slot b) e w' := by
  obtain ⟨RES, hRES⟩ : ∃ x, Hid (saveR m slot b = x) := ⟨_, Lib.hid rfl⟩
  rw [hRES.out]
  have HR := hRES.out
  unfold saveR at HR
  have hok := hs.rok hd
  have hlen := hb.len
  have hcur := fun P' W hr => current_ref P' ao cap m W hr hok
  have hcl : (currentR m).1.turn ≤ 1099511627776 := by rw [sim_current hs]; exact (currentF_le s).1
  have hlay := fun (P' : Nat → Prop) (k : ByteArray) (hk : k.size ≤ maxLen) (hbl : b.length + 1 ≤ 1048576) (W : World) (hr : RA P' W ao m.L.length cap m.L) (hp : ∀ j, W.heap.size ≤ j → P' j) (hb : BS W fo n fc b) => lay_ref P' ao cap m s k fo n fc b W hr hp hs hd hk hb hbl (by omega)
  generalize hC : currentR m = C at *
  obtain ⟨⟨tn, sn, un⟩, ce⟩ := C
  simp only [] at HR hcl hcur
  obtain ⟨M, hM⟩ : ∃ x, x = m := ⟨_, rfl⟩
  obtain ⟨L, rm, st, fu, dn⟩ := m
  simp only [] at h hcur hlay
  have hA := heap_alloc_new w (.cells #[.slice ao L.length cap, .int .i64 rm, .int .i64 st, .int .i64 fu, .bool dn] 51)
  have eA := alloc_size w (.cells #[.slice ao L.length cap, .int .i64 rm, .int .i64 st, .int .i64 fu, .bool dn] 51)
  have kA : Kp Noone w ((w.alloc (.cells #[.slice ao L.length cap, .int .i64 rm, .int .i64 st, .int .i64 fu, .bool dn] 51)).alloc (.cells #[.slice none 0 0, .int .i64 0, .int .i64 0, .int .i64 0, .bool false] 51)) := ((Kp.refl _ _).alloc _).alloc _
  have hx := ((Kp.refl Noone (w.alloc (.cells #[.slice ao L.length cap, .int .i64 rm, .int .i64 st, .int .i64 fu, .bool dn] 51))).alloc (.cells #[.slice none 0 0, .int .i64 0, .int .i64 0, .int .i64 0, .bool false] 51)).heap hA id
  have hr := heap_alloc_new (w.alloc (.cells #[.slice ao L.length cap, .int .i64 rm, .int .i64 st, .int .i64 fu, .bool dn] 51)) (.cells #[.slice none 0 0, .int .i64 0, .int .i64 0, .int .i64 0, .bool false] 51)
  rw [eA] at hr
  have HRR := Lib.hid HR
  have HM := Lib.hid hM
  have HLN := Lib.hid hlen
  have HS := Lib.hid (And.intro hs hd)
  clear hRES HR hA eA hM hlen hC hs hd hok
  unfold rdV rdC at *
  simp only [] at hcur hlay
  go_enter Try.func26, Try.ntmps26
  go_upto_region 1 with fail
  generalize (w.alloc (.cells #[.slice ao L.length cap, .int .i64 rm, .int .i64 st, .int .i64 fu, .bool dn] 51)).alloc (.cells #[.slice none 0 0, .int .i64 0, .int .i64 0, .int .i64 0, .bool false] 51) = wA at *
  generalize hgr : w.heap.size + 1 = gr at *
  generalize hgx : w.heap.size = gx at *
  have hxl := (Array.getElem?_eq_some_iff.1 hx).1
  have hrl := (Array.getElem?_eq_some_iff.1 hr).1
  have HP' : Hid (∀ j, wA.heap.size ≤ j → P j ∧ j ≠ gx ∧ j ≠ gr) := Lib.hid (fun j hj => ⟨hP j (by omega), by omega, by omega⟩)
  have HRA := Lib.hid ((h.mono (Q := fun j => P j ∧ j ≠ gx ∧ j ≠ gr) (fun j hj c => ⟨c, by omega, by omega⟩)).keep kA)
  obtain ⟨⟨y0, y1, y2, y3, y4⟩, -⟩ := cells_five hx
  have HBB := Lib.hid ((hb.dataP (P := fun j => j < gx) (fun _ h => by omega)).keep kA)
  have HKA := Lib.hid kA
  have hcur := hcur _ wA HRA.out
  clear h hb kA hP
  by_cases hs0 : slot < 0 ∨ 1099511627776 < slot
  · have HR2 := HRR.out
    rw [if_pos hs0] at HR2
    subst HR2
    have hcs : slot < 0 ∨ (¬ slot < 0 ∧ 1099511627776 < slot) := by omega
    clear hs0
    have hM := HM.out
    subst hM
    rcases hcs with h1 | ⟨h1, h2⟩
    all_goals (
      go_wp2_with (refine wpList_store_disk rfl (.tmp 6) (.tmp 18) rfl gr ao cap ⟨L, rm, st, fu, dn⟩ (by rfl) (by rfl) hr ?_)
      refine bodyPost_ret (v := .tuple #[rdV ao cap ⟨L, rm, st, fu, dn⟩, .int .i64 1]) (by rw [results_disk_tmp rfl _ _ gr _ rfl (putD_heap ao cap ⟨L, rm, st, fu, dn⟩ hr) rfl]; rfl) rfl ?_
      exact ⟨⟨ao, cap, rfl, (HRA.out.kp (putD_kp _ _ _ _ _) (fun j _ c e => c.2.2 e)).mono (fun j _ c => c.1), HKA.out.fin (putD_kp _ _ _ _ _) (fun j e => Or.inr (by omega))⟩⟩)
  obtain ⟨sl, rfl⟩ : ∃ sl : Nat, slot = (sl : Int) := ⟨slot.toNat, by omega⟩
  have hsl : sl ≤ 1099511627776 := by omega
  have hs1 : ¬ ((sl : Int) < 0) := by omega
  have hs2 : ¬ ((1099511627776 : Int) < (sl : Int)) := by omega
  have HR2 := HRR.out
  rw [if_neg hs0] at HR2
  clear hs0
  by_cases hbig : 16384 < n
  · rw [if_pos (by have := HLN.out; omega)] at HR2
    subst HR2
    have hM := HM.out
    subst hM
    clear HLN
    go_wp2_with (refine wpList_store_disk rfl (.tmp 6) (.tmp 22) rfl gr ao cap ⟨L, rm, st, fu, dn⟩ (by rfl) (by rfl) hr ?_)
    refine bodyPost_ret (v := .tuple #[rdV ao cap ⟨L, rm, st, fu, dn⟩, .int .i64 12]) (by rw [results_disk_tmp rfl _ _ gr _ rfl (putD_heap ao cap ⟨L, rm, st, fu, dn⟩ hr) rfl]; rfl) rfl ?_
    exact ⟨⟨ao, cap, rfl, (HRA.out.kp (putD_kp _ _ _ _ _) (fun j _ c e => c.2.2 e)).mono (fun j _ c => c.1), HKA.out.fin (putD_kp _ _ _ _ _) (fun j e => Or.inr (by omega))⟩⟩
  rw [if_neg (by have := HLN.out; omega)] at HR2
  go_wp2_with fail
  refine hcur.mono ?_
  clear hcur
  rintro e w1 hto
  obtain ⟨rfl, k1⟩ := hto.ex
  have hx1 := k1.heap hx id
  have hr1 := k1.heap hr id
  have hs1z : wA.heap.size ≤ w1.heap.size := k1.size
  have HRA1 := Lib.hid (HRA.out.keep k1)
  have HBB1 := Lib.hid (HBB.out.keep k1)
  have HK1 := Lib.hid (HKA.out.trans k1)
  clear hto y0 y1 y2 y3 y4 k1 hx hr HRA HBB HKA HRR
  obtain ⟨⟨y0, y1, y2, y3, y4⟩, -⟩ := cells_five hx1
  simp only []
  have hM := HM.out
  by_cases hce : ce = 0
  case neg =>
    rw [if_pos hce] at HR2
    subst HR2
    subst hM
    have n0 : ((ce : Int) != 0) = true := by simpa using hce
    go_wp2_with (refine wpList_store_disk rfl (.tmp 6) (.tmp 32) rfl gr ao cap ⟨L, rm, st, fu, dn⟩ (by rfl) (by rfl) hr1 ?_)
    refine bodyPost_ret (v := .tuple #[rdV ao cap ⟨L, rm, st, fu, dn⟩, .int .i64 (ce : Int)]) (by rw [results_disk_tmp rfl _ _ gr _ rfl (putD_heap ao cap ⟨L, rm, st, fu, dn⟩ hr1) rfl]; rfl) rfl ?_
    exact ⟨⟨ao, cap, rfl, (HRA1.out.kp (putD_kp _ _ _ _ _) (fun j _ c e => c.2.2 e)).mono (fun j _ c => c.1), HK1.out.fin (putD_kp _ _ _ _ _) (fun j e => Or.inr (by omega))⟩⟩
  subst hce
  rw [if_neg (by simp)] at HR2
  rw [Int.natCast_zero]
  by_cases htn : 1099511627776 ≤ tn
  · rw [if_pos htn] at HR2
    subst HR2
    subst hM
    have hti : (1099511627776 : Int) ≤ (tn : Int) := by omega
    clear htn hcl hsl hlay
    go_wp2_with (refine wpList_store_disk rfl (.tmp 6) (.tmp 36) rfl gr ao cap ⟨L, rm, st, fu, dn⟩ (by rfl) (by rfl) hr1 ?_)
    refine bodyPost_ret (v := .tuple #[rdV ao cap ⟨L, rm, st, fu, dn⟩, .int .i64 43]) (by rw [results_disk_tmp rfl _ _ gr _ rfl (putD_heap ao cap ⟨L, rm, st, fu, dn⟩ hr1) rfl]; rfl) rfl ?_
    exact ⟨⟨ao, cap, rfl, (HRA1.out.kp (putD_kp _ _ _ _ _) (fun j _ c e => c.2.2 e)).mono (fun j _ c => c.1), HK1.out.fin (putD_kp _ _ _ _ _) (fun j e => Or.inr (by omega))⟩⟩
  rw [if_neg htn] at HR2
  have hti : ¬ (1099511627776 : Int) ≤ (tn : Int) := by omega
  subst hM
  obtain ⟨hs, hd⟩ := HS.out
  obtain ⟨t1, ht1⟩ : ∃ t1, Hid (tn + 1 = t1) := ⟨_, Lib.hid rfl⟩
  have hw1 : IntKind.i64.wrap ((tn : Int) + 1) = (t1 : Int) := by rw [← ht1.out]; exact IntWalk.i64_in _ (by omega)
  unfold saveAR saveBR at HR2
  rw [ht1.out] at HR2
  have h1 := sim_lay hs hd (by omega) (areaN t1) b
  have d1 := layF_ok hd (by omega) (areaN t1) b
  have q1 := layF_steps s (areaN t1) b
  have k0 : Kp Noone w1 w1.drew := (Kp.refl _ _).drew
  have hla := hlay (fun j => P j ∧ j ≠ gx ∧ j ≠ gr) (areaN t1) (areaN_size t1) (by have := HLN.out; omega) w1.drew (HRA1.out.keep k0) (fun j hj => HP'.out j (by have e : w1.drew.heap.size = w1.heap.size := rfl; omega)) (HBB1.out.keep k0).1
  clear hlay
  generalize layR ⟨L, rm, st, fu, dn⟩ (areaN t1) b = r1 at *
  generalize layF s (areaN t1) b = s1 at *
  obtain ⟨⟨L1, rm1, st1, fu1, dn1⟩, e1⟩ := r1
  simp only [] at HR2
  have H1 := Lib.hid (And.intro h1 d1)
  have hq1 : s1.1.steps ≤ s.steps + 4 := q1
  have HRA2 := Lib.hid HR2
  have hla2 : Calls Try.prog 59 #[.agg #[.slice ao L.length cap, .int .i64 rm, .int .i64 st, .int .i64 fu, .bool dn], .string (areaN t1), .slice fo n fc] w1.drew fun e w' => ∃ o1 c1, e = .returned (.tuple #[.agg #[.slice o1 L1.length c1, .int .i64 rm1, .int .i64 st1, .int .i64 fu1, .bool dn1], .int .i64 (e1 : Int)]) ∧ RA (fun j => P j ∧ j ≠ gx ∧ j ≠ gr) w' o1 L1.length c1 L1 ∧ Kp Noone w1.drew w' := hla.mono (fun e w' h => h.ex)
  clear hla HR2 h1 d1 q1 HS hs hd HRA1
  go_upto_region 10 with fail
  apply wp_region_two (G := fun o1 c1 wz => wz.heap[gx]? = some (.cells #[.slice o1 L1.length c1, .int .i64 rm1, .int .i64 st1, .int .i64 fu1, .bool dn1] 51 (0, 0)) ∧ RA (fun j => P j ∧ j ≠ gx ∧ j ≠ gr) wz o1 L1.length c1 L1 ∧ Kp (fun j => j = gx) w1 wz)
  case h =>
    first
      | (go_region_law (first
          | (go_simp; go_at_call 60; refine (area_ref t1 _).mono ?_; rintro e w' ⟨rfl, rfl⟩)
          | (go_simp; go_at_call 59; refine hla2.mono ?_; rintro e w2 ⟨o1, c1, rfl, hra2, k2⟩; obtain ⟨⟨z0, z1, z2, z3, z4⟩, zf⟩ := cells_five ((k0.trans k2).heap hx1 id); have zf0 := zf 0; have zf1 := zf 1; have zf2 := zf 2; have zf3 := zf 3; have zf4 := zf 4)))
      | fail
    all_goals (
      refine NoPanic.normal ⟨rfl, o1, c1, rfl, ?_⟩
      exact ⟨set5_heap ((k0.trans k2).heap hx1 id) _ _ _ _ _, hra2.kp (set5_kpS (Kp.refl (fun j => j = gx) w2) (g := gx) rfl (.slice o1 L1.length c1) (.int .i64 rm1) (.int .i64 st1) (.int .i64 fu1) (.bool dn1)) (fun j _ c e => c.2.1 e), set5_kpS (Kp.none (S := fun j => j = gx) (k0.trans k2)) (g := gx) rfl (.slice o1 L1.length c1) (.int .i64 rm1) (.int .i64 st1) (.int .i64 fu1) (.bool dn1)⟩)
  case k =>
    intro o1 c1 w2 hG
    obtain ⟨hx2, hra2, k2⟩ := hG
    have hr2 := k2.heap hr1 (by omega)
    have HRA3 := Lib.hid hra2
    have hs2z : wA.heap.size ≤ w2.heap.size := Nat.le_trans hs1z k2.size
    have HK2 := Lib.hid (HK1.out.fin k2 (fun j e => Or.inr (by omega)))
    have HBB2 := Lib.hid (HBB1.out.kp k2 (fun j _ c e => by omega))
    clear hla2 hra2 k2 k0 HK1 HBB1 hx1 hr1 y0 y1 y2 y3 y4
    obtain ⟨⟨y0, y1, y2, y3, y4⟩, -⟩ := cells_five hx2
    by_cases hc1 : e1 = 0
    case neg =>
      have HR3 := HRA2.out
      rw [if_pos hc1] at HR3
      subst HR3
      have n0 : ((e1 : Int) == 0) = false := by simpa using hc1
      clear hc1
      go_wp2_with (refine wpList_store_disk rfl (.tmp 6) (.tmp 85) rfl gr o1 c1 ⟨L1, rm1, st1, fu1, dn1⟩ (by rfl) (by rfl) hr2 ?_)
      refine bodyPost_ret (v := .tuple #[rdV o1 c1 ⟨L1, rm1, st1, fu1, dn1⟩, .int .i64 (e1 : Int)]) (by rw [results_disk_tmp rfl _ _ gr _ rfl (putD_heap o1 c1 ⟨L1, rm1, st1, fu1, dn1⟩ hr2) rfl]; rfl) rfl ?_
      exact ⟨⟨o1, c1, rfl, (HRA3.out.kp (putD_kp _ _ _ _ _) (fun j _ c e => c.2.2 e)).mono (fun j _ c => c.1), HK2.out.fin (putD_kp _ _ _ _ _) (fun j e => Or.inr (by omega))⟩⟩
    subst hc1
    have HR3 := HRA2.out
    rw [if_neg (by simp)] at HR3
    rw [Int.natCast_zero]
    obtain ⟨h1, d1⟩ := H1.out
    obtain ⟨pl, hpl⟩ : ∃ pl, Hid (paperL t1 sl (sumN b) = pl) := ⟨_, Lib.hid rfl⟩
    rw [Int.toNat_natCast, hpl.out] at HR3
    have hlen2 : pl.length ≤ 100 := by rw [← hpl.out]; have := length_paperL t1 sl (sumN b); omega
    have h2 := sim_lay h1.1 d1 (by omega) ckTmp pl
    have d2 := layF_ok d1 (by omega) ckTmp pl
    have q2 := layF_steps s1.1 ckTmp pl
    have hlayB := fun (P' : Nat → Prop) (bo : Option Addr) (bm bc : Nat) (W : World) (hr : RA P' W o1 L1.length c1 L1) (hp : ∀ j, W.heap.size ≤ j → P' j) (hb : BS W bo bm bc pl) => lay_ref P' o1 c1 ⟨L1, rm1, st1, fu1, dn1⟩ s1.1 ckTmp bo bm bc pl W hr hp h1.1 d1 (by decide) hb (by omega) (by omega)
    have k0 : Kp Noone w2 w2.drew := (Kp.refl _ _).drew
    have hsum := refSum_any fo n fc b w2.drew (HBB2.out.1.keep k0) (by omega)
    have hpap := fun W => paper_ref t1 sl (sumN b) W (by have := ht1.out; omega) (by omega) (W64_sumFrom _ _ W64_start)
    rw [hpl.out] at hpap
    unfold NewB at hpap
    clear hpl
    generalize sumN b = sm at *
    generalize layR ⟨L1, rm1, st1, fu1, dn1⟩ ckTmp pl = r2 at *
    generalize layF s1.1 ckTmp pl = s2 at *
    obtain ⟨⟨L2, rm2, st2, fu2, dn2⟩, e2⟩ := r2
    have hlayC : ∀ (bo : Option Addr) (bc : Nat) (W : World), RA (fun j => P j ∧ j ≠ gx ∧ j ≠ gr) W o1 L1.length c1 L1 → (∀ j, W.heap.size ≤ j → P j ∧ j ≠ gx ∧ j ≠ gr) → BS W bo pl.length bc pl →
        Calls Try.prog 59 #[.agg #[.slice o1 L1.length c1, .int .i64 rm1, .int .i64 st1, .int .i64 fu1, .bool dn1], .string ckTmp, .slice bo pl.length bc] W fun e w' => ∃ o2 c2, e = .returned (.tuple #[.agg #[.slice o2 L2.length c2, .int .i64 rm2, .int .i64 st2, .int .i64 fu2, .bool dn2], .int .i64 (e2 : Int)]) ∧ RA (fun j => P j ∧ j ≠ gx ∧ j ≠ gr) w' o2 L2.length c2 L2 ∧ Kp Noone W w' :=
      fun bo bc W hr hp hb => (hlayB _ bo pl.length bc W hr hp hb).mono (fun e w' h => h.ex)
    simp only [] at HR3
    have HRB := Lib.hid HR3
    have H2 := Lib.hid (And.intro h2 d2)
    have hq2 : s2.1.steps ≤ s1.1.steps + 4 := q2
    clear hlayB HR3 h1 d1 h2 d2 q2 H1 HRA2
    go_upto_region 12 with fail
    apply wp_region_four (G := fun _ _ o2 c2 wz => wz.heap[gx]? = some (.cells #[.slice o2 L2.length c2, .int .i64 rm2, .int .i64 st2, .int .i64 fu2, .bool dn2] 51 (0, 0)) ∧ RA (fun j => P j ∧ j ≠ gx ∧ j ≠ gr) wz o2 L2.length c2 L2 ∧ Kp (fun j => j = gx) w2 wz)
    case h =>
      first
        | (go_region_law (first
            | (go_simp; go_at_call 62; refine hsum.mono ?_; rintro e w' ⟨rfl, rfl⟩)
            | (go_simp; go_at_call 61; refine (hpap _).mono ?_; rintro e w3 ⟨pb, pc, rfl, hpo, k3⟩; obtain ⟨⟨z0, z1, z2, z3, z4⟩, -⟩ := cells_five ((k0.trans k3).heap hx2 id))
            | (go_simp; go_at_call 59; refine (hlayC pb pc w3 (HRA3.out.keep (k0.trans k3)) (fun j hj => HP'.out j (by have h := (k0.trans k3).size; omega)) hpo.bs).mono ?_; rintro e w4 ⟨o2, c2, rfl, hra4, k4⟩; obtain ⟨⟨x0, x1, x2, x3, x4⟩, xf⟩ := cells_five (((k0.trans k3).trans k4).heap hx2 id); have xf0 := xf 0; have xf1 := xf 1; have xf2 := xf 2; have xf3 := xf 3; have xf4 := xf 4)))
        | fail
      all_goals (
        refine NoPanic.normal ⟨rfl, pb, pc, o2, c2, rfl, ?_⟩
        exact ⟨set5_heap (((k0.trans k3).trans k4).heap hx2 id) _ _ _ _ _, hra4.kp (set5_kpS (Kp.refl (fun j => j = gx) w4) (g := gx) rfl (.slice o2 L2.length c2) (.int .i64 rm2) (.int .i64 st2) (.int .i64 fu2) (.bool dn2)) (fun j _ c e => c.2.1 e), set5_kpS (Kp.none (S := fun j => j = gx) ((k0.trans k3).trans k4)) (g := gx) rfl (.slice o2 L2.length c2) (.int .i64 rm2) (.int .i64 st2) (.int .i64 fu2) (.bool dn2)⟩)
    case k =>
      intro pb pc o2 c2 w3 hG
      obtain ⟨hx3, hra3, k3⟩ := hG
      have hr3 := k3.heap hr2 (by omega)
      have HRA4 := Lib.hid hra3
      have hs3z : wA.heap.size ≤ w3.heap.size := Nat.le_trans hs2z k3.size
      have HK3 := Lib.hid (HK2.out.fin k3 (fun j e => Or.inr (by omega)))
      clear hlayC hsum hpap hra3 k3 k0 HK2 HBB2 hx2 hr2 HRA3 y0 y1 y2 y3 y4
      obtain ⟨⟨y0, y1, y2, y3, y4⟩, -⟩ := cells_five hx3
      by_cases hc2 : e2 = 0
      case neg =>
        have HR3 := HRB.out
        rw [if_pos hc2] at HR3
        subst HR3
        have n0 : ((e2 : Int) == 0) = false := by simpa using hc2
        clear hc2
        go_wp2_with (refine wpList_store_disk rfl (.tmp 6) (.tmp 85) rfl gr o2 c2 ⟨L2, rm2, st2, fu2, dn2⟩ (by rfl) (by rfl) hr3 ?_)
        refine bodyPost_ret (v := .tuple #[rdV o2 c2 ⟨L2, rm2, st2, fu2, dn2⟩, .int .i64 (e2 : Int)]) (by rw [results_disk_tmp rfl _ _ gr _ rfl (putD_heap o2 c2 ⟨L2, rm2, st2, fu2, dn2⟩ hr3) rfl]; rfl) rfl ?_
        exact ⟨⟨o2, c2, rfl, (HRA4.out.kp (putD_kp _ _ _ _ _) (fun j _ c e => c.2.2 e)).mono (fun j _ c => c.1), HK3.out.fin (putD_kp _ _ _ _ _) (fun j e => Or.inr (by omega))⟩⟩
      subst hc2
      have HR3 := HRB.out
      rw [if_neg (by simp)] at HR3
      rw [Int.natCast_zero]
      obtain ⟨h2, d2⟩ := H2.out
      have h3 := sim_move h2.1 d2 ckTmp ckNow
      have d3 := moveF_ok d2 ckTmp ckNow (by omega)
      have q3 := moveF_steps s2.1 ckTmp ckNow
      have D3 := do_step (fun j => P j ∧ j ≠ gx ∧ j ≠ gr) o2 c2 ⟨L2, rm2, st2, fu2, dn2⟩ s2.1 (oMove ckTmp ckNow) none 0 0 none 0 0 w3 HRA4.out (fun j hj => HP'.out j (by omega)) h2.1 d2 (op_move (by decide) (by decide)) (BS.nil _ _) (IS.nil _) (by omega)
      generalize doE ⟨L2, rm2, st2, fu2, dn2⟩ (oMove ckTmp ckNow) = r3 at *
      generalize moveF s2.1 ckTmp ckNow = s3 at *
      obtain ⟨⟨L3, rm3, st3, fu3, dn3⟩, e3⟩ := r3
      unfold saveCR at HR3
      simp only [] at D3 HR3
      have HRC := Lib.hid HR3
      have H3 := Lib.hid (And.intro h3 d3)
      clear HR3 h2 d2 h3 d3 H2 HRB
      go_wp2_with fail
      refine D3.mono ?_
      clear D3
      rintro e w4 ⟨o3, c3, x3o, x3n, x3c, rfl, hra4, k4⟩
      have hx4 := k4.heap hx3 id
      have hr4 := k4.heap hr3 id
      have p4 := putD_kp w4 gx o3 c3 ⟨L3, rm3, st3, fu3, dn3⟩
      have hx5 := putD_heap o3 c3 ⟨L3, rm3, st3, fu3, dn3⟩ hx4
      have hr5 := p4.heap hr4 (by omega)
      have HRA5 := Lib.hid (hra4.kp p4 (fun j _ c e => c.2.1 e))
      have HK5 := Lib.hid ((HK3.out.trans k4).fin p4 (fun j e => Or.inr (by omega)))
      have hs5z : wA.heap.size ≤ (putD w4 gx o3 c3 ⟨L3, rm3, st3, fu3, dn3⟩).heap.size := Nat.le_trans hs3z (Nat.le_trans k4.size p4.size)
      unfold rdV rdC
      simp only []
      go_upto_region 15 with (refine wpList_store_disk rfl (.tmp 3) (.tmp 65) rfl gx o3 c3 ⟨L3, rm3, st3, fu3, dn3⟩ (by rfl) (by rfl) hx4 ?_)
      clear y0 y1 y2 y3 y4 p4 hx4 hr4 k4 hx3 hr3 hra4 HRA4 HK3 hs3z
      generalize putD w4 gx o3 c3 ⟨L3, rm3, st3, fu3, dn3⟩ = w5 at *
      unfold rdC at hx5
      simp only [] at hx5
      obtain ⟨⟨y0, y1, y2, y3, y4⟩, -⟩ := cells_five hx5
      by_cases hc3 : e3 = 0
      case neg =>
        have HR3 := HRC.out
        rw [if_pos hc3] at HR3
        subst HR3
        have n0 : ((e3 : Int) == 0) = false := by simpa using hc3
        clear hc3
        go_wp2_with (refine wpList_store_disk rfl (.tmp 6) (.tmp 85) rfl gr o3 c3 ⟨L3, rm3, st3, fu3, dn3⟩ (by rfl) (by rfl) hr5 ?_)
        refine bodyPost_ret (v := .tuple #[rdV o3 c3 ⟨L3, rm3, st3, fu3, dn3⟩, .int .i64 (e3 : Int)]) (by rw [results_disk_tmp rfl _ _ gr _ rfl (putD_heap o3 c3 ⟨L3, rm3, st3, fu3, dn3⟩ hr5) rfl]; rfl) rfl ?_
        exact ⟨⟨o3, c3, rfl, (HRA5.out.kp (putD_kp _ _ _ _ _) (fun j _ c e => c.2.2 e)).mono (fun j _ c => c.1), HK5.out.fin (putD_kp _ _ _ _ _) (fun j e => Or.inr (by omega))⟩⟩
      subst hc3
      have HR3 := HRC.out
      rw [if_neg (by simp)] at HR3
      rw [Int.natCast_zero]
      by_cases ht0 : 0 < tn
      case neg =>
        rw [if_neg ht0] at HR3
        subst HR3
        clear hcl htn hsl hti
        obtain rfl : tn = 0 := by omega
        clear ht0
        go_wp2_with (refine wpList_store_disk rfl (.tmp 6) (.tmp 85) rfl gr o3 c3 ⟨L3, rm3, st3, fu3, dn3⟩ (by rfl) (by rfl) hr5 ?_)
        refine bodyPost_ret (v := .tuple #[rdV o3 c3 ⟨L3, rm3, st3, fu3, dn3⟩, .int .i64 0]) (by rw [results_disk_tmp rfl _ _ gr _ rfl (putD_heap o3 c3 ⟨L3, rm3, st3, fu3, dn3⟩ hr5) rfl]; rfl) rfl ?_
        exact ⟨⟨o3, c3, rfl, (HRA5.out.kp (putD_kp _ _ _ _ _) (fun j _ c e => c.2.2 e)).mono (fun j _ c => c.1), HK5.out.fin (putD_kp _ _ _ _ _) (fun j e => Or.inr (by omega))⟩⟩
      rw [if_pos ht0] at HR3
      obtain ⟨h3, d3⟩ := H3.out
      have k0 : Kp Noone w5 w5.drew := (Kp.refl _ _).drew
      have D4 := do_step (fun j => P j ∧ j ≠ gx ∧ j ≠ gr) o3 c3 ⟨L3, rm3, st3, fu3, dn3⟩ s3.1 (oDrop (areaN tn)) none 0 0 none 0 0 w5.drew (HRA5.out.keep k0) (fun j hj => HP'.out j (by have h := k0.size; omega)) h3.1 d3 (op_drop (by have h := areaN_size tn; unfold maxLen; omega)) (BS.nil _ _) (IS.nil _) (by omega)
      generalize doE ⟨L3, rm3, st3, fu3, dn3⟩ (oDrop (areaN tn)) = r4 at *
      obtain ⟨⟨L4, rm4, st4, fu4, dn4⟩, e4⟩ := r4
      unfold saveDR at HR3
      simp only [] at D4 HR3
      unfold rdV rdC at D4
      simp only [] at D4
      have HRD := Lib.hid HR3
      clear HR3 h3 d3 H3 HRC hcl htn hsl hti
      go_upto_region 16 with fail
      apply wp_region_5 (G := fun _ _ _ o4 c4 wz => wz.heap[gx]? = some (.cells #[.slice o4 L4.length c4, .int .i64 rm4, .int .i64 st4, .int .i64 fu4, .bool dn4] 51 (0, 0)) ∧ RA (fun j => P j ∧ j ≠ gx ∧ j ≠ gr) wz o4 L4.length c4 L4 ∧ Kp (fun j => j = gx) w5 wz)
      case h =>
        first
          | (go_region_law (first
              | (go_simp; go_at_call 60; refine (area_ref tn _).mono ?_; rintro e w' ⟨rfl, rfl⟩)
              | (go_simp; go_at_call 29; refine D4.mono ?_; rintro e w6 ⟨o4, c4, x4o, x4n, x4c, rfl, hra6, k6⟩; obtain ⟨⟨z0, z1, z2, z3, z4⟩, zf⟩ := cells_five ((k0.trans k6).heap hx5 id); have zf0 := zf 0; have zf1 := zf 1; have zf2 := zf 2; have zf3 := zf 3; have zf4 := zf 4)))
          | fail
        all_goals (
          refine NoPanic.normal ⟨rfl, x4n, x4o, x4c, o4, c4, rfl, ?_⟩
          exact ⟨set5_heap ((k0.trans k6).heap hx5 id) _ _ _ _ _, hra6.kp (set5_kpS (Kp.refl (fun j => j = gx) w6) (g := gx) rfl (.slice o4 L4.length c4) (.int .i64 rm4) (.int .i64 st4) (.int .i64 fu4) (.bool dn4)) (fun j _ c e => c.2.1 e), set5_kpS (Kp.none (S := fun j => j = gx) (k0.trans k6)) (g := gx) rfl (.slice o4 L4.length c4) (.int .i64 rm4) (.int .i64 st4) (.int .i64 fu4) (.bool dn4)⟩)
      case k =>
        intro x4n x4o x4c o4 c4 w6 hG
        obtain ⟨hx6, hra6, k6⟩ := hG
        have hr6 := k6.heap hr5 (by omega)
        have HRA6 := Lib.hid hra6
        have HK6 := Lib.hid (HK5.out.fin k6 (fun j e => Or.inr (by omega)))
        clear D4 hra6 k6 k0 HK5 hx5 hr5 HRA5 y0 y1 y2 y3 y4
        obtain ⟨⟨y0, y1, y2, y3, y4⟩, -⟩ := cells_five hx6
        by_cases h41 : e4 = 41
        · subst h41
          have HR3 := HRD.out
          rw [if_pos rfl] at HR3
          subst HR3
          go_wp2_with (refine wpList_store_disk rfl (.tmp 6) (.tmp 85) rfl gr o4 c4 ⟨L4, rm4, st4, fu4, dn4⟩ (by rfl) (by rfl) hr6 ?_)
          refine bodyPost_ret (v := .tuple #[rdV o4 c4 ⟨L4, rm4, st4, fu4, dn4⟩, .int .i64 0]) (by rw [results_disk_tmp rfl _ _ gr _ rfl (putD_heap o4 c4 ⟨L4, rm4, st4, fu4, dn4⟩ hr6) rfl]; rfl) rfl ?_
          exact ⟨⟨o4, c4, rfl, (HRA6.out.kp (putD_kp _ _ _ _ _) (fun j _ c e => c.2.2 e)).mono (fun j _ c => c.1), HK6.out.fin (putD_kp _ _ _ _ _) (fun j e => Or.inr (by omega))⟩⟩
        · have HR3 := HRD.out
          rw [if_neg h41] at HR3
          subst HR3
          have n4 : ((e4 : Int) == 41) = false := by simp; omega
          clear h41
          go_wp2_with (refine wpList_store_disk rfl (.tmp 6) (.tmp 85) rfl gr o4 c4 ⟨L4, rm4, st4, fu4, dn4⟩ (by rfl) (by rfl) hr6 ?_)
          refine bodyPost_ret (v := .tuple #[rdV o4 c4 ⟨L4, rm4, st4, fu4, dn4⟩, .int .i64 (e4 : Int)]) (by rw [results_disk_tmp rfl _ _ gr _ rfl (putD_heap o4 c4 ⟨L4, rm4, st4, fu4, dn4⟩ hr6) rfl]; rfl) rfl ?_
          exact ⟨⟨o4, c4, rfl, (HRA6.out.kp (putD_kp _ _ _ _ _) (fun j _ c e => c.2.2 e)).mono (fun j _ c => c.1), HK6.out.fin (putD_kp _ _ _ _ _) (fun j e => Or.inr (by omega))⟩⟩

end Go.Proofs.Ytigdhdclfdojgaa
