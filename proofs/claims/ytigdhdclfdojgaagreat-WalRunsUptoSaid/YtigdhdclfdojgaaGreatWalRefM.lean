/-
  THE WALK of the document's log: Open.
-/
import Derived.Test.YtigdhdclfdojgaaGreatWalRefKL
namespace Go.Proofs.YtigdhdclfdojgaaGreat
open Go.RowKit

/-- Between two strays. -/
structure StQ (P : Nat → Prop) (wB : World) (gr g7 : Nat) (g : FndR) (s0 : DS) (n : Int) (RES0 : RLE) (vi : Value) (wr : World) : Prop where
  ex : ∃ (j : Nat) (ao : Option Addr) (cap : Nat) (m : RLog) (s : DS), vi = .int .i64 ((j : Int) - 1) ∧ j ≤ g.strays.length ∧ wr.heap[g7]? = some (.cells (rlC ao cap none 0 m) 37 (0, 0)) ∧ wr.heap[gr]? = some (.cells rl0C 37 (0, 0)) ∧
    RA (fun j => P j ∧ j ≠ gr ∧ j ≠ g7) wr ao m.d.L.length cap m.d.L ∧ m.ps = [] ∧ Kp (fun j => j = g7) wB wr ∧ SimW m s (freshL n) ∧ DOk s ∧ s.steps + j ≤ s0.steps + g.strays.length ∧ strayR (g.strays.take j).reverse m = RES0
theorem RSP.kp {P S : Nat → Prop} {w w' : World} {ro : Option Addr} {rc : Nat} {recs : Recs} (h : RSP P w ro rc recs) (k : Kp S w w') (hd : ∀ j, P j → ¬ S j) : RSP P w' ro rc recs := by
  obtain ⟨rh, ho, hr⟩ := h
  exact ⟨rh, ho.kp k hd, hr.kp k (fun j _ c => hd j c)⟩
theorem RSP.mono {P Q : Nat → Prop} {w : World} {ro : Option Addr} {rc : Nat} {recs : Recs} (h : RSP P w ro rc recs) (hq : ∀ j, P j → Q j) : RSP Q w ro rc recs := by
  obtain ⟨rh, ho, hr⟩ := h
  exact ⟨rh, ho.mono (fun j _ c => hq j c), hr.mono (fun j _ c => hq j c)⟩
theorem recs_ex (P : Nat → Prop) (ao : Option Addr) (cap : Nat) (po : Option Addr) (pc : Nat) (m : RLog) (w : World) (hps : RPs P w po m.ps.length pc m.ps) (hP : ∀ j, w.heap.size ≤ j → P j) (hlen : m.ps.length ≤ 100000) (hnr : ∀ p ∈ m.ps, p.recs.length ≤ 28147497) (hfr : ∀ p ∈ m.ps, p.first + p.recs.length ≤ 4611686018427387904) :
    Calls Tryz.prog 60 #[.agg #[.slice ao m.d.L.length cap, .int .i64 m.d.room, .int .i64 m.d.steps, .int .i64 m.d.fuse, .bool m.d.down, .int .i64 (m.lim : Int), .slice po m.ps.length pc, .bool m.shut]] w fun e w' => ∃ ro rc, e = .returned (.slice ro (recsOf m.ps).length rc) ∧ RSP P w' ro rc (recsOf m.ps) ∧ Kp Noone w w' :=
  (recs_ref P ao cap po pc m w hps hP hlen hnr hfr).mono (fun _ _ h => h.ex)
theorem begin_11 (P : Nat → Prop) (ao : Option Addr) (cap : Nat) (m : RLog) (s : DS) (l : LogP) (w : World) (h : RA P w ao m.d.L.length cap m.d.L) (hps : m.ps = []) (hP : ∀ j, w.heap.size ≤ j → P j) (hs : SimW m s l) (hd : DOk s) (hst : s.steps < 4611686018427387900) :
    Calls Tryz.prog 59 #[.agg #[.slice ao m.d.L.length cap, .int .i64 m.d.room, .int .i64 m.d.steps, .int .i64 m.d.fuse, .bool m.d.down, .int .i64 (m.lim : Int), .slice none 0 0, .bool m.shut], .int .i64 1, .int .i64 1] w fun e w' => LogTo P w (begR m 1 1) e w' := by
  have h2 := begin_ref P ao cap none 0 m s l 1 1 w h (by rw [hps]; exact RPs.nil _ _ _) hP hs hd (by omega) (by omega) (by rw [hps]; simp) hst
  unfold rlV rlC at h2
  rw [hps] at h2
  exact h2
def lim9 (n : Int) : Int := if n < 1 then 1 else n
theorem lim9_int (n : Int) : (if 65536 < lim9 n then 65536 else lim9 n) = (limF n : Int) := by
  unfold lim9 limF
  split <;> split <;> omega
attribute [local irreducible] putD doE putL9 stepR walName headerL foundR openDropR strayR

set_option maxHeartbeats 8000000 in
set_option maxRecDepth 100000 in
theorem openD_ref (P : Nat → Prop) (ao : Option Addr) (cap : Nat) (m : RD) (s : DS) (n : Int) (w : World) (h : RA P w ao m.L.length cap m.L) (hP : ∀ j, w.heap.size ≤ j → P j) (hs : Sim m s) (hd : DOk s) (hL : m.L.length ≤ 64) (hD : ∀ x ∈ m.L, x.1.size ≤ maxLen ∧ x.2.data.length ≤ 4194304) (hst : s.steps < 4611686018427000000) :
    Calls Tryz.prog 31 #[rdV ao cap m, .int .i64 n] w fun e w' => OpnTo P w (openR m n) e w' := by
  obtain ⟨RES, hRES⟩ : ∃ x, Hid (openR m n = x) := ⟨_, Lib.hid rfl⟩
  rw [hRES.out]
  have HR := hRES.out
  unfold openR at HR
  obtain ⟨hx, hr, kA, eA⟩ := two_new w (.cells (rdC ao cap m) 26) (.cells rl0C 37)
  have HRR := Lib.hid HR
  clear hRES HR
  conv => unfold rdV
  simp only [rdC, rl0C] at hx hr kA eA ⊢
  have HH := Lib.hid (And.intro hs (And.intro hd (And.intro hL (And.intro hD hst))))
  have HL9 := Lib.hid (lim9_int n)
  clear hs hd hL hD hst
  go_enter Tryz.func31, Tryz.ntmps31
  go_upto_region 1 with fail
  generalize (w.alloc (.cells #[.slice ao m.L.length cap, .int .i64 m.room, .int .i64 m.steps, .int .i64 m.fuse, .bool m.down] 26)).alloc (.cells #[.slice none 0 0, .int .i64 0, .int .i64 0, .int .i64 0, .bool false, .int .i64 0, .slice none 0 0, .bool false] 37) = wA at *
  generalize hgr : w.heap.size + 1 = gr at *
  generalize hgx : w.heap.size = gx at *
  have HKA := Lib.hid kA
  have HP := Lib.hid hP
  have HRA0 := Lib.hid h
  clear h kA hP
  go_upto_if 19 with fail
  go_cut [1] from 18 (fun v wx => v = .int .i64 (lim9 n) ∧ wA = wx)
  case first =>
    by_cases hn : n < 1
    · have e : lim9 n = 1 := by unfold lim9; rw [if_pos hn]
      go_wp2_with fail
      go_meet
      case rel => rw [e]; exact ⟨rfl, rfl⟩
    · have e : lim9 n = n := by unfold lim9; rw [if_neg hn]
      go_wp2_with fail
      go_meet
      case rel => rw [e]; exact ⟨rfl, rfl⟩
  case rest =>
  obtain ⟨rfl, rfl⟩ := id hcut
  clear hcut
  obtain ⟨lm, hlm⟩ : ∃ x, Hid (lim9 n = x) := ⟨_, Lib.hid rfl⟩
  rw [hlm.out]
  go_upto_if 21 with fail
  go_cut [1] from 18 (fun v wx => v = .int .i64 (limF n : Int) ∧ wA = wx)
  case first =>
    have e := HL9.out
    rw [hlm.out] at e
    by_cases hn : 65536 < lm
    · rw [if_pos hn] at e
      have HE := Lib.hid e
      clear e
      go_wp2_with fail
      go_meet
      case rel => rw [← HE.out]; exact ⟨rfl, rfl⟩
    · rw [if_neg hn] at e
      have HE := Lib.hid e
      clear e
      go_wp2_with fail
      go_meet
      case rel => rw [← HE.out]; exact ⟨rfl, rfl⟩
  case rest =>
  obtain ⟨rfl, rfl⟩ := id hcut
  clear hcut hlm HL9
  have hy7 := heap_alloc_new wA (.cells #[.slice none 0 0, .int .i64 0, .int .i64 0, .int .i64 0, .bool false, .int .i64 0, .slice none 0 0, .bool false] 37)
  have k7 : Kp Noone wA (wA.alloc (.cells #[.slice none 0 0, .int .i64 0, .int .i64 0, .int .i64 0, .bool false, .int .i64 0, .slice none 0 0, .bool false] 37)) := (Kp.refl _ _).alloc _
  rw [eA] at hy7
  obtain ⟨m0, hm0⟩ : ∃ x : RLog, Hid (x = ⟨m, limF n, [], false⟩) := ⟨_, Lib.hid rfl⟩
  have hput7 := putL9_heap ao cap none 0 m0 hy7
  have kL7 := putL9_kp (wA.alloc (.cells #[.slice none 0 0, .int .i64 0, .int .i64 0, .int .i64 0, .bool false, .int .i64 0, .slice none 0 0, .bool false] 37)) (gx + 2) ao cap none 0 m0
  have kB := k7.fin kL7 (fun j e => Or.inr (by omega))
  have hxB := kB.heap hx id
  have hrB := kB.heap hr id
  obtain ⟨⟨y0, y1, y2, y3, y4⟩, -⟩ := cells_five hx
  go_upto_region 6 with (refine wpList_store_rlog rfl (.tmp 7) (.tmp 24) rfl (gx + 2) ao cap none 0 m0 (by rfl) (by rw [hm0.out]; rfl) hy7 ?_)
  have hzB := kB.size
  have HKB := Lib.hid (HKA.out.trans kB)
  have HRAB := Lib.hid ((HRA0.out.mono (Q := fun j => P j ∧ j ≠ gr ∧ j ≠ gx + 2) (fun j hj c => ⟨c, by omega, by omega⟩)).keep HKB.out)
  clear y0 y1 y2 y3 y4 hx hr hy7 k7 kL7 kB HRA0
  generalize putL9 (wA.alloc (.cells #[.slice none 0 0, .int .i64 0, .int .i64 0, .int .i64 0, .bool false, .int .i64 0, .slice none 0 0, .bool false] 37)) (gx + 2) ao cap none 0 m0 = wB at *
  generalize hg7 : gx + 2 = g7 at *
  have hgB : g7 < wB.heap.size := (Array.getElem?_eq_some_iff.1 hput7).1
  obtain ⟨⟨y0, y1, y2, y3, y4⟩, -⟩ := cells_five hxB
  have HP' : Hid (∀ j, wB.heap.size ≤ j → P j ∧ j ≠ gr ∧ j ≠ g7) := Lib.hid (fun j hj => ⟨HP.out j (by omega), by omega, by omega⟩)
  by_cases hdn : m.down = true
  · have HR2 := HRR.out
    rw [if_pos hdn, ← hm0.out] at HR2
    rw [hdn] at y4
    have HR3 := Lib.hid HR2
    have hm1 : m0.d = m := by rw [hm0.out]
    have hm2 : m0.ps = [] := by rw [hm0.out]
    have hrr : RA P (putL9 wB gr ao cap none 0 m0) ao m0.d.L.length cap m0.d.L := by
      rw [hm1]
      exact (HRAB.out.kp (putL9_kp wB gr ao cap none 0 m0) (fun j _ c e => c.2.1 e)).mono (fun j _ c => c.1)
    have HRX := Lib.hid hrr
    have HM2 := Lib.hid hm2
    unfold rlC at hput7
    obtain ⟨⟨x0, x1, x2, x3⟩, ⟨x4, x5, x6, x7⟩, -⟩ := cells_8 hput7
    clear hdn hm1 hm2 hrr HR2
    go_wp2_with (refine wpList_store_rlog rfl (.tmp 4) (.tmp 27) rfl gr ao cap none 0 m0 (by rfl) (by rfl) hrB ?_)
    refine bodyPost_ret (v := .tuple #[rlV ao cap none 0 m0, .slice none 0 0, .int .i64 2]) (by rw [results_rlog_tmp2 rfl _ _ gr _ rfl (putL9_heap ao cap none 0 m0 hrB) rfl]; rfl) rfl ?_
    rw [← HR3.out]
    refine ⟨⟨ao, cap, none, 0, none, 0, rfl, HRX.out, ?_, RSP.nil _ _, HKB.out.fin (putL9_kp wB gr ao cap none 0 m0) (fun j e => Or.inr (by omega))⟩⟩
    simp only [HM2.out]
    exact RPs.nil _ _ _
  have HR2 := HRR.out
  rw [if_neg hdn, ← hm0.out] at HR2
  have hdf : m.down = false := by simpa using hdn
  rw [hdf] at y4
  obtain ⟨HS, HD0, HLL, HDD, HST⟩ := HH.out
  obtain ⟨hok, hbd⟩ := foundR_ok HLL (fun x hx => (HDD x hx).2)
  have hfd := found_ref (fun j => P j ∧ j ≠ gr ∧ j ≠ g7) ao m.L.length cap m.L wB HRAB.out HLL HDD HP'.out
  have hsl : s.steps + ((foundR (datL m.L)).strays.length : Int) < 4611686018427100000 := by have := hbd.strays; omega
  generalize foundR (datL m.L) = g at *
  have HOK := Lib.hid (And.intro hok (And.intro hbd (And.intro HST hsl)))
  have HS0 : Hid (SimW m0 s (freshL n)) := Lib.hid (by rw [hm0.out]; exact ⟨HS, rfl, rfl, rfl, fun c => absurd rfl c⟩)
  have HDK := Lib.hid HD0
  have HRR2 := Lib.hid HR2
  have hm1 : m0.d = m := by rw [hm0.out]
  have hm2 : m0.ps = [] := by rw [hm0.out]
  have HM := Lib.hid (And.intro hm1 hm2)
  clear hdn hdf hok hbd HS HD0 HLL HDD HST hsl HR2 HH HRR hm1 hm2 hm0
  go_wp2_with fail
  refine hfd.mono ?_
  clear hfd
  rintro e w2 hto
  obtain ⟨po, pc, so, sc, rfl, hps2, hst2, k2⟩ := hto.ex
  clear hto
  have hsl := HOK.out.2.1.strays
  have hsw : IntKind.i64.wrap ((g.strays.length : Int) - 1) = (g.strays.length : Int) - 1 := IntWalk.i64_in _ (by omega)
  have hput2 := k2.heap hput7 id
  have hr2 := k2.heap hrB id
  obtain ⟨RES0, hR0⟩ : ∃ x, Hid (strayR g.strays.reverse m0 = x) := ⟨_, Lib.hid rfl⟩
  have HRES : Hid (openDropR g RES0 = RES) := Lib.hid (by rw [← hR0.out]; exact HRR2.out)
  have R0 : Hid (StQ P w2 gr g7 g s n RES0 (.int .i64 ((g.strays.length : Int) - 1)) w2) := Lib.hid ⟨⟨g.strays.length, ao, cap, m0, s, rfl, Nat.le_refl _, hput2, hr2, by rw [HM.out.1]; exact HRAB.out.keep k2, HM.out.2, Kp.refl _ _, HS0.out, HDK.out, Int.le_refl _, by rw [List.take_length]; exact hR0.out⟩⟩
  have HK2 := Lib.hid (HKB.out.trans k2)
  have hz2 := k2.size
  have HPS := Lib.hid hps2
  have HSTR := Lib.hid hst2
  clear HRR2 hput7 hrB hxB y0 y1 y2 y3 y4 HRAB HS0 HDK hR0 HM hps2 hst2 k2 HKB HKA hput2 hr2
  go_wp2_with fail
  clear hsw
  go_loopw [11] (fun vi wr => StQ P w2 gr g7 g s n RES0 vi wr) (fun vi _ => (intOf vi + 1).toNat)
  case atStart => exact R0.out
  case round =>
    clear R0
    obtain ⟨j, ao2, cap2, m2, s2, rfl, hj, hx2, hr2, hra2, hp2, k2, hs2, hd2, hst2, hf2⟩ := hrel.ex
    clear hrel
    have hz3 := k2.size
    simp only [rlC, rl0C] at hx2 hr2
    by_cases hj0 : j = 0
    · subst hj0
      have hr0 : RES0 = (m2, 0) := by
        rw [← hf2]
        unfold strayR
        rfl
      have hE := HRES.out
      rw [hr0] at hE
      unfold openDropR at hE
      rw [if_neg (by simp)] at hE
      simp only [] at hE
      have HP3 : Hid (∀ j, wr.heap.size ≤ j → P j ∧ j ≠ gr ∧ j ≠ g7) := Lib.hid (fun j hj => HP'.out j (by omega))
      have hst3 : s2.steps < 4611686018427200000 := by have := HOK.out.2.2.2; omega
      rw [hp2, List.length_nil] at hx2
      by_cases hg : g.ps = []
      · rw [if_pos hg] at hE
        have hb := begin_11 (fun j => P j ∧ j ≠ gr ∧ j ≠ g7) ao2 cap2 m2 s2 (freshL n) wr hra2 hp2 HP3.out hs2 hd2 (by omega)
        generalize begR m2 1 1 = rb at *
        obtain ⟨m3, e3⟩ := rb
        have HE := Lib.hid hE
        have HK3 := Lib.hid k2
        have hgl : g.ps.length = 0 := by rw [hg]; rfl
        obtain ⟨⟨y0, y1, y2, y3⟩, ⟨y4, y5, y6, y7⟩, -⟩ := cells_8 hx2
        clear hE hf2 hr0 hg hra2 hs2 hd2 hp2 k2 HRES hst2
        go_wp2_with fail
        refine hb.mono ?_
        clear hb
        rintro e w3 hto
        obtain ⟨o3, c3, po3, pc3, rfl, hra3, hps3, k3⟩ := hto.ex
        have hy := heap_alloc_new w3 (.cells #[.slice none 0 0, .int .i64 0, .int .i64 0, .int .i64 0, .bool false, .int .i64 0, .slice none 0 0, .bool false] 37)
        have kN : Kp Noone w3 (w3.alloc (.cells #[.slice none 0 0, .int .i64 0, .int .i64 0, .int .i64 0, .bool false, .int .i64 0, .slice none 0 0, .bool false] 37)) := (Kp.refl _ _).alloc _
        have hx4 := putL9_heap o3 c3 po3 pc3 m3 hy
        have k4 := kN.fin (putL9_kp (w3.alloc (.cells #[.slice none 0 0, .int .i64 0, .int .i64 0, .int .i64 0, .bool false, .int .i64 0, .slice none 0 0, .bool false] 37)) w3.heap.size o3 c3 po3 pc3 m3) (fun j e => Or.inr (by omega))
        have hr4 := k4.heap (k3.heap hr2 id) id
        have HRA4 := Lib.hid (hra3.keep k4)
        have HPS4 := Lib.hid (hps3.keep k4)
        have HK4 := Lib.hid (((HK2.out.fin HK3.out (fun j e => Or.inr (by omega))).trans k3).trans k4)
        clear hto hra3 hps3 k3 k4 kN y0 y1 y2 y3 y4 y5 y6 y7
        go_upto_region 18 with (refine wpList_store_rlog rfl (.tmp 14) (.tmp 64) rfl w3.heap.size o3 c3 po3 pc3 m3 (by rfl) (by rfl) hy ?_)
        clear hy
        generalize putL9 (w3.alloc (.cells #[.slice none 0 0, .int .i64 0, .int .i64 0, .int .i64 0, .bool false, .int .i64 0, .slice none 0 0, .bool false] 37)) w3.heap.size o3 c3 po3 pc3 m3 = w4 at *
        generalize w3.heap.size = gy at *
        unfold rlC at hx4
        obtain ⟨⟨y0, y1, y2, y3⟩, ⟨y4, y5, y6, y7⟩, -⟩ := cells_8 hx4
        go_wp2_with (refine wpList_store_rlog rfl (.tmp 4) (.tmp 66) rfl gr o3 c3 po3 pc3 m3 (by rfl) (by rfl) hr4 ?_)
        refine bodyPost_ret (v := .tuple #[rlV o3 c3 po3 pc3 m3, .slice none 0 0, .int .i64 (e3 : Int)]) (by rw [results_rlog_tmp2 rfl _ _ gr _ rfl (putL9_heap o3 c3 po3 pc3 m3 hr4) rfl]; rfl) rfl ?_
        have kL := putL9_kp w4 gr o3 c3 po3 pc3 m3
        rw [← HE.out]
        exact ⟨⟨o3, c3, po3, pc3, none, 0, rfl, (HRA4.out.kp kL (fun j _ c e => c.2.1 e)).mono (fun j _ c => c.1), (HPS4.out.kp kL (fun j _ c e => c.2.1 e)).mono (fun j _ c => c.1), RSP.nil _ _, HK4.out.fin kL (fun j e => Or.inr (by omega))⟩⟩
      rw [if_neg hg] at hE
      obtain ⟨N, hN⟩ : ∃ N, g.ps.length = N + 1 := ⟨g.ps.length - 1, by have := List.length_pos_iff.2 hg; omega⟩
      have hNl : N < g.ps.length := by omega
      have htp := tailP_get hN hNl
      have hmem : tailP g.ps ∈ g.ps := tailP_mem hg
      have hnum := (HOK.out.1.ps _ hmem).1
      have hpl := HOK.out.2.1.ps
      have hgood := HOK.out.2.1.good
      have hps2 := HPS.out.kp k2 (fun j _ c e => c.2.2 e)
      obtain ⟨b, off, ro, rc, hpo, hbl, hbP, c0, -, -, -⟩ := hps2.get N hNl
      subst hpo
      rw [← htp] at c0
      have hnm := fun W => name_ref (tailP g.ps).num W hnum
      obtain ⟨-, ⟨-, -, y6, -⟩, yf⟩ := cells_8 hx2
      have yf6 := yf 6
      have hx3 : (wr.setCell ⟨g7, 6, none⟩ (.slice (some ⟨b, off, none⟩) g.ps.length pc)).heap[g7]? = some (.cells (rlC ao2 cap2 (some ⟨b, off, none⟩) pc ⟨m2.d, m2.lim, g.ps, m2.shut⟩) 37 (0, 0)) := (heap_set_cell hx2).trans (by simp [rlC])
      have k3 := (Kp.refl (fun j => j = g7) wr).setCell (p := ⟨g7, 6, none⟩) (fun _ => rfl) (.slice (some ⟨b, off, none⟩) g.ps.length pc)
      have hr3 := k3.heap hr2 (by omega)
      have hC3 := k3.cell c0 (fun e => hbP.2.2 e)
      have HRA3 := Lib.hid (hra2.kp k3 (fun j _ c e => c.2.2 e))
      have HPS3 := Lib.hid (hps2.kp k3 (fun j _ c e => c.2.2 e))
      have HK3 := Lib.hid ((HK2.out.fin k2 (fun j e => Or.inr (by omega))).fin k3 (fun j e => Or.inr (by omega)))
      have hz4 := k3.size
      have HSM := Lib.hid (And.intro hs2.d hd2)
      have hgne : ((g.ps.length : Int) == 0) = false := by simp; omega
      have hgn0 : ¬ g.ps.length = 0 := by omega
      have hw : IntKind.i64.wrap ((g.ps.length : Int) - 1) = (N : Int) := by rw [IntWalk.i64_in _ (by omega)]; omega
      have hw3 : IntKind.i64.wrap (N : Int) = (N : Int) := IntWalk.i64_in _ (by omega)
      have hni : (N : Int) < (g.ps.length : Int) := by omega
      have HE := Lib.hid hE
      have HPB : Hid (∀ p ∈ g.ps, p.num ≤ 999999 ∧ p.first ≤ 1099511627776 ∧ p.recs.length ≤ 4194304 ∧ (pieceD p).length ≤ 4194304) := Lib.hid HOK.out.1.ps
      have HPL := Lib.hid hpl
      clear hE hf2 hr0 hg hra2 hs2 hd2 hp2 k2 HRES hst2 hps2 htp hmem hnum k3 hbP yf hN hNl hx2 hr2 HOK
      generalize htt : (tailP g.ps).num = tn at *
      clear htt
      go_upto_region 20 with fail
      clear y6 yf6 c0
      generalize wr.setCell ⟨g7, 6, none⟩ (.slice (some ⟨b, off, none⟩) g.ps.length pc) = wq at *
      have HP4 : Hid (∀ j, wq.heap.size ≤ j → P j ∧ j ≠ gr ∧ j ≠ g7) := Lib.hid (fun j hj => HP3.out j (by omega))
      go_wp2_with fail
      refine (hnm _).mono ?_
      clear hnm
      rintro e w3 ⟨rfl, k4⟩
      obtain ⟨HSD, HDD⟩ := HSM.out
      have hnl := walName_le tn
      have a1 := sim_cut HSD HDD (walName tn) (g.good : Int)
      have d1 := cutF_ok HDD (walName tn) (g.good : Int) (by omega)
      have s1 := cutF_steps s2 (walName tn) (g.good : Int)
      generalize walName tn = nm at *
      have HS1 := step_ex (fun j => P j ∧ j ≠ gr ∧ j ≠ g7) ao2 cap2 (some ⟨b, off, none⟩) pc ⟨m2.d, m2.lim, g.ps, m2.shut⟩ s2 (oCut nm (g.good : Int)) none 0 0 w3 (HRA3.out.keep k4) (fun j hj => HP4.out j (Nat.le_trans k4.size hj)) HSD HDD (op_cut hnl hgood) (BS.nil _ _) rfl (by omega)
      have hps1 : (stepR ⟨m2.d, m2.lim, g.ps, m2.shut⟩ (oCut nm (g.good : Int))).1.ps = g.ps := by unfold stepR; rfl
      have hsd1 : Sim (stepR ⟨m2.d, m2.lim, g.ps, m2.shut⟩ (oCut nm (g.good : Int))).1.d (cutF s2 nm (g.good : Int)).1 := by unfold stepR; exact a1.1
      have hE := HE.out
      generalize stepR ⟨m2.d, m2.lim, g.ps, m2.shut⟩ (oCut nm (g.good : Int)) = r4 at *
      generalize (cutF s2 nm (g.good : Int)).1 = t4 at *
      obtain ⟨m4, e4⟩ := r4
      unfold openCutR at hE
      simp only [] at hps1 hsd1 HS1 hE
      have HPE := Lib.hid hps1
      have HSM4 := Lib.hid (And.intro hsd1 (And.intro d1 s1))
      have HE4 := Lib.hid hE
      have hx4 := k4.heap hx3 id
      have hr4 := k4.heap hr3 id
      have HPS4 := Lib.hid (HPS3.out.keep k4)
      have HK4 := Lib.hid (HK3.out.trans k4)
      have hz5 := k4.size
      unfold rlC at hx4
      simp only [] at hx4
      obtain ⟨⟨y0, y1, y2, y3⟩, ⟨y4, y5, y6, y7⟩, -⟩ := cells_8 hx4
      clear hE hps1 hsd1 d1 s1 a1 k4 hx3 hr3 HPS3 HK3 HRA3 HE HSM HSD HDD hC3
      go_wp2_with fail
      refine HS1.mono ?_
      clear HS1
      rintro e w4 ⟨o4, c4, rfl, hra4, k5⟩
      have hx5 := k5.heap hx4 id
      have hr5 := k5.heap hr4 id
      have hx6 := putL9_heap o4 c4 (some ⟨b, off, none⟩) pc m4 hx5
      have k6 := putL9_kp w4 g7 o4 c4 (some ⟨b, off, none⟩) pc m4
      have hr6 := k6.heap hr5 (by omega)
      have HRA6 := Lib.hid (hra4.kp k6 (fun j _ c e => c.2.2 e))
      have HPS6 := Lib.hid ((HPS4.out.keep k5).kp k6 (fun j _ c e => c.2.2 e))
      have HK6 := Lib.hid ((HK4.out.trans k5).fin k6 (fun j e => Or.inr (by omega)))
      have hz6 := Nat.le_trans k5.size k6.size
      clear y0 y1 y2 y3 y4 y5 y6 y7 hra4 k5 k6 hx4 hr4 HPS4 HK4
      go_upto_region 22 with (refine wpList_store_rlog rfl (.tmp 7) (.tmp 84) rfl g7 o4 c4 (some ⟨b, off, none⟩) pc m4 (by rfl) (by rfl) hx5 ?_)
      clear hx5 hr5
      generalize putL9 w4 g7 o4 c4 (some ⟨b, off, none⟩) pc m4 = w6 at *
      unfold rlC at hx6
      obtain ⟨⟨y0, y1, y2, y3⟩, ⟨y4, y5, y6, y7⟩, -⟩ := cells_8 hx6
      by_cases he4 : e4 = 0
      case neg =>
        have hE := HE4.out
        rw [if_pos (by simpa using he4)] at hE
        have HE := Lib.hid hE
        have n3 : ((e4 : Int) != 0) = true := by simpa using he4
        clear he4 hE HE4
        go_wp2_with (refine wpList_store_rlog rfl (.tmp 4) (.tmp 88) rfl gr o4 c4 (some ⟨b, off, none⟩) pc m4 (by rfl) (by rfl) hr6 ?_)
        refine bodyPost_ret (v := .tuple #[rlV o4 c4 (some ⟨b, off, none⟩) pc m4, .slice none 0 0, .int .i64 (e4 : Int)]) (by rw [results_rlog_tmp2 rfl _ _ gr _ rfl (putL9_heap o4 c4 (some ⟨b, off, none⟩) pc m4 hr6) rfl]; rfl) rfl ?_
        have kL := putL9_kp w6 gr o4 c4 (some ⟨b, off, none⟩) pc m4
        rw [← HE.out]
        refine ⟨⟨o4, c4, some ⟨b, off, none⟩, pc, none, 0, rfl, (HRA6.out.kp kL (fun j _ c e => c.2.1 e)).mono (fun j _ c => c.1), ?_, RSP.nil _ _, HK6.out.fin kL (fun j e => Or.inr (by omega))⟩⟩
        simp only [HPE.out]
        exact (HPS6.out.kp kL (fun j _ c e => c.2.1 e)).mono (fun j _ c => c.1)
      have hE := HE4.out
      rw [if_neg (by simpa using he4)] at hE
      have n3 : ((e4 : Int) != 0) = false := by subst he4; rfl
      obtain ⟨hsd, hd1, hs1⟩ := HSM4.out
      have a1 := sim_sync hsd hd1 nm
      have HS1 := step_ex (fun j => P j ∧ j ≠ gr ∧ j ≠ g7) o4 c4 (some ⟨b, off, none⟩) pc m4 t4 (oSync nm) none 0 0 w6 HRA6.out (fun j hj => HP4.out j (by omega)) hsd hd1 (op_sync hnl) (BS.nil _ _) rfl (by omega)
      have hps1 : (stepR m4 (oSync nm)).1.ps = m4.ps := by unfold stepR; rfl
      unfold openSyncR at hE
      generalize stepR m4 (oSync nm) = r5 at *
      obtain ⟨m5, e5⟩ := r5
      simp only [] at hps1 HS1 hE
      have HPE5 := Lib.hid (hps1.trans HPE.out)
      have HE5 := Lib.hid hE
      clear he4 hE hps1 a1 hsd hd1 hs1 HSM4 HE4
      go_wp2_with fail
      refine HS1.mono ?_
      clear HS1
      rintro e w7 ⟨o5, c5, rfl, hra5, k7⟩
      have hx7 := k7.heap hx6 id
      have hr7 := k7.heap hr6 id
      have hx8 := putL9_heap o5 c5 (some ⟨b, off, none⟩) pc m5 hx7
      have k8 := putL9_kp w7 g7 o5 c5 (some ⟨b, off, none⟩) pc m5
      have hr8 := k8.heap hr7 (by omega)
      have HRA8 := Lib.hid (hra5.kp k8 (fun j _ c e => c.2.2 e))
      have HPS8 := Lib.hid ((HPS6.out.keep k7).kp k8 (fun j _ c e => c.2.2 e))
      have HK8 := Lib.hid ((HK6.out.trans k7).fin k8 (fun j e => Or.inr (by omega)))
      have hz8 := Nat.le_trans k7.size k8.size
      clear y0 y1 y2 y3 y4 y5 y6 y7 hra5 k7 k8 hx6 hr6 HPS6 HK6 HRA6 n3
      go_upto_region 25 with (refine wpList_store_rlog rfl (.tmp 7) (.tmp 95) rfl g7 o5 c5 (some ⟨b, off, none⟩) pc m5 (by rfl) (by rfl) hx7 ?_)
      clear hx7 hr7
      generalize putL9 w7 g7 o5 c5 (some ⟨b, off, none⟩) pc m5 = w8 at *
      unfold rlC at hx8
      obtain ⟨⟨y0, y1, y2, y3⟩, ⟨y4, y5, y6, y7⟩, -⟩ := cells_8 hx8
      by_cases he5 : e5 = 0
      case neg =>
        have hE := HE5.out
        rw [if_pos (by simpa using he5)] at hE
        have HE := Lib.hid hE
        have n3 : ((e5 : Int) != 0) = true := by simpa using he5
        clear he5 hE HE5
        go_wp2_with (refine wpList_store_rlog rfl (.tmp 4) (.tmp 99) rfl gr o5 c5 (some ⟨b, off, none⟩) pc m5 (by rfl) (by rfl) hr8 ?_)
        refine bodyPost_ret (v := .tuple #[rlV o5 c5 (some ⟨b, off, none⟩) pc m5, .slice none 0 0, .int .i64 (e5 : Int)]) (by rw [results_rlog_tmp2 rfl _ _ gr _ rfl (putL9_heap o5 c5 (some ⟨b, off, none⟩) pc m5 hr8) rfl]; rfl) rfl ?_
        have kL := putL9_kp w8 gr o5 c5 (some ⟨b, off, none⟩) pc m5
        rw [← HE.out]
        refine ⟨⟨o5, c5, some ⟨b, off, none⟩, pc, none, 0, rfl, (HRA8.out.kp kL (fun j _ c e => c.2.1 e)).mono (fun j _ c => c.1), ?_, RSP.nil _ _, HK8.out.fin kL (fun j e => Or.inr (by omega))⟩⟩
        simp only [HPE5.out]
        exact (HPS8.out.kp kL (fun j _ c e => c.2.1 e)).mono (fun j _ c => c.1)
      have hE := HE5.out
      rw [if_neg (by simpa using he5)] at hE
      have HE := Lib.hid hE
      have n3 : ((e5 : Int) != 0) = false := by subst he5; rfl
      have HRC := Lib.hid (fun (W : World) (hq : RPs (fun j => P j ∧ j ≠ gr ∧ j ≠ g7) W (some ⟨b, off, none⟩) m5.ps.length pc m5.ps) (hp : ∀ j, W.heap.size ≤ j → P j ∧ j ≠ gr ∧ j ≠ g7) => recs_ex (fun j => P j ∧ j ≠ gr ∧ j ≠ g7) o5 c5 (some ⟨b, off, none⟩) pc m5 W hq hp (by rw [HPE5.out]; omega) (fun p hp => by have := (HPB.out p (by rw [← HPE5.out]; exact hp)).2.2.1; omega) (fun p hp => by have := (HPB.out p (by rw [← HPE5.out]; exact hp)).2; omega))
      have HPS9 : Hid (RPs (fun j => P j ∧ j ≠ gr ∧ j ≠ g7) w8 (some ⟨b, off, none⟩) m5.ps.length pc m5.ps) := Lib.hid (by rw [HPE5.out]; exact HPS8.out)
      clear he5 hE HE5
      clear y0 y1 y2 y3 y4 y5 y6 y7
      go_upto_region 27 with fail
      have k0 : Kp Noone w8 w8.drew := (Kp.refl _ _).drew
      obtain ⟨⟨y0, y1, y2, y3⟩, ⟨y4, y5, y6, y7⟩, -⟩ := cells_8 (k0.heap hx8 id)
      obtain ⟨⟨u0, u1, u2, u3⟩, ⟨u4, u5, u6, u7⟩, uf⟩ := cells_8 (k0.heap hr8 id)
      have uf0 := uf 0; have uf1 := uf 1; have uf2 := uf 2; have uf3 := uf 3; have uf4 := uf 4; have uf5 := uf 5; have uf6 := uf 6; have uf7 := uf 7
      apply wp_region_two (G := fun ro rc wz => wz.heap[gr]? = some (.cells (rlC o5 c5 (some ⟨b, off, none⟩) pc m5) 37 (0, 0)) ∧ RSP (fun j => P j ∧ j ≠ gr ∧ j ≠ g7) wz ro rc (recsOf m5.ps) ∧ Kp (fun j => j = gr) w8 wz)
      case h =>
        first
          | (go_region_law (go_simp; go_at_call 60; refine (HRC.out _ (HPS9.out.keep k0) (fun j hj => HP4.out j (by have := k0.size; omega))).mono ?_; rintro e w9 ⟨ro, rc, rfl, hrs, k9⟩; have k0 := k0.trans k9; obtain ⟨⟨y0, y1, y2, y3⟩, ⟨y4, y5, y6, y7⟩, -⟩ := cells_8 (k0.heap hx8 id); obtain ⟨⟨u0, u1, u2, u3⟩, ⟨u4, u5, u6, u7⟩, uf⟩ := cells_8 (k0.heap hr8 id); have uf0 := uf 0; have uf1 := uf 1; have uf2 := uf 2; have uf3 := uf 3; have uf4 := uf 4; have uf5 := uf 5; have uf6 := uf 6; have uf7 := uf 7))
          | fail
        all_goals (
          refine NoPanic.normal ⟨rfl, ro, rc, rfl, ?_⟩
          exact ⟨set8_heap (k0.heap hr8 id) _ _ _ _ _ _ _ _, hrs.kp (set8_kp (Kp.refl (fun j => j = gr) w9) (g := gr) rfl _ _ _ _ _ _ _ _) (fun j c e => c.2.1 e), set8_kp (Kp.none (S := fun j => j = gr) k0) (g := gr) rfl _ _ _ _ _ _ _ _⟩)
      case k =>
        intro ro2 rc2 w9 hG
        obtain ⟨hr9, hrs9, k9⟩ := hG
        have HRA9 := Lib.hid (HRA8.out.kp k9 (fun j _ c e => c.2.1 e))
        have HPS10 := Lib.hid (HPS9.out.kp k9 (fun j _ c e => c.2.1 e))
        have HK9 := Lib.hid (HK8.out.fin k9 (fun j e => Or.inr (by omega)))
        have HRS := Lib.hid hrs9
        clear hrs9 k9 k0 y0 y1 y2 y3 y4 y5 y6 y7 u0 u1 u2 u3 u4 u5 u6 u7 uf uf0 uf1 uf2 uf3 uf4 uf5 uf6 uf7
        go_wp2_with fail
        refine bodyPost_ret (v := .tuple #[rlV o5 c5 (some ⟨b, off, none⟩) pc m5, .slice ro2 (recsOf m5.ps).length rc2, .int .i64 0]) (by rw [results_rlog_tmp2 rfl _ _ gr _ rfl hr9 rfl]; rfl) rfl ?_
        rw [← HE.out]
        exact ⟨⟨o5, c5, some ⟨b, off, none⟩, pc, ro2, rc2, rfl, HRA9.out.mono (fun j _ c => c.1), HPS10.out.mono (fun j _ c => c.1), HRS.out.mono (fun j c => c.1), HK9.out⟩⟩
    obtain ⟨i, rfl⟩ : ∃ i, j = i + 1 := ⟨j - 1, by omega⟩
    have hil : i < g.strays.length := by omega
    obtain ⟨gs, offs, rfl, hFs, hgs, c0, -⟩ := (HSTR.out.kp k2 (fun j c e => by have h1 : wB.heap.size ≤ j := c; omega)).at (k := i) (by simp [restV]; omega)
    rw [restV_get hil] at c0
    have hnum : g.strays[i] ≤ 999999 := HOK.out.1.strays _ (List.getElem_mem hil)
    have hf3 := hf2
    rw [take_back hil, strayR_cons] at hf3
    generalize g.strays[i] = sn at *
    rw [show ((i + 1 : Nat) : Int) - 1 = (i : Int) by omega]
    have hii : (i : Int) < (g.strays.length : Int) := by omega
    have hige : (0 : Int) ≤ (i : Int) := by omega
    have hnm := fun W => name_ref sn W hnum
    have hst3 : s2.steps < 4611686018427387900 := by have := HOK.out.2.2.2; omega
    have a1 := sim_drop hs2.d hd2 (walName sn)
    have d1 := dropF_ok hd2 (walName sn) (by omega)
    have s1 := dropF_steps s2 (walName sn)
    have b1 := step_sim hs2 a1
    have b10 := step_zero hs2 a1
    have HS1 := fun (P' : Nat → Prop) (W : World) (hr : RA P' W ao2 m2.d.L.length cap2 m2.d.L) (hp : ∀ j, W.heap.size ≤ j → P' j) => step_ex P' ao2 cap2 none 0 m2 s2 (oDrop (walName sn)) none 0 0 W hr hp hs2.d hd2 (op_drop (walName_le sn)) (BS.nil _ _) rfl (by omega)
    have hps1 : (stepR m2 (oDrop (walName sn))).1.ps = m2.ps := by unfold stepR; rfl
    generalize stepR m2 (oDrop (walName sn)) = r1 at *
    obtain ⟨m1, e1⟩ := r1
    simp only [] at hps1 HS1 b1 b10 hf3
    have HPE1 := Lib.hid (hps1.trans hp2)
    have HB := Lib.hid (And.intro b1 (And.intro b10 (And.intro d1 s1)))
    have HF3 := Lib.hid hf3
    have HRA2 := Lib.hid hra2
    have HK3 := Lib.hid k2
    have HST2 := Lib.hid hst2
    rw [hp2, List.length_nil] at hx2 HS1
    clear hps1 b1 b10 d1 s1 a1 hf3 hf2 hra2 k2 hst2 hs2 hd2 hnum hst3 hp2
    have k0 : Kp Noone wr wr.drew := (Kp.refl _ _).drew
    have q0 := k0.cell c0 id
    have qv : ∀ o, (wr.alloc o).drew.cell? ⟨gs, offs + i, none⟩ = some (.int .i64 (sn : Int)) := fun o => (((Kp.refl Noone wr).alloc o).drew).cell c0 id
    go_upto_region 12 with fail
    obtain ⟨⟨y0, y1, y2, y3⟩, ⟨y4, y5, y6, y7⟩, -⟩ := cells_8 (k0.heap hx2 id)
    obtain ⟨v0, v1, v2, v3, v4, v5, v6, v7⟩ := cells_8d hx2
    apply wp_region_3 (G := fun q o3 c3 wz => wz.heap[q]? = some (.cells (rlC o3 c3 none 0 m1) 37 (0, 0)) ∧ wr.heap.size ≤ q ∧ RA (fun j => P j ∧ j ≠ gr ∧ j ≠ g7 ∧ j ≠ q) wz o3 m1.d.L.length c3 m1.d.L ∧ Kp Noone wr wz)
    case h =>
      go_region_law (first
          | (go_simp; go_at_call 58; refine (hnm _).mono ?_; rintro e wn ⟨rfl, kn⟩; (try (have hZ := kn.heap (show (wr.alloc (.cells #[.slice none 0 0, .int .i64 0, .int .i64 0, .int .i64 0, .bool false, .int .i64 0, .slice none 0 0, .bool false] 37)).drew.heap[wr.heap.size]? = some (.cells #[.slice none 0 0, .int .i64 0, .int .i64 0, .int .i64 0, .bool false, .int .i64 0, .slice none 0 0, .bool false] 37) from heap_alloc_new wr (.cells #[.slice none 0 0, .int .i64 0, .int .i64 0, .int .i64 0, .bool false, .int .i64 0, .slice none 0 0, .bool false] 37)) id)); (first | have k0 := k0.trans kn | have k0 := (((Kp.refl Noone wr).alloc _).drew).trans kn); obtain ⟨⟨y0, y1, y2, y3⟩, ⟨y4, y5, y6, y7⟩, -⟩ := cells_8 (k0.heap hx2 id); obtain ⟨v0, v1, v2, v3, v4, v5, v6, v7⟩ := cells_8o hx2 k0)
          | (go_simp; go_at_call 57; first
            | (have hzl := (Array.getElem?_eq_some_iff.1 hZ).1; refine (HS1 (fun j => P j ∧ j ≠ gr ∧ j ≠ g7 ∧ j ≠ wr.heap.size) _ ((HRA2.out.mono (fun j hj c => ⟨c.1, c.2.1, c.2.2, by omega⟩)).keep k0) (fun j hj => ⟨(HP'.out j (by have := k0.size; omega)).1, (HP'.out j (by have := k0.size; omega)).2.1, (HP'.out j (by have := k0.size; omega)).2.2, by have h : wr.heap.size < wn.heap.size := hzl; omega⟩)).mono ?_; rintro e w4 ⟨o3, c3, rfl, hra4, k4⟩; have k0 := k0.trans k4; have hZ4 : w4.heap[wr.heap.size]? = some (.cells #[.slice none 0 0, .int .i64 0, .int .i64 0, .int .i64 0, .bool false, .int .i64 0, .slice none 0 0, .bool false] 37 (0, 0)) := k4.heap hZ id; obtain ⟨⟨u0, u1, u2, u3⟩, ⟨u4, u5, u6, u7⟩, uf⟩ := cells_8 hZ4; have uf0 := uf 0; have uf1 := uf 1; have uf2 := uf 2; have uf3 := uf 3; have uf4 := uf 4; have uf5 := uf 5; have uf6 := uf 6; have uf7 := uf 7)
            | (refine (HS1 (fun j => P j ∧ j ≠ gr ∧ j ≠ g7 ∧ j ≠ wn.heap.size) (wn.alloc (.cells #[.slice none 0 0, .int .i64 0, .int .i64 0, .int .i64 0, .bool false, .int .i64 0, .slice none 0 0, .bool false] 37)) ((HRA2.out.mono (fun j hj c => ⟨c.1, c.2.1, c.2.2, by have := k0.size; omega⟩)).keep (k0.alloc _)) (fun j hj => by rw [alloc_size] at hj; exact ⟨(HP'.out j (by have := k0.size; omega)).1, (HP'.out j (by have := k0.size; omega)).2.1, (HP'.out j (by have := k0.size; omega)).2.2, by omega⟩)).mono ?_; rintro e w4 ⟨o3, c3, rfl, hra4, k4⟩; have hZ5 := k4.heap (heap_alloc_new wn (.cells #[.slice none 0 0, .int .i64 0, .int .i64 0, .int .i64 0, .bool false, .int .i64 0, .slice none 0 0, .bool false] 37)) id; have hzn := k0.size; have k0 := (k0.alloc (.cells #[.slice none 0 0, .int .i64 0, .int .i64 0, .int .i64 0, .bool false, .int .i64 0, .slice none 0 0, .bool false] 37)).trans k4; obtain ⟨⟨u0, u1, u2, u3⟩, ⟨u4, u5, u6, u7⟩, uf⟩ := cells_8 hZ5; have uf0 := uf 0; have uf1 := uf 1; have uf2 := uf 2; have uf3 := uf 3; have uf4 := uf 4; have uf5 := uf 5; have uf6 := uf 6; have uf7 := uf 7)
            | (refine (HS1 (fun j => P j ∧ j ≠ gr ∧ j ≠ g7) wn (HRA2.out.keep k0) (fun j hj => HP'.out j (by have := k0.size; omega))).mono ?_; rintro e w4 ⟨o3, c3, rfl, hra4, k4⟩; have k0 := k0.trans k4; have hC6 : True := trivial)))
      all_goals (first
        | (have hz := hZ4
           have hk := k0
           generalize hn : wr.heap.size = n at *
           refine NoPanic.normal ⟨rfl, n, o3, c3, rfl, ?_⟩
           exact ⟨set8_heap hz _ _ _ _ _ _ _ _, Nat.le_refl _, hra4.kp (set8_kp (Kp.refl (fun j => j = n) w4) (g := n) rfl _ _ _ _ _ _ _ _) (fun j _ c e => c.2.2.2 e), hk.fin (set8_kp (Kp.refl (fun j => j = n) w4) (g := n) rfl _ _ _ _ _ _ _ _) (fun j e => Or.inr (by omega))⟩)
        | (have hz := hZ5
           have hk := k0
           have hz2 := hzn
           generalize hn : wn.heap.size = n at *
           refine NoPanic.normal ⟨rfl, n, o3, c3, rfl, ?_⟩
           exact ⟨set8_heap hz _ _ _ _ _ _ _ _, hz2, hra4.kp (set8_kp (Kp.refl (fun j => j = n) w4) (g := n) rfl _ _ _ _ _ _ _ _) (fun j _ c e => c.2.2.2 e), hk.fin (set8_kp (Kp.refl (fun j => j = n) w4) (g := n) rfl _ _ _ _ _ _ _ _) (fun j e => Or.inr (by omega))⟩)
        | (have hc := hC6
           have hk := k0
           have hs4 := k0.size
           have hn4 := fun o => heap_alloc_new w4 o
           generalize hn : w4.heap.size = n at *
           refine NoPanic.normal ⟨rfl, n, o3, c3, rfl, ?_⟩
           exact ⟨hn4 _, hs4, (hra4.mono (fun j hj c => ⟨c.1, c.2.1, c.2.2, by omega⟩)).keep ((Kp.refl _ _).alloc _), hk.alloc _⟩)
        | trace_state)
    case k =>
      intro q o3 c3 w4 hG
      obtain ⟨hy4, hn4, hra4, k4⟩ := hG
      unfold rlC at hy4
      have hx4 := k4.heap hx2 id
      have hr4 := k4.heap hr2 id
      have HK4 := Lib.hid (HK3.out.trans (Kp.none k4))
      have HRA4 := Lib.hid (hra4.mono (Q := fun j => P j ∧ j ≠ gr ∧ j ≠ g7) (fun j _ c => ⟨c.1, c.2.1, c.2.2.1⟩))
      clear HS1 hra4 k4 k0 y0 y1 y2 y3 y4 y5 y6 y7 v0 v1 v2 v3 v4 v5 v6 v7 hx2 hr2 HRA2 HK3 q0 qv c0
      obtain ⟨⟨y0, y1, y2, y3⟩, ⟨y4, y5, y6, y7⟩, -⟩ := cells_8 hy4
      have hx5 := putL9_heap o3 c3 none 0 m1 hx4
      have k5 := putL9_kp w4 g7 o3 c3 none 0 m1
      have hr5 := k5.heap hr4 (by omega)
      have HRA5 := Lib.hid (HRA4.out.kp k5 (fun j _ c e => c.2.2 e))
      have HK5 := Lib.hid (HK4.out.trans k5)
      go_upto_region 14 with (refine wpList_store_rlog rfl (.tmp 7) (.tmp 53) rfl g7 o3 c3 none 0 m1 (by rfl) (by rfl) hx4 ?_)
      clear y0 y1 y2 y3 y4 y5 y6 y7 k5 hx4 hr4 hy4 HRA4 HK4
      generalize putL9 w4 g7 o3 c3 none 0 m1 = w5 at *
      have HX5 := Lib.hid hx5
      unfold rlC at hx5
      obtain ⟨⟨y0, y1, y2, y3⟩, ⟨y4, y5, y6, y7⟩, -⟩ := cells_8 hx5
      by_cases he : e1 = 0
      case neg =>
        have HR4 := HF3.out
        rw [if_pos (by simpa using he)] at HR4
        have HR5 := HRES.out
        rw [← HR4] at HR5
        unfold openDropR at HR5
        rw [if_pos (by simpa using he)] at HR5
        have HR6 := Lib.hid HR5
        have n3 : ((e1 : Int) != 0) = true := by simpa using he
        clear he HR4 HR5
        go_wp2_with (refine wpList_store_rlog rfl (.tmp 4) (.tmp 56) rfl gr o3 c3 none 0 m1 (by rfl) (by rfl) hr5 ?_)
        refine bodyPost_ret (v := .tuple #[rlV o3 c3 none 0 m1, .slice none 0 0, .int .i64 (e1 : Int)]) (by rw [results_rlog_tmp2 rfl _ _ gr _ rfl (putL9_heap o3 c3 none 0 m1 hr5) rfl]; rfl) rfl ?_
        have kL := putL9_kp w5 gr o3 c3 none 0 m1
        rw [← HR6.out]
        refine ⟨⟨o3, c3, none, 0, none, 0, rfl, (HRA5.out.kp kL (fun j _ c e => c.2.1 e)).mono (fun j _ c => c.1), ?_, RSP.nil _ _, (HK2.out.fin HK5.out (fun j e => Or.inr (by omega))).fin kL (fun j e => Or.inr (by omega))⟩⟩
        simp only [HPE1.out]
        exact RPs.nil _ _ _
      have HR4 := HF3.out
      rw [if_neg (by simpa using he)] at HR4
      have n3 : ((e1 : Int) != 0) = false := by subst he; rfl
      obtain ⟨⟨b1, b1e⟩, b10, d1, s1⟩ := HB.out
      have b := b10 (by rw [← b1e, he]; simp)
      have R5 : Hid (StQ P w2 gr g7 g s n RES0 (.int .i64 ((i : Int) - 1)) w5) := Lib.hid ⟨⟨i, o3, c3, m1, _, rfl, by omega, HX5.out, hr5, HRA5.out, HPE1.out, HK5.out, b, d1, by have := HST2.out; omega, HR4⟩⟩
      have hw : IntKind.i64.wrap ((i : Int) - 1) = (i : Int) - 1 := IntWalk.i64_in _ (by omega)
      clear he HR4 b b1 b1e b10 d1 s1 y0 y1 y2 y3 y4 y5 y6 y7 hx5 HX5 hr5 HB HF3
      go_wp2_with fail
      go_roundw
      case rel => exact R5.out
      case measure => simp [intOf]

end Go.Proofs.YtigdhdclfdojgaaGreat
