/-
  SnapRuns: the law.
-/
import Derived.Test.YtigdhdclfdojgaaSnapRefF
import Derived.Test.YtigdhdclfdojgaaSnapFullLaw
import Derived.Test.YtigdhdclfdojgaaReadOpS
import Derived.Test.YtigdhdclfdojgaaSnapHead
import Derived.Test.YtigdhdclfdojgaaRefDiskC
namespace Go.Proofs.Ytigdhdclfdojgaa
open Go.RowKit

def oFuse (n : Int) : OpD := ⟨6, ByteArray.empty, ByteArray.empty, [], n, []⟩
def oCrash (k : List Int) : OpD := ⟨7, ByteArray.empty, ByteArray.empty, [], 0, k⟩
theorem op_fuse {n : Int} (h : -9223372036854775808 ≤ n ∧ n ≤ 9223372036854775807) : OpOk (oFuse n) 1048576 := ⟨by simp [oFuse], by simp [oFuse], by simp [oFuse], h, by simp [oFuse], by simp [oFuse]⟩
theorem op_crash {k : List Int} (h : k.length + 1 ≤ 1048576) : OpOk (oCrash k) 1048576 := ⟨by simp [oCrash], by simp [oCrash], by simp [oCrash], by simp [oCrash], by simp [oCrash], h⟩
theorem sim_fuse {m : RD} {s : DS} (h : Sim m s) (hd : DOk s) (n : Int) : Sim (doE m (oFuse n)).1 (fuseF s n) := (sim_do h hd (oFuse n)).1
theorem sim_crashE {m : RD} {s : DS} (h : Sim m s) (hd : DOk s) (k : List Int) : Sim (doE m (oCrash k)).1 (crashF s k) := (sim_do h hd (oCrash k)).1
theorem mountF_steps0 (room : Int) (As : Img) : (mountF room As).1.steps = 0 := by
  have h := (mountL_room As (newF room)).2.1
  unfold mountF
  split
  · rfl
  · split
    · exact h
    · split
      · exact h
      · exact h
theorem loadF_len {s : DS} (h : DOk s) : (loadF s).2.1.length ≤ 140737488355328 := by
  unfold loadF
  split
  · simp
  · unfold loadP
    split
    · simp
    · split
      · simp
      · exact readF_len h _
theorem cleanF_steps {s : DS} (h : DOk s) : (cleanF s).1.steps ≤ s.steps + 64 := by
  unfold cleanF
  split
  · show s.steps ≤ _; omega
  · have h1 := cleanL_steps (currentF s).1.turn (listF s) s
    have h2 := listF_len h
    omega
/-- Between two steps. -/
structure RunS (W : World) (p pm n : Nat) (v : Value) (wr : World) : Prop where
  ex : ∃ (i : Nat) (col : Nat → Nat) (s : DS) (m : RD) (ao : Option Addr) (cap : Nat), v = .int .i64 (i : Int) ∧ i ≤ n ∧ i ≤ 40 ∧ Ext W.heap.size (fun c => c ≠ 0) (fun _ => 0) W col wr ∧ Dk col 0 wr p s ∧
    wr.heap[pm]? = some (.cells (rdC ao cap m) 51 (0, 0)) ∧ col pm = 0 ∧ W.heap.size ≤ pm ∧ RA (fun j => col j = 0 ∧ j ≠ pm) wr ao m.L.length cap m.L ∧ Sim m s ∧ s.steps ≤ 80 * i

/-- Behind one step. -/
structure EndS (W : World) (p pm i : Nat) (w : World) : Prop where
  ex : ∃ (col : Nat → Nat) (s : DS) (m : RD) (ao : Option Addr) (cap : Nat), Ext W.heap.size (fun c => c ≠ 0) (fun _ => 0) W col w ∧ Dk col 0 w p s ∧
    w.heap[pm]? = some (.cells (rdC ao cap m) 51 (0, 0)) ∧ col pm = 0 ∧ RA (fun j => col j = 0 ∧ j ≠ pm) w ao m.L.length cap m.L ∧ Sim m s ∧ s.steps ≤ 80 * (i + 1)
theorem cells_4 {w : World} {p e : Nat} {a b c d : Value} (h : w.heap[p]? = some (.cells #[a, b, c, d] e (0, 0))) :
    w.cell? ⟨p, 0, none⟩ = some a ∧ w.cell? ⟨p, 1, none⟩ = some b ∧ w.cell? ⟨p, 2, none⟩ = some c ∧ w.cell? ⟨p, 3, none⟩ = some d := by
  refine ⟨?_, ?_, ?_, ?_⟩
  all_goals (rw [cell_of_row w p _ _ e (0, 0) h]; rfl)

attribute [local irreducible] putD doE mountR mountF imageF saveR saveF loadR loadF cleanR cleanF fuseF crashF

set_option maxHeartbeats 8000000 in
set_option maxRecDepth 100000 in
theorem snapRuns_walk (room : Int) (fo : Option Addr) (na ca : Nat) (As : Img) (so : Option Addr) (n cap : Nat) (ps : List OpS) (W : World) (ha : AS W fo na ca As) (hs : OpSS W so n cap ps 1048576) (hna : na ≤ 1048576)
    (hB : ∀ x ∈ As, x.1.size ≤ maxLen ∧ x.2.data.length ≤ 1048576) :
    Calls Try.prog 7 #[.int .i64 room, .slice fo na ca, .slice so n cap] W fun e w' => e = .returned (.bool true) ∧ Kp Noone W w' := by
  obtain ⟨i0, hi, hz0, hz1, hz2⟩ := info_parts info_intD
  have hla := ha.len
  have hsl := hs.len
  have hD1 : ∀ x ∈ As, x.2.data.length ≤ 140737488355328 := fun x hx => by have := (hB x hx).2; omega
  have hD2 : ∀ x ∈ As, x.2.data.length ≤ 281474976710656 := fun x hx => by have := (hB x hx).2; omega
  have hNm : ∀ x ∈ As, x.1.size ≤ 9223372036854775807 := fun x hx => by have h := (hB x hx).1; unfold maxLen at h; omega
  have HA := Lib.hid ha
  have HS := Lib.hid hs
  have HD1 := Lib.hid hD1
  have HD2 := Lib.hid hD2
  have HNM := Lib.hid hNm
  clear ha hs hD1 hD2 hNm hB
  have HKW : Hid (∀ (w : World) (col : Nat → Nat), Ext W.heap.size (fun c => c ≠ 0) (fun _ => 0) W col w → Kp Noone W w) := Lib.hid (fun w col X => X.kp.mono (fun j hj c => absurd rfl c))
  go_enter Try.func7, Try.ntmps7
  go_wp2_with fail
  refine (head_any _).mono ?_
  rintro e w1 ⟨rfl, k1⟩
  go_wp2_with fail
  refine (mountR_any (fun _ => True) room fo na ca As w1 ((HA.out.keep k1).ra (fun _ _ => trivial)) (fun _ _ => trivial) (by omega) HD1.out HNM.out).mono ?_
  obtain ⟨hms, hsim⟩ := mount_sim room As
  generalize mountR room As = R at *
  obtain ⟨⟨L, rm, st, fu, dn⟩, er⟩ := R
  simp only [] at hms
  rintro e w2 hmt
  obtain ⟨ao2, cap2, rfl, hra2, k2⟩ := hmt.ex
  unfold rdV rdC
  simp only [] at hra2
  have hra2b := hra2.mono (Q := fun j => j < w2.heap.size) (fun j hj _ => hj)
  have k3 : Kp Noone w2 (w2.alloc (.cells #[.slice ao2 L.length cap2, .int .i64 rm, .int .i64 st, .int .i64 fu, .bool dn] 51)) := (Kp.refl _ _).alloc _
  have hb3 := heap_alloc_new w2 (.cells #[.slice ao2 L.length cap2, .int .i64 rm, .int .i64 st, .int .i64 fu, .bool dn] 51)
  have HRA := Lib.hid (hra2b.keep k3)
  have HK3 := Lib.hid ((k1.trans k2).trans k3)
  have hpm : W.heap.size ≤ w2.heap.size := by have := k1.size; have := k2.size; omega
  clear hmt hra2 hra2b
  go_upto_region 4 with fail
  generalize w2.alloc (.cells #[.slice ao2 L.length cap2, .int .i64 rm, .int .i64 st, .int .i64 fu, .bool dn] 51) = w3 at *
  generalize w2.heap.size = pm at *
  have hpm3 := (Array.getElem?_eq_some_iff.1 hb3).1
  go_wp2_with fail
  refine (copyR_any (fun _ => True) fo na ca As w3 ((HA.out.keep HK3.out).ra (fun _ _ => trivial)) (fun _ _ => trivial) (by omega) HD2.out).mono ?_
  rintro e w4 ⟨ao4, cap4, rfl, hra4, k4⟩
  rw [hla] at hra4
  have hb4 := k4.heap hb3 id
  have HRA4 := Lib.hid (HRA.out.keep k4)
  have HK4 := Lib.hid (HK3.out.trans k4)
  have hpm4 := (Array.getElem?_eq_some_iff.1 hb4).1
  have hmd := mount_dk W.heap.size (fun _ => 0) 0 room ao4 na cap4 As w4 (Cols.zero _ _) HK4.out.size hra4.as (fun j _ c => by unfold S3 at c; omega) (by omega) HD1.out HNM.out
  have hst0 := mountF_steps0 room As
  generalize mountF room As = F at hmd hms hsim hst0
  obtain ⟨s0, er0⟩ := F
  simp only [] at hms hsim hst0
  subst hms
  clear k1 k2 k3 k4 hb3 hra4
  go_wp2_with fail
  refine hmd.mono ?_
  clear hmd
  rintro e w5 hmt
  obtain ⟨p, c5, rfl, x5, d5⟩ := hmt.ex
  simp only [] at d5
  have hb5 := x5.kp.heap hb4 (by unfold S3; omega)
  have hcp : c5 pm = 0 := x5.old pm hpm4
  have X5 := (Ext.quiet (S := fun c => c ≠ 0) (Cols.zero W.heap.size W) HK4.out).trans (x5.mono (T := fun c => c ≠ 0) (fun c h => by unfold S3 at h; omega))
  have HRA5 : Hid (RA (fun j => c5 j = 0 ∧ j ≠ pm) w5 ao2 L.length cap2 L) := Lib.hid ((HRA4.out.kp x5.kp (fun j _ _ c => by unfold S3 at c; omega)).mono (fun j hj c => ⟨x5.old j (by omega), by omega⟩))
  have HX5 := Lib.hid X5
  have HSIM := Lib.hid hsim
  have HD5 := Lib.hid d5
  clear x5 X5 hsim d5 hmt hb4 HRA HRA4
  by_cases her : er = 0
  case neg =>
    rw [if_neg her]
    have hne : ¬ (er : Int) = 0 := by omega
    have hnb : ((er : Int) == 0) = false := by simpa using her
    go_wp2_with fail
    go_ret
    exact ⟨rfl, HKW.out _ _ HX5.out⟩
  subst her
  rw [if_pos rfl]
  have hok := HD5.out rfl
  have R0 : Hid (RunS W p pm n (.int .i64 0) w5) := Lib.hid ⟨⟨0, c5, s0, ⟨L, rm, st, fu, dn⟩, ao2, cap2, by rfl, Nat.zero_le _, Nat.zero_le _, HX5.out, hok, hb5, hcp, hpm, HRA5.out, HSIM.out, by omega⟩⟩
  clear hok
  go_wp2_with fail
  go_loopw [11] (fun v wr => RunS W p pm n v wr) (fun v _ => n - (intOf v).toNat)
  case atStart => exact R0.out
  case round =>
    clear R0 HX5 HRA5 HSIM HD5 hst0 hb5 hcp
    obtain ⟨i, col, s, m, ao, cp, rfl, hin, hi40, X, d, hbm, hcm, hpW, hRA, hsm, hst⟩ := hrel.ex
    by_cases hgo : i < n ∧ i < 40
    case neg =>
      have hexit : (¬ i < n) ∨ (i < n ∧ ¬ i < 40) := by
        by_cases h : i < n
        · exact Or.inr ⟨h, fun c => hgo ⟨h, c⟩⟩
        · exact Or.inl h
      have HX := Lib.hid X
      clear hgo X d hbm hRA hsm hst hrel
      rcases hexit with h | ⟨h, h2⟩
      all_goals (
        go_wp2_with fail
        go_ret
        exact ⟨rfl, HKW.out _ _ HX.out⟩)
    obtain ⟨hlt, h40⟩ := hgo
    have kr := HKW.out _ _ X
    obtain ⟨hop, b, off, bo, bm, bc, ko, km, kc, rfl, hbl, e0, e1, e2, e3, hbs, his⟩ := HS.out.get i (by omega)
    have hwi : IntKind.i64.wrap ((i : Int) + 1) = (i : Int) + 1 := IntWalk.i64_in _ (by omega)
    generalize ps[i] = o at *
    have e0 := kr.cell e0 id
    have e1 := kr.cell e1 id
    have e2 := kr.cell e2 id
    have e3 := kr.cell e3 id
    have hkA : Kp Noone wr (wr.alloc (.cells #[.int .i64 o.k, .int .i64 o.n, .slice bo bm bc, .slice ko km kc] 56)) := (Kp.refl _ _).alloc _
    have hoA := heap_alloc_new wr (.cells #[.int .i64 o.k, .int .i64 o.n, .slice bo bm bc, .slice ko km kc] 56)
    have hbmA := hkA.heap hbm id
    have HX := Lib.hid (X.trans (Ext.quiet X.cols hkA))
    have HD := Lib.hid (d.keep hkA)
    have HRA := Lib.hid (hRA.keep hkA)
    have HSM := Lib.hid hsm
    have HBS := Lib.hid (hbs.keep (kr.trans hkA))
    have HBW := Lib.hid hbs
    have HIW := Lib.hid his
    have HIS := Lib.hid (his.keep (kr.trans hkA))
    have HOP := Lib.hid hop
    have hbl' := HBS.out.len
    have hkl' := HIS.out.len
    have hb1m := hop.b
    have hk1m := hop.keep
    have hbgo : pm < wr.heap.size := (Array.getElem?_eq_some_iff.1 hbm).1
    have hcg : col wr.heap.size = 0 := cols_new X.cols (Nat.le_refl _)
    clear hrel X d hRA hsm hbs his hop hbm kr hbl
    go_upto_region 13 with fail
    clear e0 e1 e2 e3
    generalize wr.alloc (.cells #[.int .i64 o.k, .int .i64 o.n, .slice bo bm bc, .slice ko km kc] 56) = wa at *
    generalize wr.heap.size = go at *
    obtain ⟨L0, rm0, st0, fu0, dn0⟩ := m
    unfold rdC at hbmA
    simp only [] at hbmA HRA
    obtain ⟨z0, z1, z2, z3⟩ := cells_4 hoA
    obtain ⟨⟨y0, y1, y2, y3, y4⟩, -⟩ := cells_five hbmA
    have hgw : go < wa.heap.size := (Array.getElem?_eq_some_iff.1 hoA).1
    rcases (show o.k = 0 ∨ o.k = 1 ∨ o.k = 2 ∨ o.k = 3 ∨ o.k = 4 ∨ (o.k ≠ 0 ∧ o.k ≠ 1 ∧ o.k ≠ 2 ∧ o.k ≠ 3 ∧ o.k ≠ 4) by omega) with cK | cK | cK | cK | cK | ⟨c0, c1, c2, c3, c4⟩
    case' inl =>
      rw [cK] at z0
      have hcp := copy_exact bo bm bc o.b wa HBS.out (by omega)
      go_wp2_with fail
      refine hcp.mono ?_
      clear hcp
      rintro e w6 ⟨rfl, hw6⟩
      have k6 : Kp Noone wa w6 := by rw [hw6]; exact (Kp.refl _ _).alloc _
      have ho6 : Own (fun j => j = wa.heap.size) w6 5 1 (some ⟨wa.heap.size, 0, none⟩) bm bm (bv o.b) := by rw [hw6]; exact Own.fresh rfl (heap_alloc_new wa _) (by rw [length_bv, hbl', Nat.mul_one]) (by unfold maxLen; omega)
      have hbm6 := k6.heap hbmA id
      have ho46 := k6.heap hoA id
      have hcb : col wa.heap.size = 0 := cols_new HX.out.cols (Nat.le_refl _)
      have HX6 := Lib.hid (HX.out.trans (Ext.quiet HX.out.cols k6))
      have HD6 := Lib.hid (HD.out.keep k6)
      have hgb6 : wa.heap.size < w6.heap.size := by rw [hw6, alloc_size]; omega
      have HRA6 := Lib.hid ((HRA.out.mono (Q := fun j => col j = 0 ∧ j ≠ pm ∧ j ≠ wa.heap.size) (fun j hj c => ⟨c.1, c.2, by omega⟩)).keep k6)
      have HBS6 := Lib.hid (HBS.out.keep k6)
      have hWb : W.heap.size ≤ wa.heap.size := HX.out.size
      clear hw6 z0 z1 z2 z3 y0 y1 y2 y3 y4 k6 hoA hbmA
      generalize wa.heap.size = gb at *
      have HO6 := Lib.hid ho6
      obtain ⟨z0, z1, z2, z3⟩ := cells_4 ho46
      obtain ⟨⟨y0, y1, y2, y3, y4⟩, -⟩ := cells_five hbm6
      have hsv := save_ref (fun j => col j = 0 ∧ j ≠ pm ∧ j ≠ gb) ao cp ⟨L0, rm0, st0, fu0, dn0⟩ s o.n bo bm bc o.b w6 HRA6.out (fun j hj => ⟨cols_new HX6.out.cols hj, by omega, by omega⟩) HSM.out HD6.out.2 HBS6.out (by omega)
      have hsv2 := fun w d hc hB hb => save_dk W.heap.size col 0 p s o.n (some ⟨gb, 0, none⟩) bm bm o.b w d hc hB hb (by omega)
      have hss := sim_save HSM.out HD6.out.2 (by omega) o.n o.b
      have hsp := saveF_steps s o.n o.b
      generalize saveR ⟨L0, rm0, st0, fu0, dn0⟩ o.n o.b = R at *
      generalize saveF s o.n o.b = F at *
      obtain ⟨⟨L1, rm1, st1, fu1, dn1⟩, e1⟩ := R
      obtain ⟨s1, e1b⟩ := F
      obtain ⟨hs1, he1⟩ := hss
      simp only [] at hs1 he1 hsp
      subst he1
      unfold rdV rdC at hsv
      simp only [] at hsv
      clear ho6
      go_wp2_with fail
      refine hsv.mono ?_
      clear hsv
      rintro e w7 hto
      obtain ⟨ao1, cp1, rfl, hra7, k7⟩ := hto.ex
      unfold rdV rdC
      simp only [] at hra7 ⊢
      have kN : Kp Noone w7 (w7.alloc (.cells #[.slice ao1 L1.length cp1, .int .i64 rm1, .int .i64 st1, .int .i64 fu1, .bool dn1] 51)) := (Kp.refl _ _).alloc _
      have hN := heap_alloc_new w7 (.cells #[.slice ao1 L1.length cp1, .int .i64 rm1, .int .i64 st1, .int .i64 fu1, .bool dn1] 51)
      have k8 := k7.trans kN
      have hbm8 := k8.heap hbm6 id
      have ho48 := k8.heap ho46 id
      have HRA8 := Lib.hid (hra7.keep kN)
      have HO8 := Lib.hid (HO6.out.keep k8)
      have HX8 := Lib.hid (HX6.out.trans (Ext.quiet HX6.out.cols k8))
      have HD8 := Lib.hid (HD6.out.keep k8)
      have hgb8 : gb < (w7.alloc (.cells #[.slice ao1 L1.length cp1, .int .i64 rm1, .int .i64 st1, .int .i64 fu1, .bool dn1] 51)).heap.size := Nat.lt_of_lt_of_le hgb6 k8.size
      go_upto_region 17 with fail
      clear hto hra7 k7 kN k8 z0 z1 z2 z3 y0 y1 y2 y3 y4 hbm6 ho46 HX6 HD6 HRA6 HO6
      generalize w7.alloc (.cells #[.slice ao1 L1.length cp1, .int .i64 rm1, .int .i64 st1, .int .i64 fu1, .bool dn1] 51) = w8 at *
      generalize w7.heap.size = gy at *
      obtain ⟨⟨y0, y1, y2, y3, y4⟩, -⟩ := cells_five hN
      have p9 := putD_kp w8 pm ao1 cp1 ⟨L1, rm1, st1, fu1, dn1⟩
      have hbm9 := putD_heap ao1 cp1 ⟨L1, rm1, st1, fu1, dn1⟩ hbm8
      have ho49 := p9.heap ho48 (by omega)
      have HX9 := Lib.hid (HX8.out.flip p9 (fun j c => by subst c; exact hpW))
      have HD9 := Lib.hid (HD8.out.free p9 (fun j c => by subst c; exact hcm))
      have HRA9 := Lib.hid (HRA8.out.kp p9 (fun j _ c e => c.2.1 e))
      have ho9 := HO8.out.kp p9 (fun j c e => by omega)
      have hgb9 : gb < (putD w8 pm ao1 cp1 ⟨L1, rm1, st1, fu1, dn1⟩).heap.size := Nat.lt_of_lt_of_le hgb8 p9.size
      have HO9 := Lib.hid ho9
      have hdb9 : DataP (fun j => col j = 0) (putD w8 pm ao1 cp1 ⟨L1, rm1, st1, fu1, dn1⟩) (some ⟨gb, 0, none⟩) bm bm o.b := ho9.dataP.mono (fun j _ c => by subst c; exact hcb)
      have hsv3 := hsv2 _ HD9.out HX9.out.cols HX9.out.size hdb9
      go_upto_region 18 with (refine wpList_store_disk rfl (.tmp 7) (.tmp 84) rfl pm ao1 cp1 ⟨L1, rm1, st1, fu1, dn1⟩ (by rfl) (by rfl) hbm8 ?_)
      clear y0 y1 y2 y3 y4 p9 hbm8 ho48 hN ho9 hdb9 hsv2 HX8 HD8 HRA8 HO8
      generalize putD w8 pm ao1 cp1 ⟨L1, rm1, st1, fu1, dn1⟩ = w9 at *
      unfold rdC at hbm9
      simp only [] at hbm9
      obtain ⟨z0, z1, z2, z3⟩ := cells_4 ho49
      have hpm9 : pm < w9.heap.size := (Array.getElem?_eq_some_iff.1 hbm9).1
      go_wp2_with fail
      refine hsv3.mono ?_
      clear hsv3
      rintro e w10 hto
      obtain ⟨c10, rfl, x10, d10⟩ := hto.ex
      simp only [] at d10 ⊢
      have hbm10 := x10.kp.heap hbm9 (by rw [hcm]; unfold S3; omega)
      have hcm10 : c10 pm = 0 := (x10.old pm hpm9).trans hcm
      have HX10 := Lib.hid (HX9.out.trans (x10.mono (T := fun c => c ≠ 0) (fun c h => by unfold S3 at h; omega)))
      have ho10 := HO9.out.kp x10.kp (fun j c e => by subst c; rw [hcb] at e; unfold S3 at e; omega)
      have HRA10 : Hid (RA (fun j => c10 j = 0 ∧ j ≠ pm ∧ j ≠ gb) w10 ao1 L1.length cp1 L1) := Lib.hid (((HRA9.out.mono (Q := fun j => (col j = 0 ∧ j ≠ pm ∧ j ≠ gb) ∧ j < w9.heap.size) (fun j hj c => ⟨c, hj⟩)).kp x10.kp (fun j _ c e => by rw [c.1.1] at e; unfold S3 at e; omega)).mono (fun j hj c => ⟨(x10.old j c.2).trans c.1.1, c.1.2⟩))
      have ho410 := x10.kp.heap ho49 (by rw [hcg]; unfold S3; omega)
      have hcb10 : c10 gb = 0 := (x10.old gb hgb9).trans hcb
      obtain ⟨z0, z1, z2, z3⟩ := cells_4 ho410
      have HD10 := Lib.hid d10
      have hsame := same_any (some ⟨gb, 0, none⟩) bo bm bm bm bc o.b o.b w10 ho10.bs (HBW.out.keep (HKW.out _ _ HX10.out)) (by omega)
      rw [beq_self_eq_true] at hsame
      have HO10 := Lib.hid ho10
      clear hto x10 d10 HX9 HD9 HO9 HRA9 hbm9 ho49 ho10 ho410
      go_wp2_with fail
      refine hsame.mono ?_
      clear hsame
      rintro e w11 ⟨rfl, q, rfl⟩
      have kd := (Kp.refl Noone w10).drewN q
      have HX11 := Lib.hid (HX10.out.trans (Ext.quiet HX10.out.cols kd))
      have HD11 := Lib.hid (HD10.out.keep kd)
      have hbm11 := kd.heap hbm10 id
      have HRA11 := Lib.hid (HRA10.out.keep kd)
      have ho11 := HO10.out.keep kd
      clear z0 z1 z2 z3 kd HX10 HD10 HRA10 HO10 hbm10
      generalize w10.drewN q = w11 at *
      go_wp2_with fail
      go_loopw [101, 16] (fun i _ w' => ∃ (j : Nat) (xs : List UInt8), j ≤ bm ∧ i = .int .i64 (j : Int) ∧ Own (fun j => j = gb) w' 5 1 (some ⟨gb, 0, none⟩) bm bm (bv xs) ∧ Kp (fun j => j = gb) w11 w') (fun i _ _ => bm - (intOf i).toNat)
      case atStart => exact ⟨0, _, Nat.zero_le _, rfl, ho11, Kp.refl _ _⟩
      case' round =>
        obtain ⟨j, xs, hj, rfl, hor, kq⟩ := hrel
        by_cases hlt2 : j < bm
        case' pos =>
          obtain ⟨g, off', hkl, hgo, hFg, hg, hc, hf, hset⟩ := hor.byte hlt2
          cases hgo
          have hfl := Lib.hid (flip_val xs[j])
          have hst := Lib.hid (hset (xs[j] ^^^ 255))
          generalize xs[j] = x at *
          clear hset ho11 hor hbm11
          rw [Nat.zero_add] at hc hf hst
          go_wp2_with fail
          go_roundw
          case rel => exact ⟨j + 1, _, by omega, by go_num, by rw [hfl.out]; exact hst.out, Kp.setCell (S := fun j => j = gb) (p := ⟨gb, j, none⟩) kq (fun _ => rfl) _⟩
          case measure => simp [intOf]; omega
        have HE : Hid (EndS W p pm i wr) := Lib.hid ⟨⟨c10, s1, ⟨L1, rm1, st1, fu1, dn1⟩, ao1, cp1, HX11.out.flip kq (fun j c => by subst c; exact hWb), HD11.out.free kq (fun j c => by subst c; exact hcb10), kq.heap hbm11 (by omega), hcm10, (HRA11.out.kp kq (fun j _ c e => c.2.2 e)).mono (fun j _ c => ⟨c.1, c.2.1⟩), hs1, by omega⟩⟩
        clear hbm11 ho11 hor kq HX11 HD11 HRA11
        go_upto_region 41 with fail
        clear hst
        obtain ⟨wz, hwz⟩ : ∃ x, x = wr := ⟨_, rfl⟩
        subst hwz
    case' inr.inl =>
      rw [cK] at z0
      have hlr := load_ref _ ao cp ⟨L0, rm0, st0, fu0, dn0⟩ wa HRA.out (HSM.out.rok HD.out.2)
      rw [sim_load HSM.out] at hlr
      have hld := fun w d => load_dk col 0 p s w d
      have hln := loadF_len HD.out.2
      generalize loadF s = R at *
      obtain ⟨n1, b1, k1, f1⟩ := R
      unfold rdV rdC at hlr
      simp only [] at hlr hln
      go_wp2_with fail
      refine hlr.mono ?_
      clear hlr
      rintro e w6 hto
      obtain ⟨xo, xc, rfl, hx6, k6⟩ := hto.ex
      simp only [] at hx6 ⊢
      have HX6 := Lib.hid (HX.out.trans (Ext.quiet HX.out.cols k6))
      have HD6 := Lib.hid (HD.out.keep k6)
      have HRA6 := Lib.hid (HRA.out.keep k6)
      have hbm6 := k6.heap hbmA id
      have hld := hld w6 HD6.out
      clear hto k6 z0 z1 z2 z3 y0 y1 y2 y3 y4 hoA hbmA
      go_wp2_with fail
      refine hld.mono ?_
      clear hld
      rintro e w7 hto
      obtain ⟨yo, yc, rfl, hy7, k7⟩ := hto.ex
      simp only [] at hy7 ⊢
      have hx7 := hx6.keep k7
      have hsame := same_any yo xo b1.length yc b1.length xc b1 b1 w7 hy7.bs hx7 (by omega)
      rw [beq_self_eq_true] at hsame
      have HX7 := Lib.hid (HX6.out.trans (Ext.quiet HX6.out.cols k7))
      have HD7 := Lib.hid (HD6.out.keep k7)
      have HRA7 := Lib.hid (HRA6.out.keep k7)
      have hbm7 := k7.heap hbm6 id
      clear hto k7 hx6 hx7 hy7 HX6 HD6 HRA6 hbm6
      go_wp2_with fail
      refine hsame.mono ?_
      clear hsame
      rintro e w8 ⟨rfl, q, rfl⟩
      have kd := (Kp.refl Noone w7).drewN q
      have HE : Hid (EndS W p pm i (w7.drewN q)) := Lib.hid ⟨⟨col, s, ⟨L0, rm0, st0, fu0, dn0⟩, ao, cp, HX7.out.trans (Ext.quiet HX7.out.cols kd), HD7.out.keep kd, kd.heap hbm7 id, hcm, HRA7.out.keep kd, HSM.out, by omega⟩⟩
      clear kd hbm7 HX7 HD7 HRA7
      generalize w7.drewN q = wz at *
      go_upto_region 41 with fail
      clear hst
    case' inr.inr.inl =>
      rw [cK] at z0
      have hcr := clean_ref (fun j => col j = 0 ∧ j ≠ pm) ao cp ⟨L0, rm0, st0, fu0, dn0⟩ s wa HRA.out (fun j hj => ⟨cols_new HX.out.cols hj, by omega⟩) HSM.out HD.out.2 (by omega)
      have hcc := fun w d hc => clean_dk W.heap.size col 0 p s w d hc (by omega)
      have hss := sim_clean HSM.out HD.out.2 (by omega)
      have hsp := cleanF_steps HD.out.2
      generalize cleanR ⟨L0, rm0, st0, fu0, dn0⟩ = R at *
      generalize cleanF s = F at *
      obtain ⟨⟨L1, rm1, st1, fu1, dn1⟩, f1⟩ := R
      obtain ⟨s1, f1b⟩ := F
      obtain ⟨hs1, he1⟩ := hss
      simp only [] at hs1 he1 hsp
      subst he1
      unfold rdV rdC at hcr
      simp only [] at hcr
      go_wp2_with fail
      refine hcr.mono ?_
      clear hcr
      rintro e w7 hto
      obtain ⟨ao1, cp1, rfl, hra7, k7⟩ := hto.ex
      unfold rdV rdC
      simp only [] at hra7 ⊢
      have kN : Kp Noone w7 (w7.alloc (.cells #[.slice ao1 L1.length cp1, .int .i64 rm1, .int .i64 st1, .int .i64 fu1, .bool dn1] 51)) := (Kp.refl _ _).alloc _
      have hN := heap_alloc_new w7 (.cells #[.slice ao1 L1.length cp1, .int .i64 rm1, .int .i64 st1, .int .i64 fu1, .bool dn1] 51)
      have k8 := k7.trans kN
      have hbm8 := k8.heap hbmA id
      have HRA8 := Lib.hid (hra7.keep kN)
      have HX8 := Lib.hid (HX.out.trans (Ext.quiet HX.out.cols k8))
      have HD8 := Lib.hid (HD.out.keep k8)
      go_upto_region 32 with fail
      clear hto hra7 k7 kN k8 z0 z1 z2 z3 y0 y1 y2 y3 y4 hbmA hoA
      generalize w7.alloc (.cells #[.slice ao1 L1.length cp1, .int .i64 rm1, .int .i64 st1, .int .i64 fu1, .bool dn1] 51) = w8 at *
      generalize w7.heap.size = gy at *
      obtain ⟨⟨y0, y1, y2, y3, y4⟩, -⟩ := cells_five hN
      have p9 := putD_kp w8 pm ao1 cp1 ⟨L1, rm1, st1, fu1, dn1⟩
      have hbm9 := putD_heap ao1 cp1 ⟨L1, rm1, st1, fu1, dn1⟩ hbm8
      have HX9 := Lib.hid (HX8.out.flip p9 (fun j c => by subst c; exact hpW))
      have HD9 := Lib.hid (HD8.out.free p9 (fun j c => by subst c; exact hcm))
      have HRA9 := Lib.hid (HRA8.out.kp p9 (fun j _ c e => c.2 e))
      have hcc := hcc _ HD9.out HX9.out.cols
      go_upto_region 33 with (refine wpList_store_disk rfl (.tmp 7) (.tmp 153) rfl pm ao1 cp1 ⟨L1, rm1, st1, fu1, dn1⟩ (by rfl) (by rfl) hbm8 ?_)
      clear y0 y1 y2 y3 y4 p9 hbm8 hN HX8 HD8 HRA8
      generalize putD w8 pm ao1 cp1 ⟨L1, rm1, st1, fu1, dn1⟩ = w9 at *
      unfold rdC at hbm9
      simp only [] at hbm9
      have hpm9 : pm < w9.heap.size := (Array.getElem?_eq_some_iff.1 hbm9).1
      go_wp2_with fail
      refine hcc.mono ?_
      clear hcc
      rintro e w10 hto
      obtain ⟨c10, rfl, x10, d10⟩ := hto.ex
      simp only [] at d10 ⊢
      have HE : Hid (EndS W p pm i w10) := Lib.hid ⟨⟨c10, s1, ⟨L1, rm1, st1, fu1, dn1⟩, ao1, cp1, HX9.out.trans (x10.mono (T := fun c => c ≠ 0) (fun c h => by unfold S3 at h; omega)), d10, x10.kp.heap hbm9 (by rw [hcm]; unfold S3; omega), (x10.old pm hpm9).trans hcm,
        ((HRA9.out.mono (Q := fun j => (col j = 0 ∧ j ≠ pm) ∧ j < w9.heap.size) (fun j hj c => ⟨c, hj⟩)).kp x10.kp (fun j _ c e => by rw [c.1.1] at e; unfold S3 at e; omega)).mono (fun j hj c => ⟨(x10.old j c.2).trans c.1.1, c.1.2⟩), hs1, by omega⟩⟩
      clear hto x10 d10 hbm9 HX9 HD9 HRA9
      go_upto_region 41 with fail
      clear hst
      obtain ⟨wz, hwz⟩ : ∃ x, x = w10 := ⟨_, rfl⟩
      subst hwz
    case' inr.inr.inr.inl =>
      rw [cK] at z0
      have hfz := fuse_dk W.heap.size col 0 p s o.n wa HD.out HX.out.cols HOP.out.n.2
      have hst1 : (fuseF s o.n).steps = s.steps := by unfold fuseF; rfl
      have hss := sim_fuse HSM.out HD.out.2 o.n
      have hdo := fun P' w hr hp => do_step P' ao cp ⟨L0, rm0, st0, fu0, dn0⟩ s (oFuse o.n) none 0 0 none 0 0 w hr hp HSM.out HD.out.2 (op_fuse HOP.out.n) (BS.nil _ _) (IS.nil _) (by omega)
      generalize fuseF s o.n = s1 at *
      generalize doE ⟨L0, rm0, st0, fu0, dn0⟩ (oFuse o.n) = R at *
      obtain ⟨⟨L1, rm1, st1, fu1, dn1⟩, f1⟩ := R
      unfold rdV rdC at hdo
      simp only [] at hdo hss
      go_wp2_with fail
      refine hfz.mono ?_
      clear hfz
      rintro e w6 ⟨rfl, c6, x6, d6⟩
      have hpmw : pm < wa.heap.size := (Array.getElem?_eq_some_iff.1 hbmA).1
      have hbm6 := x6.kp.heap hbmA (by rw [hcm]; unfold S3; omega)
      have hcm6 : c6 pm = 0 := (x6.old pm hpmw).trans hcm
      have ho6 := x6.kp.heap hoA (by rw [hcg]; unfold S3; omega)
      have HX6 := Lib.hid (HX.out.trans (x6.mono (T := fun c => c ≠ 0) (fun c h => by unfold S3 at h; omega)))
      have HD6 := Lib.hid d6
      have HRA6 : Hid (RA (fun j => c6 j = 0 ∧ j ≠ pm) w6 ao L0.length cp L0) := Lib.hid (((HRA.out.mono (Q := fun j => (col j = 0 ∧ j ≠ pm) ∧ j < wa.heap.size) (fun j hj c => ⟨c, hj⟩)).kp x6.kp (fun j _ c e => by rw [c.1.1] at e; unfold S3 at e; omega)).mono (fun j hj c => ⟨(x6.old j c.2).trans c.1.1, c.1.2⟩))
      have hpm6 : pm < w6.heap.size := (Array.getElem?_eq_some_iff.1 hbm6).1
      have hdo := hdo (fun j => c6 j = 0 ∧ j ≠ pm) w6 HRA6.out (fun j hj => ⟨cols_new HX6.out.cols hj, by omega⟩)
      clear z0 z1 z2 z3 y0 y1 y2 y3 y4 x6 d6 hoA hbmA
      obtain ⟨z0, z1, z2, z3⟩ := cells_4 ho6
      obtain ⟨⟨y0, y1, y2, y3, y4⟩, -⟩ := cells_five hbm6
      go_wp2_with fail
      refine hdo.mono ?_
      clear hdo
      rintro e w7 ⟨ao1, cp1, xo, xn, xc, rfl, hra7, k7⟩
      have hbm7 := k7.heap hbm6 id
      have p8 := putD_kp w7 pm ao1 cp1 ⟨L1, rm1, st1, fu1, dn1⟩
      have hbm8 := putD_heap ao1 cp1 ⟨L1, rm1, st1, fu1, dn1⟩ hbm7
      have X7 := HX6.out.trans (Ext.quiet HX6.out.cols k7)
      have HE : Hid (EndS W p pm i (putD w7 pm ao1 cp1 ⟨L1, rm1, st1, fu1, dn1⟩)) := Lib.hid ⟨⟨c6, s1, ⟨L1, rm1, st1, fu1, dn1⟩, ao1, cp1, X7.flip p8 (fun j c => by subst c; exact hpW), (HD6.out.keep k7).free p8 (fun j c => by subst c; exact hcm6), hbm8, hcm6, hra7.kp p8 (fun j _ c e => c.2 e), hss, by omega⟩⟩
      clear z0 z1 z2 z3 y0 y1 y2 y3 y4 hra7 p8 hbm8 X7 HX6 HD6 HRA6 k7 hbm6 ho6
      go_upto_region 41 with (refine wpList_store_disk rfl (.tmp 7) (.tmp 170) rfl pm ao1 cp1 ⟨L1, rm1, st1, fu1, dn1⟩ (by rfl) (by rfl) hbm7 ?_)
      clear hst hbm7
      generalize putD w7 pm ao1 cp1 ⟨L1, rm1, st1, fu1, dn1⟩ = wz at *
    case' inr.inr.inr.inr.inl =>
      rw [cK] at z0
      have hkb : o.keep.length = km := hkl'
      have kB : Kp Noone wa (wa.alloc (.cells #[] 3)) := (Kp.refl _ _).alloc _
      have hown : Own (fun j => j = wa.heap.size) (wa.alloc (.cells #[] 3)) 3 1 (some ⟨wa.heap.size, 0, none⟩) 0 0 [] := Own.fresh rfl (heap_alloc_new wa (.cells #[] 3)) rfl (by simp [maxLen])
      have hrow := (HIS.out.keep kB).row
      have hln : (o.keep.map (Value.int .i64)).length = km * 1 := by rw [List.length_map, hkb, Nat.mul_one]
      have hsB : wa.heap.size < (wa.alloc (.cells #[] 3)).heap.size := (Array.getElem?_eq_some_iff.1 (heap_alloc_new wa (.cells #[] 3))).1
      have zB := cells_4 (kB.heap hoA id)
      obtain ⟨zb0, zb1, zb2, zb3⟩ := zB
      go_wp2_with (at_builtin; refine wpList_append_gen _ rfl (.tmp 176) (.tmp 178) 45 rfl 3 i0 (.int .i64 0) 1 8 Try.underlying45 hi hz0 hz1 hz2 rfl (some ⟨wa.heap.size, 0, none⟩) 0 0 rfl ko km kc rfl _ [] hown (o.keep.map (Value.int .i64)) hln hrow (ints_one _) (by omega) (by unfold maxLen; omega) ?_)
      intro fo6 fc6 w6 ho k6
      have ho2 := Own.mono ho (G := fun j => wa.heap.size ≤ j) (fun j _ c => by rcases c with c | c; exact Nat.le_of_eq c.symm; omega)
      have k66 : Kp Noone wa w6 := kB.fin k6 (fun j c => Or.inr (Nat.le_of_eq c.symm))
      have HX6 := Lib.hid (HX.out.trans (Ext.quiet HX.out.cols k66))
      have hIS := ho2.is
      have hko : o.keep ≠ [] → ∀ a, fo6 = some a → col a.block = 0 := fun hx a ha => by
        rcases ho2 with ⟨-, h2, -, h4⟩
        rcases h4 with h4 | ⟨g, off, cur, h0, hg, -⟩
        · exfalso; apply hx; exact List.eq_nil_of_length_eq_zero (by omega)
        · rw [ha] at h0; cases h0; exact cols_new HX.out.cols hg
      have hcr := crash_dk W.heap.size col 0 p s fo6 _ fc6 o.keep w6 (HD.out.keep k66) HX6.out.cols HX6.out.size hIS hko
      have hst1 := crashF_steps s o.keep
      have hss := sim_crashE HSM.out HD.out.2 o.keep
      have hdo := fun P' w hr hp hk => do_step P' ao cp ⟨L0, rm0, st0, fu0, dn0⟩ s (oCrash o.keep) none 0 0 ko km kc w hr hp HSM.out HD.out.2 (op_crash hk1m) (BS.nil _ _) hk (by omega)
      generalize crashF s o.keep = s1 at *
      generalize doE ⟨L0, rm0, st0, fu0, dn0⟩ (oCrash o.keep) = R at *
      obtain ⟨⟨L1, rm1, st1, fu1, dn1⟩, f1⟩ := R
      unfold rdV rdC at hdo
      simp only [] at hdo hss
      have hbm6 := k66.heap hbmA id
      have ho46 := k66.heap hoA id
      have HRA6 := Lib.hid (HRA.out.keep k66)
      clear ho ho2 hIS hko k66 k6 kB hown hrow hln hsB zb0 zb1 zb2 zb3 z0 z1 z2 z3 y0 y1 y2 y3 y4 hoA hbmA
      go_wp2_with fail
      refine hcr.mono ?_
      clear hcr
      rintro e w7 ⟨rfl, c7, x7, d7⟩
      have hpmw : pm < w6.heap.size := (Array.getElem?_eq_some_iff.1 hbm6).1
      have hbm7 := x7.kp.heap hbm6 (by rw [hcm]; unfold S3; omega)
      have hcm7 : c7 pm = 0 := (x7.old pm hpmw).trans hcm
      have ho47 := x7.kp.heap ho46 (by rw [hcg]; unfold S3; omega)
      have HX7 := Lib.hid (HX6.out.trans (x7.mono (T := fun c => c ≠ 0) (fun c h => by unfold S3 at h; omega)))
      have HD7 := Lib.hid d7
      have HRA7 : Hid (RA (fun j => c7 j = 0 ∧ j ≠ pm) w7 ao L0.length cp L0) := Lib.hid (((HRA6.out.mono (Q := fun j => (col j = 0 ∧ j ≠ pm) ∧ j < w6.heap.size) (fun j hj c => ⟨c, hj⟩)).kp x7.kp (fun j _ c e => by rw [c.1.1] at e; unfold S3 at e; omega)).mono (fun j hj c => ⟨(x7.old j c.2).trans c.1.1, c.1.2⟩))
      have hpm7 : pm < w7.heap.size := (Array.getElem?_eq_some_iff.1 hbm7).1
      have hdo := hdo (fun j => c7 j = 0 ∧ j ≠ pm) w7 HRA7.out (fun j hj => ⟨cols_new HX7.out.cols hj, by omega⟩) (HIW.out.keep (HKW.out _ _ HX7.out))
      clear x7 d7 hbm6 ho46 HX6 HRA6
      obtain ⟨z0, z1, z2, z3⟩ := cells_4 ho47
      obtain ⟨⟨y0, y1, y2, y3, y4⟩, -⟩ := cells_five hbm7
      go_wp2_with fail
      refine hdo.mono ?_
      clear hdo
      rintro e w8 ⟨ao1, cp1, xo, xn, xc, rfl, hra8, k8⟩
      have hbm8 := k8.heap hbm7 id
      have p9 := putD_kp w8 pm ao1 cp1 ⟨L1, rm1, st1, fu1, dn1⟩
      have hbm9 := putD_heap ao1 cp1 ⟨L1, rm1, st1, fu1, dn1⟩ hbm8
      have X8 := HX7.out.trans (Ext.quiet HX7.out.cols k8)
      have HE : Hid (EndS W p pm i (putD w8 pm ao1 cp1 ⟨L1, rm1, st1, fu1, dn1⟩)) := Lib.hid ⟨⟨c7, s1, ⟨L1, rm1, st1, fu1, dn1⟩, ao1, cp1, X8.flip p9 (fun j c => by subst c; exact hpW), (HD7.out.keep k8).free p9 (fun j c => by subst c; exact hcm7), hbm9, hcm7, hra8.kp p9 (fun j _ c e => c.2 e), hss, by omega⟩⟩
      clear z0 z1 z2 z3 y0 y1 y2 y3 y4 hra8 p9 hbm9 X8 HX7 HD7 HRA7 k8 hbm7 ho47
      go_upto_region 41 with (refine wpList_store_disk rfl (.tmp 7) (.tmp 187) rfl pm ao1 cp1 ⟨L1, rm1, st1, fu1, dn1⟩ (by rfl) (by rfl) hbm8 ?_)
      clear hst hbm8
      generalize putD w8 pm ao1 cp1 ⟨L1, rm1, st1, fu1, dn1⟩ = wz at *
    case' inr.inr.inr.inr.inr =>
      have e0 : (o.k == 0) = false := by simpa using c0
      have e1 : (o.k == 1) = false := by simpa using c1
      have e2 : (o.k == 2) = false := by simpa using c2
      have e3 : (o.k == 3) = false := by simpa using c3
      have e4 : (o.k == 4) = false := by simpa using c4
      have HE : Hid (EndS W p pm i wa) := Lib.hid ⟨⟨col, s, ⟨L0, rm0, st0, fu0, dn0⟩, ao, cp, HX.out, HD.out, hbmA, hcm, HRA.out, HSM.out, by omega⟩⟩
      clear c0 c1 c2 c3 c4 hbmA y0 y1 y2 y3 y4
      go_upto_region 41 with fail
      clear e0 e1 e2 e3 e4 z0 z1 z2 z3 hoA hst
      obtain ⟨wz, hwz⟩ : ∃ x, x = wa := ⟨_, rfl⟩
      subst hwz
    all_goals (
      clear HX HD HRA HSM HBS HBW HIW HIS HOP
      obtain ⟨col9, s9, ⟨L9, rm9, st9, fu9, dn9⟩, ao9, cp9, X9, d9, hbm9, hcm9, hra9, hsm9, hst9⟩ := HE.out.ex
      simp only [] at hra9
      unfold rdC at hbm9
      simp only [] at hbm9
      have h64 : L9.length ≤ 64 := by have h := hsm9.a.len; have h2 := d9.2.len; simp only [] at h; omega
      have k0 : Kp Noone wz wz.drew := (Kp.refl _ _).drew
      have him : imageF s9 = L9 := by unfold imageF namesF; exact hsm9.a.image
      have hIm := image_dk col9 0 p s9 wz.drew (d9.keep k0)
      rw [him] at hIm
      have hSm : ∀ w' io ic, Kp Noone wz w' → AS w' io L9.length ic L9 → Calls Try.prog 30 #[.slice io L9.length ic, .slice ao9 L9.length cp9] w' fun e w'' => e = .returned (.bool true) ∧ Kp Noone w' w'' := fun w' io ic k hi => refSame_any io L9.length ic ao9 L9.length cp9 L9 w' hi (hra9.keep k).as (by omega)
      have hcs : ∀ w', Kp Noone wz w' → (w'.cell? ⟨pm, 0, none⟩ = some (.slice ao9 L9.length cp9) ∧ w'.cell? ⟨pm, 1, none⟩ = some (.int .i64 rm9) ∧ w'.cell? ⟨pm, 2, none⟩ = some (.int .i64 st9) ∧ w'.cell? ⟨pm, 3, none⟩ = some (.int .i64 fu9) ∧ w'.cell? ⟨pm, 4, none⟩ = some (.bool dn9)) := fun w' k => (cells_five (k.heap hbm9 id)).1
      have R1 : Hid (∀ w', Kp Noone wz w' → RunS W p pm n (.int .i64 ((i + 1 : Nat) : Int)) w') := Lib.hid (fun w' k => RunS.mk ⟨i + 1, col9, s9, ⟨L9, rm9, st9, fu9, dn9⟩, ao9, cp9, by rfl, by omega, by omega, X9.trans (Ext.quiet X9.cols k), d9.keep k, k.heap hbm9 id, hcm9, hpW, hra9.keep k, hsm9, by omega⟩)
      clear HE X9 d9 hra9 hsm9 hst9 him hcm9 hbm9
      go_region_held3 (fun w' => (w'.cell? ⟨pm, 0, none⟩ = some (.slice ao9 L9.length cp9) ∧ w'.cell? ⟨pm, 1, none⟩ = some (.int .i64 rm9) ∧ w'.cell? ⟨pm, 2, none⟩ = some (.int .i64 st9) ∧ w'.cell? ⟨pm, 3, none⟩ = some (.int .i64 fu9) ∧ w'.cell? ⟨pm, 4, none⟩ = some (.bool dn9)))
        (first | exact hcs _ k0 | exact hcs _ ka | exact hcs _ kb)
        (first
          | (go_at_call 20; refine hIm.mono ?_; rintro e wq ⟨io, ic, rfl, has, ka1⟩; have ka : Kp Noone wz wq := k0.trans ka1)
          | (go_at_call 30; refine (hSm _ _ _ ka has.as).mono ?_; rintro e wb ⟨rfl, kb1⟩; have kb : Kp Noone wz wb := ka.trans kb1))
      have R := Lib.hid (R1.out wb kb)
      clear R1 hcs hIm hSm ka1 ka kb1 kb has k0
      go_wp2_with fail
      go_roundw
      case rel => exact R.out
      case measure => simp [intOf]; omega)

end Go.Proofs.Ytigdhdclfdojgaa
