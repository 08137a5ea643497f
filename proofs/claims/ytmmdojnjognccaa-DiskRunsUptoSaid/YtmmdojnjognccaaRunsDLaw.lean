/-
  DiskRuns: whatever is asked of a disk, every answer and the image behind every call are the document's.
-/
import Derived.Test.YtmmdojnjognccaaReadAs
namespace Go.Proofs.Ytmmdojnjognccaa
open Go.RowKit

theorem mount_steps (room : Int) (As : Img) : (mountF room As).1.steps = 0 := by
  have h := (mountL_room As (newF room)).2.1
  unfold mountF
  split
  · rfl
  · split
    · exact h
    · split
      · exact h
      · exact h
/-- A region to whose end every order comes with one frame, but for five letters. -/
theorem wp_region_five {P : Program} {id : Nat} {ops : Array Oper} {b : Bool} {Q : Exit → Act → World → Prop} {a : Act} {w : World} {F : Nat → Option Addr → Nat → Option Addr → Nat → Act} {G : Nat → Option Addr → Nat → Option Addr → Nat → World → Prop}
    (h : (Code.region id ops b).wp P (NoPanic fun e a' w' => e = .normal ∧ ∃ pn ao cap xo xc, a' = F pn ao cap xo xc ∧ G pn ao cap xo xc w') a w) (k : ∀ pn ao cap xo xc w', G pn ao cap xo xc w' → Q .normal (F pn ao cap xo xc) w') : (Code.region id ops b).wp P Q a w :=
  Code.wp_mono (fun e a' w' q => by
    obtain ⟨rfl, pn, ao, cap, xo, xc, rfl, hg⟩ := NoPanic.imp e a' w' q
    exact k pn ao cap xo xc w' hg) h
/-- Between two steps. -/
structure RunR (W : World) (p pm n : Nat) (v : Value) (wr : World) : Prop where
  ex : ∃ (i : Nat) (col : Nat → Nat) (s : DS) (m : RD) (ao : Option Addr) (cap : Nat), v = .int .i64 (i : Int) ∧ i ≤ n ∧ i ≤ 100 ∧ Ext W.heap.size (fun c => c ≠ 0) (fun _ => 0) W col wr ∧ Dk col 0 wr p s ∧
    wr.heap[pm]? = some (.cells (rdC ao cap m) 56 (0, 0)) ∧ col pm = 0 ∧ W.heap.size ≤ pm ∧ RA (fun j => col j = 0 ∧ j ≠ pm) wr ao m.L.length cap m.L ∧ Sim m s ∧ s.steps ≤ i

attribute [local irreducible] putD doF doR mountR mountF imageF
set_option maxHeartbeats 4000000 in
set_option maxRecDepth 100000 in
theorem diskRuns_walk (room : Int) (fo : Option Addr) (na ca : Nat) (As : Img) (so : Option Addr) (n cap : Nat) (ps : List OpD) (W : World) (ha : AS W fo na ca As) (hs : OS W so n cap ps 1048576) (hna : na ≤ 1048576)
    (hB : ∀ x ∈ As, x.1.size ≤ maxLen ∧ x.2.data.length ≤ 1048576) :
    Calls Try.prog 7 #[.int .i64 room, .slice fo na ca, .slice so n cap] W fun e w' => e = .returned (.bool true) ∧ Kp Noone W w' := by
  have hla := ha.len
  have hsl := hs.len
  have hD1 : ∀ x ∈ As, x.2.data.length ≤ 140737488355328 := fun x hx => by have := (hB x hx).2; omega
  have hD2 : ∀ x ∈ As, x.2.data.length ≤ 281474976710656 := fun x hx => by have := (hB x hx).2; omega
  have hNm : ∀ x ∈ As, x.1.size ≤ 9223372036854775807 := fun x hx => by have h := (hB x hx).1; unfold maxLen at h; omega
  have HA := Lib.hid ha
  have HS := Lib.hid hs
  have HD1 := Lib.hid hD1
  have HD2 := Lib.hid hD2
  have HNM := Lib.hid hNm
  clear ha hs hD1 hD2 hNm hB
  have HKW : Hid (∀ (w : World) (col : Nat → Nat), Ext W.heap.size (fun c => c ≠ 0) (fun _ => 0) W col w → Kp Noone W w) := Lib.hid (fun w col X => X.kp.mono (fun j hj c => absurd rfl c))
  go_enter Try.func7, Try.ntmps7
  go_wp2_with fail
  refine (head_any _).mono ?_
  rintro e w1 ⟨rfl, k1⟩
  go_wp2_with fail
  refine (mountR_any (fun _ => True) room fo na ca As w1 ((HA.out.keep k1).ra (fun _ _ => trivial)) (fun _ _ => trivial) (by omega) HD1.out HNM.out).mono ?_
  obtain ⟨hms, hsim⟩ := mount_sim room As
  generalize mountR room As = R at *
  obtain ⟨⟨L, rm, st, fu, dn⟩, er⟩ := R
  simp only [] at hms
  rintro e w2 hmt
  obtain ⟨ao2, cap2, rfl, hra2, k2⟩ := hmt.ex
  unfold rdV rdC
  simp only [] at hra2
  have hra2b := hra2.mono (Q := fun j => j < w2.heap.size) (fun j hj _ => hj)
  have k3 : Kp Noone w2 (w2.alloc (.cells #[.slice ao2 L.length cap2, .int .i64 rm, .int .i64 st, .int .i64 fu, .bool dn] 56)) := (Kp.refl _ _).alloc _
  have hb3 := heap_alloc_new w2 (.cells #[.slice ao2 L.length cap2, .int .i64 rm, .int .i64 st, .int .i64 fu, .bool dn] 56)
  have HRA := Lib.hid (hra2b.keep k3)
  have HK3 := Lib.hid ((k1.trans k2).trans k3)
  have hpm : W.heap.size ≤ w2.heap.size := by have := k1.size; have := k2.size; omega
  clear hmt hra2 hra2b
  go_upto_region 4 with fail
  generalize w2.alloc (.cells #[.slice ao2 L.length cap2, .int .i64 rm, .int .i64 st, .int .i64 fu, .bool dn] 56) = w3 at *
  generalize w2.heap.size = pm at *
  have hpm3 := (Array.getElem?_eq_some_iff.1 hb3).1
  go_wp2_with fail
  refine (copyR_any (fun _ => True) fo na ca As w3 ((HA.out.keep HK3.out).ra (fun _ _ => trivial)) (fun _ _ => trivial) (by omega) HD2.out).mono ?_
  rintro e w4 ⟨ao4, cap4, rfl, hra4, k4⟩
  rw [hla] at hra4
  have hb4 := k4.heap hb3 id
  have HRA4 := Lib.hid (HRA.out.keep k4)
  have HK4 := Lib.hid (HK3.out.trans k4)
  have hpm4 := (Array.getElem?_eq_some_iff.1 hb4).1
  have hmd := mount_dk W.heap.size (fun _ => 0) 0 room ao4 na cap4 As w4 (Cols.zero _ _) HK4.out.size hra4.as (fun j _ c => by unfold S3 at c; omega) (by omega) HD1.out HNM.out
  have hst0 := mount_steps room As
  generalize mountF room As = F at hmd hms hsim hst0
  obtain ⟨s0, er0⟩ := F
  simp only [] at hms hsim hst0
  subst hms
  clear k1 k2 k3 k4 hb3 hra4
  go_wp2_with fail
  refine hmd.mono ?_
  clear hmd
  rintro e w5 hmt
  obtain ⟨p, c5, rfl, x5, d5⟩ := hmt.ex
  simp only [] at d5
  have hb5 := x5.kp.heap hb4 (by unfold S3; omega)
  have hcp : c5 pm = 0 := x5.old pm hpm4
  have X5 := (Ext.quiet (S := fun c => c ≠ 0) (Cols.zero W.heap.size W) HK4.out).trans (x5.mono (T := fun c => c ≠ 0) (fun c h => by unfold S3 at h; omega))
  have HRA5 : Hid (RA (fun j => c5 j = 0 ∧ j ≠ pm) w5 ao2 L.length cap2 L) := Lib.hid ((HRA4.out.kp x5.kp (fun j _ _ c => by unfold S3 at c; omega)).mono (fun j hj c => ⟨x5.old j (by omega), by omega⟩))
  have HX5 := Lib.hid X5
  have HSIM := Lib.hid hsim
  have HD5 := Lib.hid d5
  clear x5 X5 hsim d5 hmt hb4 HRA HRA4
  by_cases her : er = 0
  · subst her
    rw [if_pos rfl]
    have hok := HD5.out rfl
    have R0 : Hid (RunR W p pm n (.int .i64 0) w5) := Lib.hid ⟨⟨0, c5, s0, ⟨L, rm, st, fu, dn⟩, ao2, cap2, by rfl, Nat.zero_le _, Nat.zero_le _, HX5.out, hok, hb5, hcp, hpm, HRA5.out, HSIM.out, by omega⟩⟩
    clear hok
    go_wp2_with fail
    go_loopw [11] (fun v wr => RunR W p pm n v wr) (fun v _ => n - (intOf v).toNat)
    case atStart => exact R0.out
    case round =>
      clear R0 HX5 HRA5 HSIM HD5 hst0 hb5 hcp
      obtain ⟨i, col, s, m, ao, cap, rfl, hin, hi100, X, d, hbm, hcm, hpW, hRA, hsm, hst⟩ := hrel.ex
      by_cases hgo : i < n ∧ i < 100
      · obtain ⟨hlt, h60⟩ := hgo
        have kr := HKW.out _ _ X
        obtain ⟨hop, b, off, bo, bm, bc, ko, km, kc, rfl, hbl, e0, e1, e2, e3, e4, e5, hbs, his⟩ := HS.out.get i (by omega)
        have hwi : IntKind.i64.wrap ((i : Int) + 1) = (i : Int) + 1 := IntWalk.i64_in _ (by omega)
        generalize ps[i] = o at *
        have hopc : Hid (∀ w', Kp Noone W w' → (w'.cell? ⟨b, off + i * 6, none⟩ = some (.int .i64 o.k) ∧ w'.cell? ⟨b, off + i * 6 + 1, none⟩ = some (.string o.name) ∧ w'.cell? ⟨b, off + i * 6 + 2, none⟩ = some (.string o.dest) ∧ w'.cell? ⟨b, off + i * 6 + 3, none⟩ = some (.slice bo bm bc) ∧ w'.cell? ⟨b, off + i * 6 + 4, none⟩ = some (.int .i64 o.n) ∧ w'.cell? ⟨b, off + i * 6 + 5, none⟩ = some (.slice ko km kc))) := Lib.hid (fun w' k => ⟨k.cell e0 id, k.cell e1 id, k.cell e2 id, k.cell e3 id, k.cell e4 id, k.cell e5 id⟩)
        have hpr : pm < wr.heap.size := (Array.getElem?_eq_some_iff.1 hbm).1
        have hrok := hsm.rok d.2
        have hms : m.steps < 4611686018427387904 := by rw [hsm.steps]; omega
        have hdoA := doR_any (fun j => col j = 0 ∧ j ≠ pm) ao cap m o bo bm bc ko km kc wr.drew (hRA.keep ((Kp.refl _ _).drew)) (fun j hj => ⟨cols_new X.cols hj, by have e : wr.drew.heap.size = wr.heap.size := rfl; omega⟩) hrok hop ((hbs.keep kr).keep ((Kp.refl _ _).drew)) ((his.keep kr).keep ((Kp.refl _ _).drew)) hms
        have kA : Kp Noone wr (wr.drew.alloc (.cells #[.slice none 0 0, .int .i64 0, .int .i64 0, .int .i64 0, .bool false] 56)) := ((Kp.refl _ _).drew).alloc _
        have eA := alloc_size wr.drew (.cells #[.slice none 0 0, .int .i64 0, .int .i64 0, .int .i64 0, .bool false] 56)
        have hnA : (wr.drew.alloc (.cells #[.slice none 0 0, .int .i64 0, .int .i64 0, .int .i64 0, .bool false] 56)).heap[wr.heap.size]? = some (.cells #[.slice none 0 0, .int .i64 0, .int .i64 0, .int .i64 0, .bool false] 56 (0, 0)) := heap_alloc_new wr.drew (.cells #[.slice none 0 0, .int .i64 0, .int .i64 0, .int .i64 0, .bool false] 56)
        have hdoB := doR_any (fun j => col j = 0 ∧ j ≠ pm ∧ j ≠ wr.heap.size) ao cap m o bo bm bc ko km kc _ ((hRA.mono (Q := fun j => col j = 0 ∧ j ≠ pm ∧ j ≠ wr.heap.size) (fun j hj c => ⟨c.1, c.2, by omega⟩)).keep kA) (fun j hj => by
          have e : wr.drew.heap.size = wr.heap.size := rfl
          exact ⟨cols_new X.cols (by omega), by omega, by omega⟩) hrok hop ((hbs.keep kr).keep kA) ((his.keep kr).keep kA) hms
        obtain ⟨hsd, hse⟩ := sim_do hsm d.2 o
        have hsp := doF_steps s o
        generalize doR m o = R at *
        obtain ⟨⟨L1, rm1, st1, fu1, dn1⟩, l1, er1⟩ := R
        obtain ⟨L0, rm0, st0, fu0, dn0⟩ := m
        have hdo2 : Calls Try.prog 29 #[.agg #[.slice ao L0.length cap, .int .i64 rm0, .int .i64 st0, .int .i64 fu0, .bool dn0], .agg #[.int .i64 o.k, .string o.name, .string o.dest, .slice bo bm bc, .int .i64 o.n, .slice ko km kc]] wr.drew fun e w' => ∃ ao1 cap1 xo xc,
            e = .returned (.tuple #[.agg #[.slice ao1 L1.length cap1, .int .i64 rm1, .int .i64 st1, .int .i64 fu1, .bool dn1], .slice xo l1.length xc, .int .i64 (er1 : Int)]) ∧ RA (fun j => col j = 0 ∧ j ≠ pm) w' ao1 L1.length cap1 L1 ∧ DataP (fun j => col j = 0 ∧ j ≠ pm) w' xo l1.length xc l1 ∧ Kp Noone wr.drew w' := hdoA.mono (fun e w' h => h.ex)
        have hdo3 : Calls Try.prog 29 #[.agg #[.slice ao L0.length cap, .int .i64 rm0, .int .i64 st0, .int .i64 fu0, .bool dn0], .agg #[.int .i64 o.k, .string o.name, .string o.dest, .slice bo bm bc, .int .i64 o.n, .slice ko km kc]] (wr.drew.alloc (.cells #[.slice none 0 0, .int .i64 0, .int .i64 0, .int .i64 0, .bool false] 56)) fun e w' => ∃ ao1 cap1 xo xc,
            e = .returned (.tuple #[.agg #[.slice ao1 L1.length cap1, .int .i64 rm1, .int .i64 st1, .int .i64 fu1, .bool dn1], .slice xo l1.length xc, .int .i64 (er1 : Int)]) ∧ RA (fun j => col j = 0 ∧ j ≠ pm ∧ j ≠ wr.heap.size) w' ao1 L1.length cap1 L1 ∧ DataP (fun j => col j = 0 ∧ j ≠ pm ∧ j ≠ wr.heap.size) w' xo l1.length xc l1 ∧ Kp Noone (wr.drew.alloc (.cells #[.slice none 0 0, .int .i64 0, .int .i64 0, .int .i64 0, .bool false] 56)) w' := hdoB.mono (fun e w' h => h.ex)
        unfold rdC at hbm
        simp only [] at hbm
        have hpc : ∀ w', Kp Noone wr w' → ((w'.cell? ⟨pm, 0, none⟩ = some (.slice ao L0.length cap) ∧ w'.cell? ⟨pm, 1, none⟩ = some (.int .i64 rm0) ∧ w'.cell? ⟨pm, 2, none⟩ = some (.int .i64 st0) ∧ w'.cell? ⟨pm, 3, none⟩ = some (.int .i64 fu0) ∧ w'.cell? ⟨pm, 4, none⟩ = some (.bool dn0))) := fun w' k => (cells_five (k.heap hbm id)).1
        have k0 : Kp Noone wr wr.drew := (Kp.refl _ _).drew
        have hcs : ∀ w', Kp Noone wr w' → ((w'.cell? ⟨pm, 0, none⟩ = some (.slice ao L0.length cap) ∧ w'.cell? ⟨pm, 1, none⟩ = some (.int .i64 rm0) ∧ w'.cell? ⟨pm, 2, none⟩ = some (.int .i64 st0) ∧ w'.cell? ⟨pm, 3, none⟩ = some (.int .i64 fu0) ∧ w'.cell? ⟨pm, 4, none⟩ = some (.bool dn0)) ∧ (w'.cell? ⟨b, off + i * 6, none⟩ = some (.int .i64 o.k) ∧ w'.cell? ⟨b, off + i * 6 + 1, none⟩ = some (.string o.name) ∧ w'.cell? ⟨b, off + i * 6 + 2, none⟩ = some (.string o.dest) ∧ w'.cell? ⟨b, off + i * 6 + 3, none⟩ = some (.slice bo bm bc) ∧ w'.cell? ⟨b, off + i * 6 + 4, none⟩ = some (.int .i64 o.n) ∧ w'.cell? ⟨b, off + i * 6 + 5, none⟩ = some (.slice ko km kc))) := fun w' k => ⟨hpc w' k, hopc.out w' (kr.trans k)⟩
        have hks : ∀ (ao1 : Option Addr) (cap1 : Nat) (w' : World), Kp Noone wr w' → Kp Noone wr (((((w'.setCell ⟨wr.heap.size, 0, none⟩ (.slice ao1 L1.length cap1)).setCell ⟨wr.heap.size, 1, none⟩ (.int .i64 rm1)).setCell ⟨wr.heap.size, 2, none⟩ (.int .i64 st1)).setCell ⟨wr.heap.size, 3, none⟩ (.int .i64 fu1)).setCell ⟨wr.heap.size, 4, none⟩ (.bool dn1)) := fun ao1 cap1 w' k => by
          have h0 : ¬ wr.heap.size < wr.heap.size := by omega
          exact ((((k.setCell (fun c => absurd c h0) _).setCell (fun c => absurd c h0) _).setCell (fun c => absurd c h0) _).setCell (fun c => absurd c h0) _).setCell (fun c => absurd c h0) _
        have HX := Lib.hid X
        have HD := Lib.hid d
        have HSD := Lib.hid hsd
        have HSE := Lib.hid hse
        have HSP := Lib.hid hsp
        have HBM := Lib.hid hbm
        have HBS := Lib.hid hbs
        have HIS := Lib.hid his
        have HKR := Lib.hid kr
        have HOP := Lib.hid hop
        clear hdoA hdoB hRA hbl e0 e1 e2 e3 e4 e5 hpc hrok hms hsm hsd hse hsp X d hbm hbs his hrel hop
        go_upto_region 12 with fail
        apply wp_region_five (G := fun pn ao1 cap1 xo xc wz => wz.heap[pn]? = some (.cells #[.slice ao1 L1.length cap1, .int .i64 rm1, .int .i64 st1, .int .i64 fu1, .bool dn1] 56 (0, 0)) ∧ Kp Noone wr wz ∧ RA (fun j => col j = 0 ∧ j ≠ pm) wz ao1 L1.length cap1 L1 ∧ DataP (fun j => col j = 0 ∧ j ≠ pm) wz xo l1.length xc l1)
        case h =>
          go_region_held3 (fun w' => (w'.cell? ⟨pm, 0, none⟩ = some (.slice ao L0.length cap) ∧ w'.cell? ⟨pm, 1, none⟩ = some (.int .i64 rm0) ∧ w'.cell? ⟨pm, 2, none⟩ = some (.int .i64 st0) ∧ w'.cell? ⟨pm, 3, none⟩ = some (.int .i64 fu0) ∧ w'.cell? ⟨pm, 4, none⟩ = some (.bool dn0)) ∧ (w'.cell? ⟨b, off + i * 6, none⟩ = some (.int .i64 o.k) ∧ w'.cell? ⟨b, off + i * 6 + 1, none⟩ = some (.string o.name) ∧ w'.cell? ⟨b, off + i * 6 + 2, none⟩ = some (.string o.dest) ∧ w'.cell? ⟨b, off + i * 6 + 3, none⟩ = some (.slice bo bm bc) ∧ w'.cell? ⟨b, off + i * 6 + 4, none⟩ = some (.int .i64 o.n) ∧ w'.cell? ⟨b, off + i * 6 + 5, none⟩ = some (.slice ko km kc)))
            (first | exact hcs _ k0 | exact hcs _ k2 | exact hcs _ kA | exact hcs _ (k2.alloc _) | exact hcs _ (hks _ _ _ k2))
            (first
              | (go_at_call 29; refine hdo2.mono ?_; rintro e w1 ⟨ao1, cap1, xo, xc, rfl, hra1, hbx1, k1⟩; have k2 : Kp Noone wr w1 := k0.trans k1)
              | (go_at_call 29; refine hdo3.mono ?_; rintro e w1 ⟨ao1, cap1, xo, xc, rfl, hra1, hbx1, k1⟩; have k2 : Kp Noone wr w1 := kA.trans k1; obtain ⟨⟨y0, y1, y2, y3, y4⟩, yf⟩ := cells_five (k1.heap hnA id); have yf0 := yf 0; have yf1 := yf 1; have yf2 := yf 2; have yf3 := yf 3; have yf4 := yf 4))
          · generalize hpn : w1.heap.size = pn
            refine NoPanic.normal ⟨rfl, pn, ao1, cap1, xo, xc, rfl, ?_⟩
            rw [← hpn]
            have kz : Kp Noone w1 (w1.alloc (.cells #[.slice ao1 L1.length cap1, .int .i64 rm1, .int .i64 st1, .int .i64 fu1, .bool dn1] 56)) := (Kp.refl _ _).alloc _
            exact ⟨heap_alloc_new w1 _, k2.alloc _, hra1.keep kz, hbx1.keep kz⟩
          · generalize hpn : wr.heap.size = pn
            refine NoPanic.normal ⟨rfl, pn, ao1, cap1, xo, xc, rfl, ?_⟩
            rw [← hpn]
            have kz := set5_kpS (Kp.refl (fun j => j = wr.heap.size) w1) (g := wr.heap.size) rfl (.slice ao1 L1.length cap1) (.int .i64 rm1) (.int .i64 st1) (.int .i64 fu1) (.bool dn1)
            exact ⟨set5_heap (k1.heap hnA id) _ _ _ _ _, hks _ _ _ k2, (hra1.kp kz (fun j _ c e => c.2.2 e)).mono (fun j _ c => ⟨c.1, c.2.1⟩), (hbx1.kp kz (fun j _ c e => c.2.2 e)).mono (fun j _ c => ⟨c.1, c.2.1⟩)⟩
        case k =>
          intro pn ao1 cap1 xo xc wz hG
          obtain ⟨hbn, kz, hraz, hdz⟩ := hG
          have Xz := HX.out.trans (Ext.quiet HX.out.cols kz)
          have dz := HD.out.keep kz
          have hbmz := kz.heap HBM.out id
          have k4 := putD_kp wz pm ao1 cap1 ⟨L1, rm1, st1, fu1, dn1⟩
          have hbm4 := putD_heap ao1 cap1 ⟨L1, rm1, st1, fu1, dn1⟩ hbmz
          unfold rdC at hbm4
          simp only [] at hbm4
          have X4 := Xz.flip k4 (fun j c => by subst c; exact hpW)
          have d4 := dz.free k4 (fun j c => by subst c; exact hcm)
          have HRA4 := Lib.hid (hraz.kp k4 (fun j _ c e => c.2 e))
          have HDA4 := Lib.hid (hdz.kp k4 (fun j _ c e => c.2 e))
          have HX4 := Lib.hid X4
          have HD4 := Lib.hid d4
          obtain ⟨⟨y0, y1, y2, y3, y4⟩, -⟩ := cells_five hbn
          clear hraz hdz Xz dz k4 kz hdo2 hdo3 hcs hks kA eA hnA k0 X4 d4 HX HD HBM
          go_upto_region 14 with (refine wpList_store_disk (by dsimp only) (.tmp 7) (.tmp 66) (by dsimp only) pm ao1 cap1 ⟨L1, rm1, st1, fu1, dn1⟩ (by rfl) (by rfl) hbmz ?_)
          clear y0 y1 y2 y3 y4 hbmz hbn
          generalize putD wz pm ao1 cap1 ⟨L1, rm1, st1, fu1, dn1⟩ = w4 at *
          have kW4 := HKW.out _ _ HX4.out
          obtain ⟨z0, z1, z2, z3, z4, z5⟩ := hopc.out w4 kW4
          have hpm4 : pm < w4.heap.size := (Array.getElem?_eq_some_iff.1 hbm4).1
          have hda := do_any W.heap.size col 0 p s o bo bm bc ko km kc w4 HD4.out HX4.out.cols HX4.out.size HOP.out (HBS.out.keep kW4) (HIS.out.keep kW4) (by omega)
          have hsd := HSD.out
          have hse := HSE.out
          have hsp := HSP.out
          generalize doF s o = F at hda hsd hse hsp
          obtain ⟨⟨A1, r1, t1, f1, w1⟩, l2, er2⟩ := F
          obtain ⟨hsa, e1, e2, e3, e4⟩ := hsd
          simp only [] at hsa e1 e2 e3 e4 hsp hse
          obtain ⟨rfl, rfl⟩ : l1 = l2 ∧ er1 = er2 := by injection hse; exact ⟨by assumption, by assumption⟩
          subst e1 e2 e3 e4
          have HSA := Lib.hid hsa
          clear hsa hse HSD HSE HSP
          go_wp2_with fail
          refine hda.mono ?_
          clear hda
          rintro e w5 hto
          obtain ⟨yo, yc, c5, rfl, x5, d5, own5⟩ := hto.ex
          simp only [] at d5 own5
          have X5 := HX4.out.trans (x5.mono (T := fun c => c ≠ 0) (fun c h => by unfold S3 at h; omega))
          have hbm5 := x5.kp.heap hbm4 (by rw [hcm]; unfold S3; omega)
          have hcm5 : c5 pm = 0 := (x5.old pm hpm4).trans hcm
          have hra5 : RA (fun j => c5 j = 0 ∧ j ≠ pm) w5 ao1 L1.length cap1 L1 := ((HRA4.out.mono (Q := fun j => (col j = 0 ∧ j ≠ pm) ∧ j < w4.heap.size) (fun j hj c => ⟨c, hj⟩)).kp x5.kp (fun j _ c e => by rw [c.1.1] at e; unfold S3 at e; omega)).mono (fun j hj c => ⟨(x5.old j c.2).trans c.1.1, c.1.2⟩)
          have hb5 : BS w5 xo l1.length xc l1 := (HDA4.out.kp x5.kp (fun j _ c e => by rw [c.1] at e; unfold S3 at e; omega)).1
          have hy5 : BS w5 yo l1.length yc l1 := own5.bs
          have hok5 := d5.2
          have hsum : sumL L1 = sumF A1 := HSA.out.sum
          have hL64 : L1.length ≤ 64 := by rw [HSA.out.len]; exact hok5.len
          have hfit : L1.Fit := fun x hx => hok5.each x (HSA.out.perm.subset hx)
          have hsm := hfit.small hL64
          have hsb := hsm.sum
          have hrm := hok5.room
          simp only [] at hrm
          have hl1 : l1.length ≤ 9223372036854775807 := by have h1 := hy5.le; have h2 := hy5.max; unfold maxLen at h2; omega
          have hw1 : IntKind.i64.wrap (rm1 - sumL L1) = rm1 - sumL L1 := IntWalk.i64_in _ (by omega)
          have hC16 : ∀ w', Kp Noone w5 w' → Calls Try.prog 16 #[.slice yo l1.length yc, .slice xo l1.length xc] w' fun e w'' => e = .returned (.bool true) ∧ Kp Noone w' w'' := fun w' k => by
            refine (same_any yo xo l1.length yc l1.length xc l1 l1 w' (hy5.keep k) (hb5.keep k) hl1).mono ?_
            rintro e w'' ⟨rfl, q, rfl⟩
            exact ⟨by rw [beq_self_eq_true], (Kp.refl _ _).drewN q⟩
          have hC24 : ∀ w', Kp Noone w5 w' → Calls Try.prog 24 #[.pointer (some ⟨p, 0, none⟩)] w' fun e w'' => e = .returned (.bool dn1) ∧ Kp Noone w' w'' := fun w' k => by
            refine (down_dk c5 0 p _ w' (d5.keep k)).mono ?_
            rintro e w'' ⟨rfl, rfl⟩
            exact ⟨rfl, Kp.refl _ _⟩
          have hC23 : ∀ w', Kp Noone w5 w' → Calls Try.prog 23 #[.pointer (some ⟨p, 0, none⟩)] w' fun e w'' => e = .returned (.int .i64 st1) ∧ Kp Noone w' w'' := fun w' k => by
            refine (steps_dk c5 0 p _ w' (d5.keep k)).mono ?_
            rintro e w'' ⟨rfl, rfl⟩
            exact ⟨rfl, Kp.refl _ _⟩
          have hC17 : ∀ w', Kp Noone w5 w' → Calls Try.prog 17 #[.pointer (some ⟨p, 0, none⟩)] w' fun e w'' => e = .returned (.int .i64 (rm1 - sumL L1)) ∧ Kp Noone w' w'' := fun w' k => by
            rw [hsum]
            exact free_dk c5 0 p _ w' (d5.keep k)
          have hC30 : ∀ w', Kp Noone w5 w' → Calls Try.prog 30 #[.agg #[.slice ao1 L1.length cap1, .int .i64 rm1, .int .i64 st1, .int .i64 fu1, .bool dn1]] w' fun e w'' => e = .returned (.int .i64 (sumL L1)) ∧ Kp Noone w' w'' := fun w' k => safe_ref _ ao1 L1.length cap1 L1 rm1 st1 fu1 dn1 w' (hra5.keep k) hsm
          have hC18 : ∀ w', Kp Noone w5 w' → Calls Try.prog 18 #[.pointer (some ⟨p, 0, none⟩)] w' fun e w'' => ∃ io ic, e = .returned (.slice io L1.length ic) ∧ AS w'' io L1.length ic L1 ∧ Kp Noone w' w'' := fun w' k => by
            have him : imageF ⟨A1, rm1, st1, fu1, dn1⟩ = L1 := by unfold imageF namesF; exact HSA.out.image
            have h := image_dk c5 0 p _ w' (d5.keep k)
            rw [him] at h
            refine h.mono ?_
            rintro e w'' ⟨io, ic, rfl, hi, k2⟩
            exact ⟨io, ic, rfl, hi.as, k2⟩
          have hC19 : ∀ w' io ic, Kp Noone w5 w' → AS w' io L1.length ic L1 → Calls Try.prog 19 #[.slice io L1.length ic, .slice ao1 L1.length cap1] w' fun e w'' => e = .returned (.bool true) ∧ Kp Noone w' w'' := fun w' io ic k hi => refSame_any io L1.length ic ao1 L1.length cap1 L1 w' hi (hra5.keep k).as (by omega)
          have hcs : ∀ w', Kp Noone w5 w' → (w'.cell? ⟨pm, 0, none⟩ = some (.slice ao1 L1.length cap1) ∧ w'.cell? ⟨pm, 1, none⟩ = some (.int .i64 rm1) ∧ w'.cell? ⟨pm, 2, none⟩ = some (.int .i64 st1) ∧ w'.cell? ⟨pm, 3, none⟩ = some (.int .i64 fu1) ∧ w'.cell? ⟨pm, 4, none⟩ = some (.bool dn1)) := fun w' k => (cells_five (k.heap hbm5 id)).1
          have k0 : Kp Noone w5 w5.drew := (Kp.refl _ _).drew
          have HX5 := Lib.hid X5
          have HD5 := Lib.hid d5
          have HRA5 := Lib.hid hra5
          have HBM5 := Lib.hid hbm5
          clear x5 d5 own5 hto X5 hbm4 hra5 hbm5 hb5 hy5 hsum hfit hsm HX4 HD4 HRA4 HDA4 z0 z1 z2 z3 z4 z5 kW4
          generalize sumL L1 = sm1 at *
          go_upto_region 15 with fail
          go_region_held3 (fun w' => (w'.cell? ⟨pm, 0, none⟩ = some (.slice ao1 L1.length cap1) ∧ w'.cell? ⟨pm, 1, none⟩ = some (.int .i64 rm1) ∧ w'.cell? ⟨pm, 2, none⟩ = some (.int .i64 st1) ∧ w'.cell? ⟨pm, 3, none⟩ = some (.int .i64 fu1) ∧ w'.cell? ⟨pm, 4, none⟩ = some (.bool dn1)))
            (first | exact hcs _ k0 | exact hcs _ ka | exact hcs _ kb | exact hcs _ kc | exact hcs _ kd | exact hcs _ ke | exact hcs _ kf | exact hcs _ kg)
            (first
              | (go_at_call 16; refine (hC16 _ k0).mono ?_; rintro e wa ⟨rfl, ka1⟩; have ka : Kp Noone w5 wa := k0.trans ka1)
              | (go_at_call 24; refine (hC24 _ ka).mono ?_; rintro e wb ⟨rfl, kb1⟩; have kb : Kp Noone w5 wb := ka.trans kb1)
              | (go_at_call 23; refine (hC23 _ kb).mono ?_; rintro e wc ⟨rfl, kc1⟩; have kc : Kp Noone w5 wc := kb.trans kc1)
              | (go_at_call 17; refine (hC17 _ kc).mono ?_; rintro e wd ⟨rfl, kd1⟩; have kd : Kp Noone w5 wd := kc.trans kd1)
              | (go_at_call 30; refine (hC30 _ kd).mono ?_; rintro e we ⟨rfl, ke1⟩; have ke : Kp Noone w5 we := kd.trans ke1)
              | (go_at_call 18; refine (hC18 _ ke).mono ?_; rintro e wf ⟨io, ic, rfl, has, kf1⟩; have kf : Kp Noone w5 wf := ke.trans kf1)
              | (go_at_call 19; refine (hC19 _ _ _ kf has).mono ?_; rintro e wg ⟨rfl, kg1⟩; have kg : Kp Noone w5 wg := kf.trans kg1))
          have X6 := HX5.out.trans (Ext.quiet HX5.out.cols kg)
          have d6 := HD5.out.keep kg
          have HBM6 := Lib.hid (kg.heap HBM5.out id)
          have HRA6 := Lib.hid (HRA5.out.keep kg)
          have hLst := list_dk c5 0 p _ wg d6
          have hnm : listF ⟨A1, rm1, st1, fu1, dn1⟩ = if dn1 = true then [] else L1.map (·.1) := by
            unfold listF namesF
            rw [HSA.out.names]
          rw [hnm] at hLst
          clear hnm
          have R1 : ∀ w', Kp Noone wg w' → RunR W p pm n (.int .i64 ((i + 1 : Nat) : Int)) w' := fun w' k => RunR.mk ⟨i + 1, c5, ⟨A1, rm1, st1, fu1, dn1⟩, ⟨L1, rm1, st1, fu1, dn1⟩, ao1, cap1, by rfl, by omega, by omega, X6.trans (Ext.quiet X6.cols k), d6.keep k, k.heap HBM6.out id, hcm5, hpW, HRA6.out.keep k, ⟨HSA.out, rfl, rfl, rfl, rfl⟩, by show st1 ≤ _; omega⟩
          have HR1 := Lib.hid R1
          have hcg : Hid (∀ w', Kp Noone wg w' → (w'.cell? ⟨pm, 0, none⟩ = some (.slice ao1 L1.length cap1) ∧ w'.cell? ⟨pm, 1, none⟩ = some (.int .i64 rm1) ∧ w'.cell? ⟨pm, 2, none⟩ = some (.int .i64 st1) ∧ w'.cell? ⟨pm, 3, none⟩ = some (.int .i64 fu1) ∧ w'.cell? ⟨pm, 4, none⟩ = some (.bool dn1))) := Lib.hid (fun w' k => (cells_five (k.heap HBM6.out id)).1)
          clear R1 X6 d6 HX5 HD5 HRA5 HBM5 HSA hcs hC16 hC24 hC23 hC18 hC19 hC17 hC30 k0 ka1 ka kb1 kb kc1 kc kd1 kd ke1 ke kf1 kf has kg1 kg
          cases dn1 with
          | true =>
            rw [if_pos rfl] at hLst
            simp only [List.length_nil, List.map_nil] at hLst
            go_wp2_with fail
            refine hLst.mono ?_
            clear hLst
            rintro e w7 ⟨no, nc, rfl, hown, k7⟩
            obtain ⟨z0, z1, z2, z3, z4⟩ := hcg.out w7 k7
            go_wp2_with fail
            go_loopw [141] (fun v wr => v = .int .i64 0 ∧ Kp Noone w7 wr) (fun _ _ => 0)
            case atStart => exact ⟨rfl, Kp.refl _ _⟩
            case round =>
              obtain ⟨rfl, kq⟩ := hrel
              have R := Lib.hid (HR1.out wr (k7.trans kq))
              clear kq
              go_wp2_with fail
              go_roundw
              case rel => exact R.out
              case measure => simp [intOf]; omega
          | false =>
            rw [if_neg (by decide)] at hLst
            simp only [List.length_map, List.map_map] at hLst
            go_wp2_with fail
            refine hLst.mono ?_
            clear hLst
            rintro e w7 ⟨no, nc, rfl, hown, k7⟩
            obtain ⟨z0, z1, z2, z3, z4⟩ := hcg.out w7 k7
            have hl0 : ((L1.length : Int) != (L1.length : Int)) = false := by simp
            have HRA7 := Lib.hid ((HRA6.out.keep k7).as)
            have HOW := Lib.hid hown
            clear hown
            generalize hln : L1.length = ln at *
            have HLN := Lib.hid hln
            clear hln
            go_wp2_with fail
            clear hl0
            go_loopw [141] (fun v wr => ∃ j : Nat, v = .int .i64 (j : Int) ∧ j ≤ ln ∧ Kp Noone w7 wr) (fun v _ => ln - (intOf v).toNat)
            case atStart => exact ⟨0, by rfl, Nat.zero_le _, Kp.refl _ _⟩
            case round =>
              obtain ⟨j, rfl, hj, kq⟩ := hrel
              clear z0 z1 z2 z3 z4
              by_cases hlt2 : j < ln
              · obtain ⟨z0, z1, z2, z3, z4⟩ := hcg.out wr (k7.trans kq)
                obtain ⟨g, off2, rfl, -, -, hc1, -⟩ := (HOW.out.keep kq).at (k := j) (by rw [List.length_map, HLN.out]; exact hlt2)
                obtain ⟨b3, off3, -, -, -, rfl, -, hc2, -⟩ := (HRA7.out.keep kq).get j (by rw [HLN.out]; exact hlt2)
                simp only [List.getElem_map, Function.comp] at hc1
                have hjL : j < L1.length := by rw [HLN.out]; exact hlt2
                obtain ⟨nm, hnm⟩ : ∃ x, L1[j].1 = x := ⟨_, rfl⟩
                rw [hnm] at hc1 hc2
                clear hnm
                have hwj : IntKind.i64.wrap ((j : Int) + 1) = (j : Int) + 1 := IntWalk.i64_in _ (by omega)
                have HKQ := Lib.hid kq
                clear kq z1 z2 z3 z4
                go_wp2_with fail
                go_quiet (fail)
                go_wp2_with fail
                go_roundw
                case rel => exact ⟨j + 1, by rfl, by omega, HKQ.out.drewN _⟩
                case measure => simp [intOf]; omega
              · have R := Lib.hid (HR1.out wr (k7.trans kq))
                clear kq
                go_wp2_with fail
                go_roundw
                case rel => exact R.out
                case measure => simp [intOf]; omega
      · have hexit : (¬ i < n) ∨ (i < n ∧ ¬ i < 100) := by
          by_cases h : i < n
          · exact Or.inr ⟨h, fun c => hgo ⟨h, c⟩⟩
          · exact Or.inl h
        have HX := Lib.hid X
        clear hgo X d hbm hRA hsm hst hrel
        rcases hexit with h | ⟨h, h2⟩
        all_goals (
          go_wp2_with fail
          go_ret
          exact ⟨rfl, HKW.out _ _ HX.out⟩)
  · rw [if_neg her]
    have hne : ¬ (er : Int) = 0 := by omega
    have hnb : ((er : Int) == 0) = false := by simpa using her
    go_wp2_with fail
    go_ret
    exact ⟨rfl, HKW.out _ _ HX5.out⟩

end Go.Proofs.Ytmmdojnjognccaa
