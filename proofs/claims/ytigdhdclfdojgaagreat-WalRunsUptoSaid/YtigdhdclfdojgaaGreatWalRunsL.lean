/-
  WalRuns: the law.
-/
import Derived.Test.YtigdhdclfdojgaaGreatWalRunsCO
import Derived.Test.YtigdhdclfdojgaaGreatWalHeadSame
import Derived.Test.YtigdhdclfdojgaaGreatRefDiskC
namespace Go.Proofs.YtigdhdclfdojgaaGreat
open Go.RowKit

/-- Between two steps. -/
structure RunW (W : World) (p pm n : Nat) (vl v : Value) (wr : World) : Prop where
  ex : ∃ (i : Nat) (col : Nat → Nat) (s : DS) (m : RLog) (ao : Option Addr) (cap : Nat) (po : Option Addr) (pc : Nat), v = .int .i64 (i : Int) ∧ i ≤ n ∧ i ≤ 60 ∧ Ext W.heap.size (fun c => c ≠ 0) (fun _ => 0) W col wr ∧ Dk col 0 wr p s ∧
    wr.heap[pm]? = some (.cells (rlC ao cap po pc m) 37 (0, 0)) ∧ col pm = 0 ∧ W.heap.size ≤ pm ∧ RA (fun j => j ≠ pm ∧ col j = 0) wr ao m.d.L.length cap m.d.L ∧ RPs (fun j => j ≠ pm ∧ col j = 0) wr po m.ps.length pc m.ps ∧ Sim m.d s ∧ SmallD s ∧ s.steps ≤ 300 * i + 300 ∧
    (vl = .pointer none ∨ ∃ q l, vl = .pointer (some ⟨q, 0, none⟩) ∧ Lg 4 0 col wr p q s l ∧ SimW m s l ∧ RB i m)
/-- Before a log is opened again. -/
structure EndW (W : World) (p pm go i : Nat) (o : OpW) (vb vk : Value) (w : World) : Prop where
  ex : ∃ (col : Nat → Nat) (s : DS) (d : RD) (lim : Nat) (po : Option Addr) (pn pc : Nat) (sh : Bool) (ao : Option Addr) (cap : Nat), Ext W.heap.size (fun c => c ≠ 0) (fun _ => 0) W col w ∧ Dk col 0 w p s ∧
    w.heap[pm]? = some (.cells #[.slice ao d.L.length cap, .int .i64 d.room, .int .i64 d.steps, .int .i64 d.fuse, .bool d.down, .int .i64 (lim : Int), .slice po pn pc, .bool sh] 37 (0, 0)) ∧ col pm = 0 ∧ RA (fun j => j ≠ pm ∧ col j = 0) w ao d.L.length cap d.L ∧ Sim d s ∧ SmallD s ∧ s.steps ≤ 300 * i + 300 ∧
    w.heap[go]? = some (.cells #[.int .i64 o.k, vb, .int .i64 o.n, vk] 45 (0, 0)) ∧ col go = 0
theorem RA.past0 {P : Nat → Prop} {B : Nat} {col col' : Nat → Nat} {w w' : World} {ao : Option Addr} {n cap : Nat} {L : Img} (h : RA (fun j => P j ∧ col j = 0) w ao n cap L) (x : Ext B (SL 0 4) col w col' w') : RA (fun j => P j ∧ col' j = 0) w' ao n cap L :=
  ((h.mono (Q := fun j => (P j ∧ col j = 0) ∧ j < w.heap.size) (fun _j hj c => ⟨c, hj⟩)).kp x.kp (fun _j _ c => nsl c.1.2)).mono (fun j _ c => ⟨c.1.1, (x.old j c.2).trans c.1.2⟩)
theorem RPs.past0 {P : Nat → Prop} {B : Nat} {col col' : Nat → Nat} {w w' : World} {ao : Option Addr} {n cap : Nat} {ps : List PcS} (h : RPs (fun j => P j ∧ col j = 0) w ao n cap ps) (x : Ext B (SL 0 4) col w col' w') : RPs (fun j => P j ∧ col' j = 0) w' ao n cap ps :=
  ((h.mono (Q := fun j => (P j ∧ col j = 0) ∧ j < w.heap.size) (fun _j hj c => ⟨c, hj⟩)).kp x.kp (fun _j _ c => nsl c.1.2)).mono (fun j _ c => ⟨c.1.1, (x.old j c.2).trans c.1.2⟩)
/-- What the law's open leaves, as the next round takes it. -/
theorem RunW.opened {W w5 w6 wz : World} {p pm n i : Nat} {col5 col6 : Nat → Nat} {M : OpenD} {R : OpenR} {ao : Option Addr} {cap : Nat} {po : Option Addr} {pc : Nat} {vl : Value} (X : Ext W.heap.size (fun c => c ≠ 0) (fun _ => 0) W col5 w5) (x : Ext W.heap.size (SL 0 4) col5 w5 col6 w6) (d : Dk col6 0 w6 p R.1)
    (hra : RA (fun j => j ≠ pm ∧ col6 j = 0) w6 ao M.1.d.L.length cap M.1.d.L) (hps : RPs (fun j => j ≠ pm ∧ col6 j = 0) w6 po M.1.ps.length pc M.1.ps) (hl : (vl = .pointer none ∧ R.2.1 = none) ∨ ∃ q l recs, vl = .pointer (some ⟨q, 0, none⟩) ∧ R.2.1 = some (l, recs) ∧ Lg 4 0 col6 w6 p q R.1 l ∧ R.2.2 = 0)
    (k : Kp (fun j => j = pm) w6 wz) (hb : wz.heap[pm]? = some (.cells (rlC ao cap po pc M.1) 37 (0, 0))) (hc : col6 pm = 0) (hpm : W.heap.size ≤ pm) (hos : OpenSim M R) (hsm : SmallD R.1) (hst : R.1.steps ≤ 300 * i + 300) (hrb : M.2.2 = 0 → RB 0 M.1) (hi : i ≤ n) (hi6 : i ≤ 60) : RunW W p pm n vl (.int .i64 (i : Int)) wz := by
  refine ⟨⟨i, col6, R.1, M.1, ao, cap, po, pc, rfl, hi, hi6, (X.trans (x.mono (T := fun c => c ≠ 0) (fun c h => by unfold SL S3 at h; omega))).flip k (fun j c => by subst c; exact hpm), d.free k (fun j c => by subst c; exact hc), hb, hc, hpm, hra.kp k (fun j _ c e => c.1 e), hps.kp k (fun j _ c e => c.1 e), hos.d, hsm, hst, ?_⟩⟩
  rcases hl with ⟨h1, -⟩ | ⟨q, l, recs, h1, h2, h3, h4⟩
  · exact Or.inl h1
  · obtain ⟨-, h5, -⟩ := hos.ok l recs h2
    exact Or.inr ⟨q, l, h1, h3.free k (by omega) (fun j c => by subst c; exact hc), h5, (hrb (hos.e.trans h4)).mono (by omega)⟩
attribute [local irreducible] putD doE mountR mountF imageF fuseF crashF putL9 openR openF callR callF

set_option maxHeartbeats 8000000 in
set_option maxRecDepth 100000 in
theorem walRuns_walk (room : Int) (fo : Option Addr) (na ca : Nat) (As : Img) (limit : Int) (so : Option Addr) (n cap : Nat) (ps : List OpW) (W : World) (ha : AS W fo na ca As) (hs : OpWS W so n cap ps 1048576) (hna : na ≤ 1048576)
    (hB : ∀ x ∈ As, x.1.size ≤ maxLen ∧ x.2.data.length ≤ 1048576) :
    Calls Tryz.prog 3 #[.int .i64 room, .slice fo na ca, .int .i64 limit, .slice so n cap] W fun e w' => e = .returned (.bool true) ∧ Kp Noone W w' := by
  obtain ⟨i0, hi, hz0, hz1, hz2⟩ := info_parts info_intD
  have hla := ha.len
  have hsl := hs.len
  have hD1 : ∀ x ∈ As, x.2.data.length ≤ 140737488355328 := fun x hx => by have := (hB x hx).2; omega
  have hD2 : ∀ x ∈ As, x.2.data.length ≤ 281474976710656 := fun x hx => by have := (hB x hx).2; omega
  have hD3 : ∀ x ∈ As, x.2.data.length ≤ 4194304 := fun x hx => by have := (hB x hx).2; omega
  have hNm : ∀ x ∈ As, x.1.size ≤ 9223372036854775807 := fun x hx => by have h := (hB x hx).1; unfold maxLen at h; omega
  have hmu := mount_up room As hD3
  have HA := Lib.hid ha
  have HS := Lib.hid hs
  have HD1 := Lib.hid hD1
  have HD2 := Lib.hid hD2
  have HNM := Lib.hid hNm
  have HMU := Lib.hid hmu
  clear ha hs hD1 hD2 hD3 hNm hB hmu
  have HKW : Hid (∀ (w : World) (col : Nat → Nat), Ext W.heap.size (fun c => c ≠ 0) (fun _ => 0) W col w → Kp Noone W w) := Lib.hid (fun w col X => X.kp.mono (fun j hj c => absurd rfl c))
  go_enter Tryz.func3, Tryz.ntmps3
  go_wp2_with fail
  refine (head9_any _).mono ?_
  rintro e w1 ⟨rfl, k1⟩
  go_wp2_with fail
  refine (mountR_any (fun _ => True) room fo na ca As w1 ((HA.out.keep k1).ra (fun _ _ => trivial)) (fun _ _ => trivial) (by omega) HD1.out HNM.out).mono ?_
  obtain ⟨hms, hsim⟩ := mount_sim room As
  generalize mountR room As = R at *
  obtain ⟨⟨L, rm, st, fu, dn⟩, er⟩ := R
  simp only [] at hms
  rintro e w2 hmt
  obtain ⟨ao2, cap2, rfl, hra2, k2⟩ := hmt.ex
  unfold rdV rdC
  simp only [] at hra2
  have hra2b := hra2.mono (Q := fun j => j < w2.heap.size) (fun j hj _ => hj)
  have k3 : Kp Noone w2 (w2.alloc (.cells #[.slice ao2 L.length cap2, .int .i64 rm, .int .i64 st, .int .i64 fu, .bool dn] 26)) := (Kp.refl _ _).alloc _
  have hb3 := heap_alloc_new w2 (.cells #[.slice ao2 L.length cap2, .int .i64 rm, .int .i64 st, .int .i64 fu, .bool dn] 26)
  have HRA := Lib.hid (hra2b.keep k3)
  have HK3 := Lib.hid ((k1.trans k2).trans k3)
  have hpm : W.heap.size ≤ w2.heap.size := by have := k1.size; have := k2.size; omega
  clear hmt hra2 hra2b
  go_upto_region 4 with fail
  generalize w2.alloc (.cells #[.slice ao2 L.length cap2, .int .i64 rm, .int .i64 st, .int .i64 fu, .bool dn] 26) = w3 at *
  generalize w2.heap.size = px at *
  have hpm3 := (Array.getElem?_eq_some_iff.1 hb3).1
  go_wp2_with fail
  refine (copyR_any (fun _ => True) fo na ca As w3 ((HA.out.keep HK3.out).ra (fun _ _ => trivial)) (fun _ _ => trivial) (by omega) HD2.out).mono ?_
  rintro e w4 ⟨ao4, cap4, rfl, hra4, k4⟩
  rw [hla] at hra4
  have hb4 := k4.heap hb3 id
  have HRA4 := Lib.hid (HRA.out.keep k4)
  have HK4 := Lib.hid (HK3.out.trans k4)
  have hpm4 := (Array.getElem?_eq_some_iff.1 hb4).1
  have hmd := mount_dk W.heap.size (fun _ => 0) 0 room ao4 na cap4 As w4 (Cols.zero _ _) HK4.out.size hra4.as (fun j _ c => by unfold S3 at c; omega) (by omega) HD1.out HNM.out
  have hst0 := mountF_steps0 room As
  generalize mountF room As = F at hmd hms hsim hst0 HMU
  obtain ⟨s0, er0⟩ := F
  simp only [] at hms hsim hst0 HMU
  subst hms
  clear k1 k2 k3 k4 hb3 hra4
  go_wp2_with fail
  refine hmd.mono ?_
  clear hmd
  rintro e w5 hmt
  obtain ⟨p, c5, rfl, x5, d5⟩ := hmt.ex
  simp only [] at d5
  have hb5 := x5.kp.heap hb4 (by unfold S3; omega)
  have X5 := (Ext.quiet (S := fun c => c ≠ 0) (Cols.zero W.heap.size W) HK4.out).trans (x5.mono (T := fun c => c ≠ 0) (fun c h => by unfold S3 at h; omega))
  have HRA5 : Hid (RA (fun j => True ∧ c5 j = 0) w5 ao2 L.length cap2 L) := Lib.hid ((HRA4.out.kp x5.kp (fun j _ _ c => by unfold S3 at c; omega)).mono (fun j hj c => ⟨trivial, x5.old j (by omega)⟩))
  have HX5 := Lib.hid X5
  have HSIM := Lib.hid hsim
  have HD5 := Lib.hid d5
  clear x5 X5 hsim d5 hmt hb4 HRA HRA4
  by_cases her : er = 0
  case neg =>
    rw [if_neg her]
    have hne : ¬ (er : Int) = 0 := by omega
    have hnb : ((er : Int) == 0) = false := by simpa using her
    go_wp2_with fail
    go_ret
    exact ⟨rfl, HKW.out _ _ HX5.out⟩
  subst her
  rw [if_pos rfl]
  have hok := HD5.out rfl
  obtain ⟨-, hsm⟩ := HMU.out rfl
  have hop := lawOpen_any (fun _ => True) W.heap.size c5 ao2 cap2 ⟨L, rm, st, fu, dn⟩ s0 p limit w5 HRA5.out (fun _ _ => trivial) hok HX5.out.cols HX5.out.size HSIM.out hsm (by omega)
  have hke := open_kept HSIM.out hok.2 hsm (by omega) limit
  generalize openR ⟨L, rm, st, fu, dn⟩ limit = M at *
  generalize openF s0 limit = R at *
  have HKE := Lib.hid hke
  have HST0 := Lib.hid hst0
  obtain ⟨⟨y0, y1, y2, y3, y4⟩, -⟩ := cells_five hb5
  unfold rdV rdC at hop
  simp only [] at hop
  clear hok hsm hke hst0 HD5 HMU HSIM HRA5
  go_wp2_with fail
  refine hop.mono ?_
  clear hop
  rintro e w6 hto
  obtain ⟨c6, ao6, cap6, po6, pc6, vl, rfl, x6, d6, hra6, hps6, hcase⟩ := hto.ex
  have hcm : c6 w6.heap.size = 0 := cols_new x6.cols (Nat.le_refl _)
  have hy := heap_alloc_new w6 (.cells #[.slice none 0 0, .int .i64 0, .int .i64 0, .int .i64 0, .bool false, .int .i64 0, .slice none 0 0, .bool false] 37)
  have kN : Kp Noone w6 (w6.alloc (.cells #[.slice none 0 0, .int .i64 0, .int .i64 0, .int .i64 0, .bool false, .int .i64 0, .slice none 0 0, .bool false] 37)) := (Kp.refl _ _).alloc _
  have hb7 := putL9_heap ao6 cap6 po6 pc6 M.1 hy
  have k7 := Kp.trans (Kp.none (S := fun j => j = w6.heap.size) kN) (putL9_kp (w6.alloc (.cells #[.slice none 0 0, .int .i64 0, .int .i64 0, .int .i64 0, .bool false, .int .i64 0, .slice none 0 0, .bool false] 37)) w6.heap.size ao6 cap6 po6 pc6 M.1)
  have R0 : Hid (RunW W p w6.heap.size n vl (.int .i64 ((0 : Nat) : Int)) (putL9 (w6.alloc (.cells #[.slice none 0 0, .int .i64 0, .int .i64 0, .int .i64 0, .bool false, .int .i64 0, .slice none 0 0, .bool false] 37)) w6.heap.size ao6 cap6 po6 pc6 M.1)) := Lib.hid (RunW.opened HX5.out x6 d6 (hra6.mono (fun j hj c => ⟨by omega, c.2⟩)) (hps6.mono (fun j hj c => ⟨by omega, c.2⟩)) hcase k7 hb7 hcm (by have := HX5.out.size; have := x6.size; omega) HKE.out.1 HKE.out.2.1 (by have := HKE.out.2.2.1; have := HST0.out; omega) HKE.out.2.2.2 (Nat.zero_le _) (Nat.zero_le _))
  clear hto x6 d6 hra6 hps6 hcase hcm kN hb7 k7 y0 y1 y2 y3 y4 hb5 HKE HST0 HX5 hpm hpm3 hpm4
  go_upto_region 10 with (refine wpList_store_rlog rfl (.tmp 14) (.tmp 51) rfl w6.heap.size ao6 cap6 po6 pc6 M.1 (by rfl) (by rfl) hy ?_)
  clear hy
  generalize putL9 (w6.alloc (.cells #[.slice none 0 0, .int .i64 0, .int .i64 0, .int .i64 0, .bool false, .int .i64 0, .slice none 0 0, .bool false] 37)) w6.heap.size ao6 cap6 po6 pc6 M.1 = w7 at *
  generalize w6.heap.size = pm at *
  go_wp2_with fail
  go_loopw [13, 15, 16] (fun vl vo v wr => vo = .bool true ∧ RunW W p pm n vl v wr) (fun _ _ v _ => n - (intOf v).toNat)
  case atStart => exact ⟨rfl, R0.out⟩
  case round =>
    clear R0
    obtain ⟨rfl, hrw⟩ := hrel
    obtain ⟨i, col, s, m, ao, cp, po, pc, rfl, hin, hi60, X, d, hbm, hcm, hpW, hRA, hPS, hsm, hsd, hst, hlog⟩ := hrw.ex
    clear hrw
    obtain ⟨⟨L0, rm0, st0, fu0, dn0⟩, lim0, ps0, sh0⟩ := m
    unfold rlC at hbm
    simp only [] at hbm hRA hPS hsm
    have h64 : L0.length ≤ 64 := by have h := hsm.a.len; have h2 := d.2.len; simp only [] at h; omega
    have him : imageF s = L0 := by unfold imageF namesF; exact hsm.a.image
    have hIm := Lib.hid (fun (W' : World) (k : Kp Noone wr W') => image_dk col 0 p s W' (d.keep k))
    rw [him] at hIm
    have hSm : Hid (∀ w' io ic, Kp Noone wr w' → AS w' io L0.length ic L0 → Calls Tryz.prog 9 #[.slice io L0.length ic, .slice ao L0.length cp] w' fun e w'' => e = .returned (.bool true) ∧ Kp Noone w' w'') := Lib.hid (fun w' io ic k hi => refSame_any io L0.length ic ao L0.length cp L0 w' hi (hRA.keep k).as (by omega))
    have HCE : Hid (∀ w', Kp Noone wr w' → w'.cell? ⟨pm, 0, none⟩ = some (.slice ao L0.length cp)) := Lib.hid (fun w' k => (cells_8 (k.heap hbm id)).1.1)
    by_cases hgo : i < n ∧ i < 60
    case neg =>
      have hexit : (¬ i < n) ∨ (i < n ∧ ¬ i < 60) := by
        by_cases h : i < n
        · exact Or.inr ⟨h, fun c => hgo ⟨h, c⟩⟩
        · exact Or.inl h
      have HX := Lib.hid X
      clear hgo X d hRA hPS hsm hsd hst him hlog
      rcases hexit with h | ⟨h, h2⟩
      all_goals (
        go_upto_region 29 with fail
        have k0 : Kp Noone wr wr.drew := (Kp.refl _ _).drew
        go_region_held3 (fun w' => w'.cell? ⟨pm, 0, none⟩ = some (.slice ao L0.length cp))
          (first | with_reducible exact HCE.out _ k0)
          (first
            | (go_at_call 10; refine (hIm.out _ k0).mono ?_; rintro e wq ⟨io, ic, rfl, has, ka1⟩; have k0 := k0.trans ka1)
            | (go_at_call 9; refine (hSm.out _ _ _ k0 has.as).mono ?_; rintro e wb ⟨rfl, kb1⟩; have k0 := k0.trans kb1))
        have HK := Lib.hid ((HKW.out _ _ HX.out).trans k0)
        clear k0 hIm hSm ka1 kb1 has
        go_wp2_with fail
        go_ret
        exact ⟨rfl, HK.out⟩)
    obtain ⟨hlt, h60⟩ := hgo
    have k0 : Kp Noone wr wr.drew := (Kp.refl _ _).drew
    have HX0 := Lib.hid X
    have HD0 := Lib.hid d
    have HRA0 := Lib.hid hRA
    have HPS0 := Lib.hid hPS
    have HSM := Lib.hid (And.intro hsm (And.intro hsd hst))
    have HLOG := Lib.hid hlog
    clear X d hRA hPS hsm hsd hst hlog him
    go_upto_region 13 with fail
    go_region_held3 (fun w' => w'.cell? ⟨pm, 0, none⟩ = some (.slice ao L0.length cp))
      (first | with_reducible exact HCE.out _ k0)
      (first
        | (go_at_call 10; refine (hIm.out _ k0).mono ?_; rintro e wq ⟨io, ic, rfl, has, ka1⟩; have k0 := k0.trans ka1)
        | (go_at_call 9; refine (hSm.out _ _ _ k0 has.as).mono ?_; rintro e wb ⟨rfl, kb1⟩; have k0 := k0.trans kb1))
    have kz : Kp Noone wr wb := k0
    clear k0 ka1 kb1 has
    have kr := (HKW.out _ _ HX0.out).trans kz
    obtain ⟨hop, b, off, bo, bm, bc, ko, km, kc, rfl, hbl, e0, e1, e2, e3, hbs, his⟩ := HS.out.get i (by omega)
    have hwi : IntKind.i64.wrap ((i : Int) + 1) = (i : Int) + 1 := IntWalk.i64_in _ (by omega)
    generalize ps[i] = o at *
    have e0 := kr.cell e0 id
    have e1 := kr.cell e1 id
    have e2 := kr.cell e2 id
    have e3 := kr.cell e3 id
    have hkA : Kp Noone wb (wb.alloc (.cells #[.int .i64 o.k, .slice bo bm bc, .int .i64 o.n, .slice ko km kc] 45)) := (Kp.refl _ _).alloc _
    have hoA := heap_alloc_new wb (.cells #[.int .i64 o.k, .slice bo bm bc, .int .i64 o.n, .slice ko km kc] 45)
    have kzA := kz.trans hkA
    have hbmA := kzA.heap hbm id
    have HX := Lib.hid (HX0.out.trans (Ext.quiet HX0.out.cols kzA))
    have HD := Lib.hid (HD0.out.keep kzA)
    have HRA := Lib.hid (HRA0.out.keep kzA)
    have HPS := Lib.hid (HPS0.out.keep kzA)
    have HBS := Lib.hid (hbs.keep (kr.trans hkA))
    have HIW := Lib.hid his
    have HIS := Lib.hid (his.keep (kr.trans hkA))
    have HOP := Lib.hid hop
    have hbl' := HBS.out.len
    have hkl' := HIS.out.len
    have hb1m := hop.b
    have hk1m := hop.keep
    have hpmz : pm < wb.heap.size := (Array.getElem?_eq_some_iff.1 (kz.heap hbm id)).1
    have hcg : col wb.heap.size = 0 := cols_new (HX0.out.cols.keep kz.size) (Nat.le_refl _)
    have HLG : Hid (u13 = .pointer none ∨ ∃ q l, u13 = .pointer (some ⟨q, 0, none⟩) ∧ Lg 4 0 col (wb.alloc (.cells #[.int .i64 o.k, .slice bo bm bc, .int .i64 o.n, .slice ko km kc] 45)) p q s l ∧ SimW ⟨⟨L0, rm0, st0, fu0, dn0⟩, lim0, ps0, sh0⟩ s l ∧ RB i ⟨⟨L0, rm0, st0, fu0, dn0⟩, lim0, ps0, sh0⟩) := Lib.hid (by
      rcases HLOG.out with h | ⟨q, l, h1, h2, h3, h4⟩
      · exact Or.inl h
      · exact Or.inr ⟨q, l, h1, h2.keep kzA, h3, h4⟩)
    clear hIm hSm HX0 HD0 HRA0 HPS0 HLOG kz kr hbs his hop hbm hbl kzA
    go_upto_region 16 with fail
    clear e0 e1 e2 e3 hkA
    generalize wb.alloc (.cells #[.int .i64 o.k, .slice bo bm bc, .int .i64 o.n, .slice ko km kc] 45) = wa at *
    generalize wb.heap.size = go at *
    obtain ⟨z0, z1, z2, z3⟩ := cells_4 hoA
    obtain ⟨⟨y0, y1, y2, y3⟩, ⟨y4, y5, y6, y7⟩, -⟩ := cells_8 hbmA
    have hgw : go < wa.heap.size := (Array.getElem?_eq_some_iff.1 hoA).1
    rcases (show o.k = 3 ∨ o.k = 4 ∨ o.k = 5 ∨ (o.k ≠ 3 ∧ o.k ≠ 4 ∧ o.k ≠ 5) by omega) with cK | cK | cK | ⟨c3, c4, c5⟩
    case inl =>
      rw [cK] at z0
      obtain ⟨hsm, hsd, hst⟩ := HSM.out
      have hfz := fuse_dk W.heap.size col 0 p s o.n wa HD.out HX.out.cols HOP.out.n.2
      have hst1 : (fuseF s o.n).steps = s.steps := by unfold fuseF; rfl
      have hsd1 : SmallD (fuseF s o.n) := hsd.fuse o.n
      have hss := sim_fuse hsm HD.out.2 o.n
      have hdo := fun P' w hr hp => do_step P' ao cp ⟨L0, rm0, st0, fu0, dn0⟩ s (oFuse o.n) none 0 0 none 0 0 w hr hp hsm HD.out.2 (op_fuse HOP.out.n) (BS.nil _ _) (IS.nil _) (by omega)
      generalize fuseF s o.n = s1 at *
      generalize doE ⟨L0, rm0, st0, fu0, dn0⟩ (oFuse o.n) = R at *
      obtain ⟨⟨L1, rm1, st1, fu1, dn1⟩, f1⟩ := R
      unfold rdV rdC at hdo
      simp only [] at hdo hss
      go_wp2_with fail
      refine hfz.mono ?_
      clear hfz
      rintro e w6 ⟨rfl, c6, x6, d6⟩
      have hpmw : pm < wa.heap.size := (Array.getElem?_eq_some_iff.1 hbmA).1
      have hbm6 := x6.kp.heap hbmA (by rw [hcm]; unfold S3; omega)
      have hcm6 : c6 pm = 0 := (x6.old pm hpmw).trans hcm
      have ho6 := x6.kp.heap hoA (by rw [hcg]; unfold S3; omega)
      have x6' := x6.mono (T := SL 0 4) (fun c h => Or.inl h)
      have HX6 := Lib.hid (HX.out.trans (x6.mono (T := fun c => c ≠ 0) (fun c h => by unfold S3 at h; omega)))
      have HD6 := Lib.hid d6
      have HRA6 := Lib.hid (HRA.out.past0 x6')
      have HPS6 := Lib.hid (HPS.out.past0 x6')
      have HLG6 : Hid (u13 = .pointer none ∨ ∃ q l, u13 = .pointer (some ⟨q, 0, none⟩) ∧ Lg 4 0 c6 w6 p q s1 l ∧ SimW ⟨⟨L1, rm1, st1, fu1, dn1⟩, lim0, ps0, sh0⟩ s1 l ∧ RB (i + 1) ⟨⟨L1, rm1, st1, fu1, dn1⟩, lim0, ps0, sh0⟩) := Lib.hid (by
        rcases HLG.out with h | ⟨q, l, h1, h2, h3, h4⟩
        · exact Or.inl h
        · exact Or.inr ⟨q, l, h1, (h2.disk (by omega) x6 d6).2, ⟨hss, h3.lim, h3.ps, h3.shut, h3.last⟩, (RB.same (m' := ⟨⟨L1, rm1, st1, fu1, dn1⟩, lim0, ps0, sh0⟩) h4 rfl rfl).mono (by omega)⟩)
      have hpm6 : pm < w6.heap.size := (Array.getElem?_eq_some_iff.1 hbm6).1
      have hdo := hdo (fun j => j ≠ pm ∧ c6 j = 0) w6 HRA6.out (fun j hj => ⟨by omega, cols_new HX6.out.cols hj⟩)
      clear z0 z1 z2 z3 y0 y1 y2 y3 y4 y5 y6 y7 x6 x6' d6 hoA hbmA
      obtain ⟨z0, z1, z2, z3⟩ := cells_4 ho6
      obtain ⟨⟨y0, y1, y2, y3⟩, ⟨y4, y5, y6, y7⟩, -⟩ := cells_8 hbm6
      go_wp2_with fail
      refine hdo.mono ?_
      clear hdo
      rintro e w7 ⟨ao1, cp1, xo, xn, xc, rfl, hra7, k7⟩
      have hbm7 := k7.heap hbm6 id
      have p8 := putD_kp w7 pm ao1 cp1 ⟨L1, rm1, st1, fu1, dn1⟩
      have hbm8 := putD_heap8 ao1 cp1 ⟨L1, rm1, st1, fu1, dn1⟩ hbm7
      have R : Hid (RunW W p pm n u13 (.int .i64 ((i + 1 : Nat) : Int)) (putD w7 pm ao1 cp1 ⟨L1, rm1, st1, fu1, dn1⟩)) := Lib.hid ⟨⟨i + 1, c6, s1, ⟨⟨L1, rm1, st1, fu1, dn1⟩, lim0, ps0, sh0⟩, ao1, cp1, po, pc, rfl, by omega, by omega, (HX6.out.trans (Ext.quiet HX6.out.cols k7)).flip p8 (fun j c => by subst c; exact hpW), (HD6.out.keep k7).free p8 (fun j c => by subst c; exact hcm6), hbm8, hcm6, hpW, hra7.kp p8 (fun j _ c e => c.1 e), (HPS6.out.keep k7).kp p8 (fun j _ c e => c.1 e), hss, hsd1, by omega, by
        rcases HLG6.out with h | ⟨q, l, h1, h2, h3, h4⟩
        · exact Or.inl h
        · exact Or.inr ⟨q, l, h1, (h2.keep k7).free p8 (by omega) (fun j c => by subst c; exact hcm6), h3, h4⟩⟩⟩
      clear z0 z1 z2 z3 y0 y1 y2 y3 y4 y5 y6 y7 hra7 p8 hbm8 HX6 HD6 HRA6 HPS6 HLG6 k7 hbm6 ho6
      go_wp2_with (refine wpList_store_disk8 rfl (.tmp 96) (.tmp 93) rfl pm ao1 cp1 ⟨L1, rm1, st1, fu1, dn1⟩ (by rfl) (by rfl) hbm7 ?_)
      go_roundw
      case rel => exact ⟨rfl, R.out⟩
      case measure => simp [intOf]; omega
    case' inr.inl =>
      rw [cK] at z0
      obtain ⟨hsm, hsd, hst⟩ := HSM.out
      have hkb : o.keep.length = km := hkl'
      have kB : Kp Noone wa (wa.alloc (.cells #[] 3)) := (Kp.refl _ _).alloc _
      have hown : Own (fun j => j = wa.heap.size) (wa.alloc (.cells #[] 3)) 3 1 (some ⟨wa.heap.size, 0, none⟩) 0 0 [] := Own.fresh rfl (heap_alloc_new wa (.cells #[] 3)) rfl (by simp [maxLen])
      have hrow := (HIS.out.keep kB).row
      have hln : (o.keep.map (Value.int .i64)).length = km * 1 := by rw [List.length_map, hkb, Nat.mul_one]
      have hsB : wa.heap.size < (wa.alloc (.cells #[] 3)).heap.size := (Array.getElem?_eq_some_iff.1 (heap_alloc_new wa (.cells #[] 3))).1
      have zB := cells_4 (kB.heap hoA id)
      obtain ⟨zb0, zb1, zb2, zb3⟩ := zB
      go_wp2_with (at_builtin; refine wpList_append_gen _ rfl (.tmp 104) (.tmp 106) 43 rfl 3 i0 (.int .i64 0) 1 8 Tryz.underlying43 hi hz0 hz1 hz2 rfl (some ⟨wa.heap.size, 0, none⟩) 0 0 rfl ko km kc rfl _ [] hown (o.keep.map (Value.int .i64)) hln hrow (ints_one _) (by omega) (by unfold maxLen; omega) ?_)
      intro fo6 fc6 w6 ho k6
      have ho2 := Own.mono ho (G := fun j => wa.heap.size ≤ j) (fun j _ c => by rcases c with c | c; exact Nat.le_of_eq c.symm; omega)
      have k66 : Kp Noone wa w6 := kB.fin k6 (fun j c => Or.inr (Nat.le_of_eq c.symm))
      have HX6 := Lib.hid (HX.out.trans (Ext.quiet HX.out.cols k66))
      have hIS := ho2.is
      have hko : o.keep ≠ [] → ∀ a, fo6 = some a → col a.block = 0 := fun hx a ha => by
        rcases ho2 with ⟨-, h2, -, h4⟩
        rcases h4 with h4 | ⟨g, off, cur, h0, hg, -⟩
        · exfalso; apply hx; exact List.eq_nil_of_length_eq_zero (by omega)
        · rw [ha] at h0; cases h0; exact cols_new HX.out.cols hg
      have hcr := crash_dk W.heap.size col 0 p s fo6 _ fc6 o.keep w6 (HD.out.keep k66) HX6.out.cols HX6.out.size hIS hko
      have hst1 := crashF_steps s o.keep
      have hsd1 := hsd.crash o.keep
      have hss := sim_crashE hsm HD.out.2 o.keep
      have hdo := fun P' w hr hp hk => do_step P' ao cp ⟨L0, rm0, st0, fu0, dn0⟩ s (oCrash o.keep) none 0 0 ko km kc w hr hp hsm HD.out.2 (op_crash hk1m) (BS.nil _ _) hk (by omega)
      generalize crashF s o.keep = s1 at *
      generalize doE ⟨L0, rm0, st0, fu0, dn0⟩ (oCrash o.keep) = R at *
      obtain ⟨⟨L1, rm1, st1, fu1, dn1⟩, f1⟩ := R
      unfold rdV rdC at hdo
      simp only [] at hdo hss
      have hbm6 := k66.heap hbmA id
      have ho46 := k66.heap hoA id
      have HRA6 := Lib.hid (HRA.out.keep k66)
      clear ho ho2 hIS hko k66 k6 kB hown hrow hln hsB zb0 zb1 zb2 zb3 z0 z1 z2 z3 y0 y1 y2 y3 y4 y5 y6 y7 hoA hbmA
      go_wp2_with fail
      refine hcr.mono ?_
      clear hcr
      rintro e w7 ⟨rfl, c7, x7, d7⟩
      have hpmw : pm < w6.heap.size := (Array.getElem?_eq_some_iff.1 hbm6).1
      have hgow : go < w6.heap.size := (Array.getElem?_eq_some_iff.1 ho46).1
      have hbm7 := x7.kp.heap hbm6 (by rw [hcm]; unfold S3; omega)
      have hcm7 : c7 pm = 0 := (x7.old pm hpmw).trans hcm
      have hcg7 : c7 go = 0 := (x7.old go hgow).trans hcg
      have ho47 := x7.kp.heap ho46 (by rw [hcg]; unfold S3; omega)
      have x7' := x7.mono (T := SL 0 4) (fun c h => Or.inl h)
      have HX7 := Lib.hid (HX6.out.trans (x7.mono (T := fun c => c ≠ 0) (fun c h => by unfold S3 at h; omega)))
      have HD7 := Lib.hid d7
      have HRA7 := Lib.hid (HRA6.out.past0 x7')
      have hpm7 : pm < w7.heap.size := (Array.getElem?_eq_some_iff.1 hbm7).1
      have hdo := hdo (fun j => j ≠ pm ∧ c7 j = 0) w7 HRA7.out (fun j hj => ⟨by omega, cols_new HX7.out.cols hj⟩) (HIW.out.keep (HKW.out _ _ HX7.out))
      clear x7 x7' d7 hbm6 ho46 HX6 HRA6
      obtain ⟨z0, z1, z2, z3⟩ := cells_4 ho47
      obtain ⟨⟨y0, y1, y2, y3⟩, ⟨y4, y5, y6, y7⟩, -⟩ := cells_8 hbm7
      go_wp2_with fail
      refine hdo.mono ?_
      clear hdo
      rintro e w8 ⟨ao1, cp1, xo, xn, xc, rfl, hra8, k8⟩
      have hbm8 := k8.heap hbm7 id
      have p9 := putD_kp w8 pm ao1 cp1 ⟨L1, rm1, st1, fu1, dn1⟩
      have hbm9 := putD_heap8 ao1 cp1 ⟨L1, rm1, st1, fu1, dn1⟩ hbm8
      have X8 := HX7.out.trans (Ext.quiet HX7.out.cols k8)
      have hgp : go ≠ pm := by omega
      have HE : Hid (EndW W p pm go i o (.slice bo bm bc) (.slice ko km kc) (putD w8 pm ao1 cp1 ⟨L1, rm1, st1, fu1, dn1⟩)) := Lib.hid ⟨⟨c7, s1, ⟨L1, rm1, st1, fu1, dn1⟩, lim0, po, ps0.length, pc, sh0, ao1, cp1, X8.flip p9 (fun j c => by subst c; exact hpW), (HD7.out.keep k8).free p9 (fun j c => by subst c; exact hcm7), hbm9, hcm7, hra8.kp p9 (fun j _ c e => c.1 e), hss, hsd1, by omega, p9.heap (k8.heap ho47 id) (fun e => hgp e), hcg7⟩⟩
      clear z0 z1 z2 z3 y0 y1 y2 y3 y4 y5 y6 y7 hra8 p9 hbm9 X8 HX7 HD7 HRA7 k8 hbm7 ho47
      go_upto_region 25 with (refine wpList_store_disk8 rfl (.tmp 119) (.tmp 116) rfl pm ao1 cp1 ⟨L1, rm1, st1, fu1, dn1⟩ (by rfl) (by rfl) hbm8 ?_)
      clear hbm8
      generalize putD w8 pm ao1 cp1 ⟨L1, rm1, st1, fu1, dn1⟩ = wz9 at *
    case' inr.inr.inl =>
      rw [cK] at z0
      obtain ⟨hsm, hsd, hst⟩ := HSM.out
      have HE : Hid (EndW W p pm go i o (.slice bo bm bc) (.slice ko km kc) wa) := Lib.hid ⟨⟨col, s, ⟨L0, rm0, st0, fu0, dn0⟩, lim0, po, ps0.length, pc, sh0, ao, cp, HX.out, HD.out, hbmA, hcm, HRA.out, hsm, hsd, by omega, hoA, hcg⟩⟩
      clear hbmA y0 y1 y2 y3 y4 y5 y6 y7
      go_upto_region 25 with fail
      clear z0 z1 z2 z3 hoA
      obtain ⟨wz9, hwz9⟩ : ∃ x, x = wa := ⟨_, rfl⟩
      subst hwz9
    case inr.inr.inr =>
      have e3 : (o.k == 3) = false := by simpa using c3
      have e4 : (o.k == 4) = false := by simpa using c4
      have e5 : (o.k == 5) = false := by simpa using c5
      obtain ⟨hsm, hsd, hst⟩ := HSM.out
      rcases HLG.out with rfl | ⟨q, l, rfl, hlg, hsw, hrb⟩
      · have R : Hid (RunW W p pm n (.pointer none) (.int .i64 ((i + 1 : Nat) : Int)) wa) := Lib.hid ⟨⟨i + 1, col, s, ⟨⟨L0, rm0, st0, fu0, dn0⟩, lim0, ps0, sh0⟩, ao, cp, po, pc, rfl, by omega, by omega, HX.out, HD.out, hbmA, hcm, hpW, HRA.out, HPS.out, hsm, hsd, by omega, Or.inl rfl⟩⟩
        clear c3 c4 c5 hbmA y0 y1 y2 y3 y4 y5 y6 y7 hsm hsd hst HLG
        go_wp2_with fail
        go_roundw
        case rel => exact ⟨rfl, R.out⟩
        case measure => simp [intOf]; omega
      · have hcl := lawCall_any (fun j => j ≠ pm) W.heap.size i col ao cp po pc ⟨⟨L0, rm0, st0, fu0, dn0⟩, lim0, ps0, sh0⟩ s l p q o bo bm bc ko km kc wa HRA.out HPS.out (fun j hj => by have := (Array.getElem?_eq_some_iff.1 hbmA).1; omega) hlg HX.out.cols HX.out.size hsw hrb (by omega) HBS.out (by omega) HOP.out.n (by omega)
        have hke := call_kept o hsw hrb (by omega) HD.out.2 hsd (by omega)
        generalize callR ⟨⟨L0, rm0, st0, fu0, dn0⟩, lim0, ps0, sh0⟩ o = M at *
        generalize callF s l o = F at *
        obtain ⟨s1, l1⟩ := F
        simp only [] at hke
        have HKE := Lib.hid hke
        clear hke hlg hsw hrb c3 c4 c5 HLG hsm hsd hst
        go_wp2_with fail
        refine hcl.mono ?_
        clear hcl
        rintro e w6 hto
        obtain ⟨c6, ao6, cap6, po6, pc6, rfl, x6, hl6, hra6, hps6⟩ := hto.ex
        simp only [] at hl6
        have hpmw : pm < wa.heap.size := (Array.getElem?_eq_some_iff.1 hbmA).1
        have hbm6 := x6.kp.heap hbmA (nsl hcm)
        have hcm6 : c6 pm = 0 := (x6.old pm hpmw).trans hcm
        have k7 := putL9_kp w6 pm ao6 cap6 po6 pc6 M
        have hbm7 := putL9_heap ao6 cap6 po6 pc6 M hbm6
        have HX7 := Lib.hid ((HX.out.trans (x6.mono (T := fun c => c ≠ 0) (fun c h => by unfold SL S3 at h; omega))).flip k7 (fun j c => by subst c; exact hpW))
        have HL7 := Lib.hid (hl6.free k7 (by omega) (fun j c => by subst c; exact hcm6))
        have HRA7 := Lib.hid (hra6.kp k7 (fun j _ c e => c.1 e))
        have HPS7 := Lib.hid (hps6.kp k7 (fun j _ c e => c.1 e))
        clear hto x6 hl6 hra6 hps6 k7 y0 y1 y2 y3 y4 y5 y6 y7 z0 z1 z2 z3 hoA hbmA HX HD HRA HPS
        go_upto_region 28 with (refine wpList_store_rlog rfl (.tmp 14) (.tmp 137) rfl pm ao6 cap6 po6 pc6 M (by rfl) (by rfl) hbm6 ?_)
        clear hbm6
        generalize putL9 w6 pm ao6 cap6 po6 pc6 M = w7 at *
        have R : Hid (∀ wz, Kp Noone w7 wz → RunW W p pm n (.pointer (some ⟨q, 0, none⟩)) (.int .i64 ((i + 1 : Nat) : Int)) wz) := Lib.hid (fun wz kz => ⟨⟨i + 1, c6, s1, M, ao6, cap6, po6, pc6, rfl, by omega, by omega, HX7.out.trans (Ext.quiet HX7.out.cols kz), HL7.out.dk.keep kz, kz.heap hbm7 id, hcm6, hpW, HRA7.out.keep kz, HPS7.out.keep kz, HKE.out.1.d, HKE.out.2.2.1, by have := HKE.out.2.2.2; have := HSM.out.2.2; omega, Or.inr ⟨q, l1, rfl, HL7.out.keep kz, HKE.out.1, HKE.out.2.1⟩⟩⟩)
        obtain ⟨hsw, hrb, -, -⟩ := HKE.out
        obtain ⟨hn1, -⟩ := hsw.last hrb.ne
        have hok := hrb.lok (by omega) hsw
        have hnx := hrb.next (by omega)
        have hlen := hrb.len
        obtain ⟨N, hN⟩ : ∃ N, M.ps.length = N + 1 := ⟨M.ps.length - 1, by have := List.length_pos_iff.2 hrb.ne; omega⟩
        have hN0 : 0 < M.ps.length := by omega
        obtain ⟨b9, off9, ro9, rc9, rfl, -, -, -, d1, -, -⟩ := HPS7.out.get 0 hN0
        have hfp : firstP l1 = M.ps[0].first := by
          unfold firstP
          rw [← hsw.ps]
          obtain ⟨a9, r9, e9⟩ : ∃ a r, M.ps = a :: r := by
            cases hx : M.ps with
            | nil => rw [hx] at hN0; simp at hN0
            | cons a r => exact ⟨a, r, rfl⟩
          simp only [e9]
          rfl
        have hpl : l1.pieces.length = M.ps.length := by rw [← hsw.ps]; unfold heads; rw [List.length_map]
        have HF1 := Lib.hid (fun (W' : World) (k : Kp Noone w7 W') => first_l 4 0 c6 W' p q s1 l1 (HL7.out.keep k) hok)
        have HF2 := Lib.hid (fun (W' : World) (k : Kp Noone w7 W') => next_l 4 0 c6 W' p q s1 l1 (HL7.out.keep k))
        have HF3 := Lib.hid (fun (W' : World) (k : Kp Noone w7 W') => pieces_l 4 0 c6 W' p q s1 l1 (HL7.out.keep k))
        have HF4 := Lib.hid (fun (W' : World) (k : Kp Noone w7 W') => next_ref (fun j => j ≠ pm ∧ c6 j = 0) ao6 cap6 (some ⟨b9, off9, none⟩) pc6 M W' (HPS7.out.keep k) hrb.ne (by omega) (by omega))
        rw [hfp] at HF1
        rw [hn1] at HF2
        rw [hpl] at HF3
        rw [Nat.zero_mul, Nat.add_zero] at d1
        unfold rlC at hbm7
        rw [hN] at hbm7 HF3 HF4
        generalize M.ps[0].first = fst at *
        generalize nextP9 M.ps = nx at *
        clear hsw hrb hn1 hok hnx hlen hN hN0 hfp hpl HKE HX7 HL7 HRA7 HPS7
        have hN2 : (0 : Int) < ((N + 1 : Nat) : Int) := by omega
        have HKY : Hid (∀ w', Kp Noone w7 w' → (((w'.cell? ⟨pm, 0, none⟩ = some (.slice ao6 M.d.L.length cap6) ∧ w'.cell? ⟨pm, 1, none⟩ = some (.int .i64 M.d.room) ∧ w'.cell? ⟨pm, 2, none⟩ = some (.int .i64 M.d.steps) ∧ w'.cell? ⟨pm, 3, none⟩ = some (.int .i64 M.d.fuse)) ∧ (w'.cell? ⟨pm, 4, none⟩ = some (.bool M.d.down) ∧ w'.cell? ⟨pm, 5, none⟩ = some (.int .i64 (M.lim : Int)) ∧ w'.cell? ⟨pm, 6, none⟩ = some (.slice (some ⟨b9, off9, none⟩) (N + 1) pc6) ∧ w'.cell? ⟨pm, 7, none⟩ = some (.bool M.shut))) ∧ w'.cell? ⟨b9, off9 + 1, none⟩ = some (.int .i64 (fst : Int)))) := Lib.hid (fun w' k => ⟨⟨(cells_8 (k.heap hbm7 id)).1, (cells_8 (k.heap hbm7 id)).2.1⟩, k.cell d1 id⟩)
        have k0 : Kp Noone w7 w7.drew := (Kp.refl _ _).drew
        go_region_held3 (fun w' => ((w'.cell? ⟨pm, 0, none⟩ = some (.slice ao6 M.d.L.length cap6) ∧ w'.cell? ⟨pm, 1, none⟩ = some (.int .i64 M.d.room) ∧ w'.cell? ⟨pm, 2, none⟩ = some (.int .i64 M.d.steps) ∧ w'.cell? ⟨pm, 3, none⟩ = some (.int .i64 M.d.fuse)) ∧ (w'.cell? ⟨pm, 4, none⟩ = some (.bool M.d.down) ∧ w'.cell? ⟨pm, 5, none⟩ = some (.int .i64 (M.lim : Int)) ∧ w'.cell? ⟨pm, 6, none⟩ = some (.slice (some ⟨b9, off9, none⟩) (N + 1) pc6) ∧ w'.cell? ⟨pm, 7, none⟩ = some (.bool M.shut))) ∧ w'.cell? ⟨b9, off9 + 1, none⟩ = some (.int .i64 (fst : Int)))
          (first | with_reducible exact HKY.out _ k0)
          (first
            | (go_at_call 15; refine (HF1.out _ k0).mono ?_; rintro e wq ⟨rfl, rfl⟩)
            | (go_at_call 16; refine (HF2.out _ k0).mono ?_; rintro e wq ⟨rfl, rfl⟩)
            | (go_at_call 18; refine (HF3.out _ k0).mono ?_; rintro e wq ⟨rfl, rfl⟩)
            | (go_at_call 17; refine (HF4.out _ k0).mono ?_; rintro e wq ⟨rfl, kq⟩; have k0 := k0.trans kq))
        have R1 := Lib.hid (R.out _ k0)
        clear R HF1 HF2 HF3 HF4 HKY k0 kq d1 hbm7
        go_wp2_with fail
        go_roundw
        case rel => exact ⟨rfl, R1.out⟩
        case measure => simp [intOf]; omega
    all_goals (
      clear HX HD HRA HPS HSM HBS HIW HIS HLG
      obtain ⟨col9, s9, d9, lim9, po9, pn9, pc9, sh9, ao9, cp9, X9, dk9, hbm9, hcm9, hra9, hsm9, hsd9, hst9, ho9, hcg9⟩ := HE.out.ex
      have hpm9 : pm < wz9.heap.size := (Array.getElem?_eq_some_iff.1 hbm9).1
      have hop := lawOpen_any (fun j => j ≠ pm) W.heap.size col9 ao9 cp9 d9 s9 p o.n wz9 hra9 (fun j hj => by omega) dk9 X9.cols X9.size hsm9 hsd9 (by omega)
      have hke := open_kept hsm9 dk9.2 hsd9 (by omega) o.n
      generalize openR d9 o.n = M at *
      generalize openF s9 o.n = R at *
      have HKE := Lib.hid hke
      obtain ⟨L9, rm9, st9, fu9, dn9⟩ := d9
      unfold rdV rdC at hop
      simp only [] at hop hbm9
      obtain ⟨⟨y0, y1, y2, y3⟩, ⟨y4, y5, y6, y7⟩, -⟩ := cells_8 hbm9
      obtain ⟨z0, z1, z2, z3⟩ := cells_4 ho9
      have HX9 := Lib.hid X9
      clear hke HE dk9 hra9 hsm9 hsd9 X9
      go_wp2_with fail
      refine hop.mono ?_
      clear hop
      rintro e w10 hto
      obtain ⟨c10, ao10, cap10, po10, pc10, vl10, rfl, x10, d10, hra10, hps10, hcase⟩ := hto.ex
      have hbm10 := x10.kp.heap hbm9 (nsl hcm9)
      have hcm10 : c10 pm = 0 := (x10.old pm hpm9).trans hcm9
      have hb11 := putL9_heap ao10 cap10 po10 pc10 M.1 hbm10
      have R1 : Hid (RunW W p pm n vl10 (.int .i64 ((i + 1 : Nat) : Int)) (putL9 w10 pm ao10 cap10 po10 pc10 M.1)) := Lib.hid (RunW.opened HX9.out x10 d10 hra10 hps10 hcase (putL9_kp w10 pm ao10 cap10 po10 pc10 M.1) hb11 hcm10 hpW HKE.out.1 HKE.out.2.1 (by have := HKE.out.2.2.1; omega) HKE.out.2.2.2 (by omega) (by omega))
      clear hto x10 d10 hra10 hps10 hcase hb11 HX9 HKE y0 y1 y2 y3 y4 y5 y6 y7 z0 z1 z2 z3 hbm9 ho9
      go_wp2_with (refine wpList_store_rlog rfl (.tmp 14) (.tmp 128) rfl pm ao10 cap10 po10 pc10 M.1 (by rfl) (by rfl) hbm10 ?_)
      go_roundw
      case rel => exact ⟨rfl, R1.out⟩
      case measure => simp [intOf]; omega)

end Go.Proofs.YtigdhdclfdojgaaGreat
