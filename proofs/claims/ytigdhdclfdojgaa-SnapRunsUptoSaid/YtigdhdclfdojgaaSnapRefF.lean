/-
  THE WALK of the document's snap: Clean.
-/
import Derived.Test.YtigdhdclfdojgaaSnapRefE
import Derived.Test.YtigdhdclfdojgaaSnapClean
namespace Go.Proofs.Ytigdhdclfdojgaa
open Go.RowKit

theorem pre_short {k : ByteArray} (h : k.size < 3) : hasPre k = false := by
  unfold hasPre
  rw [← Lib.hasPrefix_of_take]
  have : ¬ preL.length ≤ (toL k).length := by
    have e : (toL k).length = k.size := by simp [toL]
    have e2 : preL.length = 3 := rfl
    omega
  simp [this]
theorem pre_long {k : ByteArray} (h : ¬ k.size < 3) : ((k.extract 0 3).toList == [99, 107, 45]) = hasPre k := by
  unfold hasPre
  rw [← Lib.hasPrefix_of_take]
  have : preL.length ≤ (toL k).length := by
    have e : (toL k).length = k.size := by simp [toL]
    have e2 : preL.length = 3 := rfl
    omega
  rw [decide_eq_true this, Bool.true_and, Lib.extract_toList]
  simp [toL, preL]
theorem cleanLR_nil (t : Nat) (m : RD) : cleanLR t [] m = (m, 0) := rfl
theorem cleanLR_cons (t : Nat) (k : ByteArray) (r : List ByteArray) (m : RD) : cleanLR t (k :: r) m = if staysN t k = true then cleanLR t r m else if (doE m (oDrop k)).2 ≠ 0 then doE m (oDrop k) else cleanLR t r (doE m (oDrop k)).1 := rfl

/-- Between two names. -/
structure ClS (P : Nat → Prop) (wA : World) (gx gr tn n : Nat) (N : List ByteArray) (s0 : DS) (m0 : RD) (v : Value) (wr : World) : Prop where
  ex : ∃ (j : Nat) (m : RD) (s : DS) (ao : Option Addr) (cap : Nat), v = .int .i64 (j : Int) ∧ j ≤ n ∧ Kp (fun j => j = gx) wA wr ∧ wr.heap[gx]? = some (.cells (rdC ao cap m) 51 (0, 0)) ∧ RA (fun j => P j ∧ j ≠ gx ∧ j ≠ gr) wr ao m.L.length cap m.L ∧ Sim m s ∧ DOk s ∧ s.steps ≤ s0.steps + j ∧ cleanLR tn N m0 = cleanLR tn (N.drop j) m

attribute [local irreducible] putD doE currentR

set_option maxHeartbeats 4000000 in
set_option maxRecDepth 100000 in
theorem clean_ref (P : Nat → Prop) (ao : Option Addr) (cap : Nat) (m : RD) (s : DS) (w : World) (h : RA P w ao m.L.length cap m.L) (hP : ∀ j, w.heap.size ≤ j → P j) (hs : Sim m s) (hd : DOk s) (hst : s.steps < 4611686018427387000) :
    Calls Try.prog 28 #[rdV ao cap m] w fun e w' => RErr P w (cleanR m) e w' := by
  obtain ⟨RES, hRES⟩ : ∃ x, Hid (cleanR m = x) := ⟨_, Lib.hid rfl⟩
  rw [hRES.out]
  have HR := hRES.out
  unfold cleanR at HR
  have hok := hs.rok hd
  have h64 := hok.len
  have hnm : ∀ x ∈ m.L, x.1.size ≤ 24 := fun x hx => nameOk_size (hd.names x (hs.a.perm.subset hx))
  have hcur := fun P' W hr => current_ref P' ao cap m W hr hok
  have hcl : (currentR m).1.turn ≤ 1099511627776 := by rw [sim_current hs]; exact (currentF_le s).1
  generalize hC : currentR m = C at *
  obtain ⟨⟨tn, sn, un⟩, ce⟩ := C
  simp only [] at HR hcl hcur
  obtain ⟨M, hM⟩ : ∃ x, x = m := ⟨_, rfl⟩
  rw [← hM] at HR hs
  obtain ⟨L, rm, st, fu, dn⟩ := m
  simp only [] at h hcur h64 hnm
  have hA := heap_alloc_new w (.cells #[.slice ao L.length cap, .int .i64 rm, .int .i64 st, .int .i64 fu, .bool dn] 51)
  have eA := alloc_size w (.cells #[.slice ao L.length cap, .int .i64 rm, .int .i64 st, .int .i64 fu, .bool dn] 51)
  have kA : Kp Noone w ((w.alloc (.cells #[.slice ao L.length cap, .int .i64 rm, .int .i64 st, .int .i64 fu, .bool dn] 51)).alloc (.cells #[.slice none 0 0, .int .i64 0, .int .i64 0, .int .i64 0, .bool false] 51)) := ((Kp.refl _ _).alloc _).alloc _
  have hx := ((Kp.refl Noone (w.alloc (.cells #[.slice ao L.length cap, .int .i64 rm, .int .i64 st, .int .i64 fu, .bool dn] 51))).alloc (.cells #[.slice none 0 0, .int .i64 0, .int .i64 0, .int .i64 0, .bool false] 51)).heap hA id
  have hr := heap_alloc_new (w.alloc (.cells #[.slice ao L.length cap, .int .i64 rm, .int .i64 st, .int .i64 fu, .bool dn] 51)) (.cells #[.slice none 0 0, .int .i64 0, .int .i64 0, .int .i64 0, .bool false] 51)
  rw [eA] at hr
  have HRR := Lib.hid HR
  have HM := Lib.hid hM
  have HS := Lib.hid (And.intro hs hd)
  have HNM := Lib.hid hnm
  clear hRES HR hA eA hM hC hs hd hok hnm
  unfold rdV rdC at *
  simp only [] at hcur
  go_enter Try.func28, Try.ntmps28
  go_upto_region 1 with fail
  generalize (w.alloc (.cells #[.slice ao L.length cap, .int .i64 rm, .int .i64 st, .int .i64 fu, .bool dn] 51)).alloc (.cells #[.slice none 0 0, .int .i64 0, .int .i64 0, .int .i64 0, .bool false] 51) = wA at *
  generalize hgr : w.heap.size + 1 = gr at *
  generalize hgx : w.heap.size = gx at *
  have hxl := (Array.getElem?_eq_some_iff.1 hx).1
  have hrl := (Array.getElem?_eq_some_iff.1 hr).1
  have hne : ¬ gr = gx := by omega
  have HP' : Hid (∀ j, wA.heap.size ≤ j → P j ∧ j ≠ gx ∧ j ≠ gr) := Lib.hid (fun j hj => ⟨hP j (by omega), by omega, by omega⟩)
  have HRA := Lib.hid ((h.mono (Q := fun j => P j ∧ j ≠ gx ∧ j ≠ gr) (fun j hj c => ⟨c, by omega, by omega⟩)).keep kA)
  obtain ⟨⟨y0, y1, y2, y3, y4⟩, -⟩ := cells_five hx
  have HKA := Lib.hid kA
  have hcur := hcur _ wA HRA.out
  clear h kA hP
  go_wp2_with fail
  refine hcur.mono ?_
  clear hcur
  rintro e w1 hto
  obtain ⟨rfl, k1⟩ := hto.ex
  have hx1 := k1.heap hx id
  have hr1 := k1.heap hr id
  have hs1z : wA.heap.size ≤ w1.heap.size := k1.size
  have HRA1 := Lib.hid (HRA.out.keep k1)
  have HK1 := Lib.hid (HKA.out.trans k1)
  clear hto y0 y1 y2 y3 y4 k1 hx hr HRA HKA
  obtain ⟨⟨y0, y1, y2, y3, y4⟩, -⟩ := cells_five hx1
  simp only []
  have HR2 := HRR.out
  have hM := HM.out
  by_cases hce : ce = 0
  case neg =>
    rw [if_pos hce] at HR2
    subst HR2
    subst hM
    have n0 : ((ce : Int) != 0) = true := by simpa using hce
    go_wp2_with (refine wpList_store_disk rfl (.tmp 2) (.tmp 23) rfl gr ao cap ⟨L, rm, st, fu, dn⟩ (by rfl) (by rfl) hr1 ?_)
    refine bodyPost_ret (v := .tuple #[rdV ao cap ⟨L, rm, st, fu, dn⟩, .int .i64 (ce : Int)]) (by rw [results_disk_tmp rfl _ _ gr _ rfl (putD_heap ao cap ⟨L, rm, st, fu, dn⟩ hr1) rfl]; rfl) rfl ?_
    exact ⟨⟨ao, cap, rfl, (HRA1.out.kp (putD_kp _ _ _ _ _) (fun j _ c e => c.2.2 e)).mono (fun j _ c => c.1), HK1.out.fin (putD_kp _ _ _ _ _) (fun j e => Or.inr (by omega))⟩⟩
  subst hce
  rw [if_neg (by simp)] at HR2
  rw [Int.natCast_zero]
  have hN : M.L.map (·.1) = L.map (·.1) := by rw [hM]
  rw [hN] at HR2
  have HRB := Lib.hid HR2
  obtain ⟨N, hNN⟩ : ∃ N, Hid (L.map (·.1) = N) := ⟨_, Lib.hid rfl⟩
  have HRC : Hid (cleanLR tn N M = RES) := Lib.hid (by rw [← hNN.out]; exact HRB.out)
  have hNl : N.length = L.length := by rw [← hNN.out, List.length_map]
  have HNL := Lib.hid hNl
  generalize hln : L.length = ln at *
  have HLN := Lib.hid hln
  have R0 : Hid (ClS P w1 gx gr tn ln N s M (.int .i64 0) w1) := Lib.hid ⟨⟨0, M, s, ao, cap, by rfl, Nat.zero_le _, Kp.refl _ _, by subst hM; rw [← HLN.out] at hx1; exact hx1, by subst hM; have h := HRA1.out; rw [← HLN.out] at h; exact h, HS.out.1, HS.out.2, by omega, rfl⟩⟩
  clear HR2 HRR HRB hM hN hNl hln HS y1 y2 y3 y4
  go_wp2_with fail
  go_loopw [29] (fun v wr => ClS P w1 gx gr tn ln N s M v wr) (fun v _ => ln - (intOf v).toNat)
  case atStart => exact R0.out
  case round =>
    clear R0 y0 hx1
    obtain ⟨j, m3, s3, ao3, cap3, rfl, hj, k3, hx3, hra3, hs3, hd3, hst3, hcl3⟩ := hrel.ex
    have hr3 := k3.heap hr1 hne
    have hxr : wA.heap.size ≤ wr.heap.size := Nat.le_trans hs1z k3.size
    by_cases hlt : j < ln
    case neg =>
      have hcl4 := hcl3
      rw [List.drop_of_length_le (by rw [HNL.out]; omega), cleanLR_nil] at hcl4
      have HR3 := HRC.out
      rw [hcl4] at HR3
      subst HR3
      obtain ⟨L3, rm3, st3, fu3, dn3⟩ := m3
      unfold rdC at hx3
      simp only [] at hx3 hra3
      obtain ⟨⟨y0, y1, y2, y3, y4⟩, -⟩ := cells_five hx3
      have HK3 := Lib.hid (HK1.out.fin k3 (fun j e => Or.inr (by omega)))
      have HRA3 := Lib.hid hra3
      clear hcl3 hcl4 hrel k3 hra3 hs3 hd3
      go_wp2_with (refine wpList_store_disk rfl (.tmp 2) (.tmp 73) rfl gr ao3 cap3 ⟨L3, rm3, st3, fu3, dn3⟩ (by rfl) (by rfl) hr3 ?_)
      refine bodyPost_ret (v := .tuple #[rdV ao3 cap3 ⟨L3, rm3, st3, fu3, dn3⟩, .int .i64 0]) (by rw [results_disk_tmp rfl _ _ gr _ rfl (putD_heap ao3 cap3 ⟨L3, rm3, st3, fu3, dn3⟩ hr3) rfl]; rfl) rfl ?_
      exact ⟨⟨ao3, cap3, rfl, (HRA3.out.kp (putD_kp _ _ _ _ _) (fun j _ c e => c.2.2 e)).mono (fun j _ c => c.1), HK3.out.fin (putD_kp _ _ _ _ _) (fun j e => Or.inr (by omega))⟩⟩
    have hNj : j < N.length := by rw [HNL.out]; exact hlt
    have hLj : j < L.length := by rw [HLN.out]; exact hlt
    obtain ⟨b, off, -, -, -, rfl, hbl, -, hcell, -⟩ := (HRA1.out.kp k3 (fun j _ c e => c.2.1 e)).get j hLj
    have hks := HNM.out L[j] (List.getElem_mem hLj)
    have hdr : N.drop j = L[j].1 :: N.drop (j + 1) := by
      rw [← List.getElem_cons_drop hNj]
      congr 1
      have h := hNN.out
      subst h
      simp
    rw [hdr, cleanLR_cons] at hcl3
    generalize L[j].1 = k at *
    have hwj : IntKind.i64.wrap ((j : Int) + 1) = (j : Int) + 1 := IntWalk.i64_in _ (by omega)
    have HCL := Lib.hid hcl3
    have HS3 := Lib.hid (And.intro hs3 hd3)
    have HRA3 := Lib.hid hra3
    have HK3 := Lib.hid k3
    clear hcl3 hdr hs3 hd3 hra3 k3 hrel
    have hcs : (staysN tn k = true ∧ ((k.size < 3) ∨ (¬ k.size < 3 ∧ hasPre k = false) ∨ (¬ k.size < 3 ∧ hasPre k = true ∧ k = ckNow) ∨ (¬ k.size < 3 ∧ hasPre k = true ∧ ¬ k = ckNow ∧ 0 < tn ∧ k = areaN tn))) ∨ (¬ staysN tn k = true ∧ ¬ k.size < 3 ∧ hasPre k = true ∧ ¬ k = ckNow ∧ (¬ 0 < tn ∨ (0 < tn ∧ ¬ k = areaN tn))) := by
      by_cases q0 : k.size < 3
      · exact Or.inl ⟨by unfold staysN; rw [pre_short q0]; rfl, Or.inl q0⟩
      by_cases q1 : hasPre k = true
      · by_cases q2 : k = ckNow
        · exact Or.inl ⟨by unfold staysN; rw [decide_eq_true q2]; simp, Or.inr (Or.inr (Or.inl ⟨q0, q1, q2⟩))⟩
        · by_cases q3 : 0 < tn
          · by_cases q4 : k = areaN tn
            · exact Or.inl ⟨by unfold staysN; rw [decide_eq_true q3, decide_eq_true q4]; simp, Or.inr (Or.inr (Or.inr ⟨q0, q1, q2, q3, q4⟩))⟩
            · exact Or.inr ⟨by unfold staysN; rw [q1, decide_eq_false q2, decide_eq_false q4]; simp, q0, q1, q2, Or.inr ⟨q3, q4⟩⟩
          · exact Or.inr ⟨by unfold staysN; rw [q1, decide_eq_false q2, decide_eq_false q3]; simp, q0, q1, q2, Or.inl q3⟩
      · have q1 : hasPre k = false := by simpa using q1
        exact Or.inl ⟨by unfold staysN; rw [q1]; rfl, Or.inr (Or.inl ⟨q0, q1⟩)⟩
    rcases hcs with ⟨hst1, hcs⟩ | ⟨hst1, hq, hp, hk, ha⟩
    · have hcl := HCL.out
      rw [if_pos hst1] at hcl
      have R : Hid (ClS P w1 gx gr tn ln N s M (.int .i64 ((j + 1 : Nat) : Int)) wr) := Lib.hid ⟨⟨j + 1, m3, s3, ao3, cap3, by rfl, by omega, HK3.out, hx3, HRA3.out, HS3.out.1, HS3.out.2, by omega, hcl⟩⟩
      clear hcl HCL hst1 hx3
      rcases hcs with hq | ⟨hq, hp⟩ | ⟨hq, hp, hk⟩ | ⟨hq, hp, hk, t0, ha⟩
      · have hq2 : (k.size : Int) < 3 := by omega
        clear hq
        go_wp2_with fail
        go_roundw
        case rel => exact R.out
        case measure => simp [intOf]; omega
      · have hq2 : ¬ (k.size : Int) < 3 := by omega
        have hq3 := pre_long hq
        rw [hp] at hq3
        have hq4 : ((k.extract 0 3).toList != [99, 107, 45]) = true := by show (!((k.extract 0 3).toList == [99, 107, 45])) = true; rw [hq3]; rfl
        have hq5 : ¬ (k.extract 0 3).toList = [99, 107, 45] := by simpa using hq3
        have hq6 : 3 ≤ k.size := by omega
        clear hq
        go_wp2_with fail
        go_roundw
        case rel => exact R.out
        case measure => simp [intOf]; omega
      · subst hk
        have e3 : ckNow = ⟨#[99, 107, 45, 110, 111, 119]⟩ := rfl
        rw [e3] at hcell
        have hq5 : (ByteArray.extract ⟨#[99, 107, 45, 110, 111, 119]⟩ 0 3).toList = [99, 107, 45] := by decide +kernel
        clear hq hks
        go_wp2_with fail
        go_roundw
        case rel => exact R.out
        case measure => simp [intOf]; omega
      · have hq2 : ¬ (k.size : Int) < 3 := by omega
        have hq3 := pre_long hq
        rw [hp] at hq3
        have hq4 : ((k.extract 0 3).toList != [99, 107, 45]) = false := by show (!((k.extract 0 3).toList == [99, 107, 45])) = false; rw [hq3]; rfl
        have hq5 : (k.extract 0 3).toList = [99, 107, 45] := by simpa using hq3
        have hq6 : 3 ≤ k.size := by omega
        obtain ⟨q1, q2⟩ := now_ne hk
        clear hq
        subst ha
        go_wp2_with fail
        refine (area_ref tn _).mono ?_
        rintro e w' ⟨rfl, rfl⟩
        go_wp2_with fail
        go_roundw
        case rel => exact R.out
        case measure => simp [intOf]; omega
    · have hcl := HCL.out
      rw [if_neg hst1] at hcl
      have hq2 : ¬ (k.size : Int) < 3 := by omega
      have hq3 := pre_long hq
      rw [hp] at hq3
      have hq4 : ((k.extract 0 3).toList != [99, 107, 45]) = false := by show (!((k.extract 0 3).toList == [99, 107, 45])) = false; rw [hq3]; rfl
      have hq5 : (k.extract 0 3).toList = [99, 107, 45] := by simpa using hq3
      have hq6 : 3 ≤ k.size := by omega
      obtain ⟨q1, q2⟩ := now_ne hk
      obtain ⟨hs3, hd3⟩ := HS3.out
      have h1 := sim_drop hs3 hd3 k
      have d1 := dropF_ok hd3 k (by omega)
      have s1 := dropF_steps s3 k
      have D := do_step (fun j => P j ∧ j ≠ gx ∧ j ≠ gr) ao3 cap3 m3 s3 (oDrop k) none 0 0 none 0 0 wr HRA3.out (fun j hj => HP'.out j (by omega)) hs3 hd3 (op_drop (by unfold maxLen; omega)) (BS.nil _ _) (IS.nil _) (by omega)
      generalize dropF s3 k = q at *
      generalize doE m3 (oDrop k) = r at *
      obtain ⟨⟨L4, rm4, st4, fu4, dn4⟩, e4⟩ := r
      obtain ⟨L3, rm3, st3, fu3, dn3⟩ := m3
      unfold rdC at hx3
      simp only [] at hx3 hcl
      obtain ⟨⟨y0, y1, y2, y3, y4⟩, -⟩ := cells_five hx3
      have HCM := Lib.hid hcl
      have H1 := Lib.hid (And.intro h1 d1)
      have hq1s : q.1.steps ≤ s3.steps + 1 := s1
      have hxl3 := (Array.getElem?_eq_some_iff.1 hx3).1
      have hrl3 := (Array.getElem?_eq_some_iff.1 hr3).1
      unfold rdV rdC at D
      simp only [] at D
      clear hcl HCL hst1 hs3 hd3 h1 d1 s1 HS3 hq hk HRA3
      have h12 : (tn = 0) ∨ (0 < tn ∧ ¬ k = areaN tn) := by
        rcases ha with h | h
        · exact Or.inl (by omega)
        · exact Or.inr h
      clear ha
      rcases h12 with h0 | ⟨t0, hka⟩
      case' inl =>
        have h00 : ¬ 0 < tn := by omega
        clear h0
        go_wp2_with fail
      case' inr =>
        obtain ⟨p1, p2, p3, p4⟩ := ba_ne hka
        clear hka
        go_wp2_with fail
        refine (area_ref tn _).mono ?_
        rintro e w' ⟨rfl, rfl⟩
        go_wp2_with fail
      all_goals (
        refine D.mono ?_
        clear D
        rintro e w4 ⟨o4, c4, x4o, x4n, x4c, rfl, hra4, k4⟩
        have kN : Kp Noone w4 (w4.alloc (.cells #[.slice o4 L4.length c4, .int .i64 rm4, .int .i64 st4, .int .i64 fu4, .bool dn4] 51)) := (Kp.refl _ _).alloc _
        have hN := heap_alloc_new w4 (.cells #[.slice o4 L4.length c4, .int .i64 rm4, .int .i64 st4, .int .i64 fu4, .bool dn4] 51)
        have hx4 := kN.heap (k4.heap hx3 id) id
        have hr4 := kN.heap (k4.heap hr3 id) id
        have HRA4 := Lib.hid (hra4.keep kN)
        have hk4 := ((HK3.out.fin k4 (fun j e => e.elim)).fin kN (fun j e => e.elim))
        go_upto_region 11 with fail
        have hgy : gx < w4.heap.size := by have := k4.size; omega
        clear y0 y1 y2 y3 y4 k4 hx3 hra4 kN
        generalize w4.alloc (.cells #[.slice o4 L4.length c4, .int .i64 rm4, .int .i64 st4, .int .i64 fu4, .bool dn4] 51) = w5 at *
        generalize w4.heap.size = gy at *
        obtain ⟨⟨y0, y1, y2, y3, y4⟩, -⟩ := cells_five hN
        have p6 := putD_kp w5 gx o4 c4 ⟨L4, rm4, st4, fu4, dn4⟩
        have hx6 := putD_heap o4 c4 ⟨L4, rm4, st4, fu4, dn4⟩ hx4
        have hr6 := p6.heap hr4 hne
        have HRA6 := Lib.hid (HRA4.out.kp p6 (fun j _ c e => c.2.1 e))
        have HK6 := Lib.hid (hk4.fin p6 (fun j e => Or.inl e))
        go_upto_region 12 with (refine wpList_store_disk rfl (.tmp 1) (.tmp 67) rfl gx o4 c4 ⟨L4, rm4, st4, fu4, dn4⟩ (by rfl) (by rfl) hx4 ?_)
        clear y0 y1 y2 y3 y4 p6 hx4 hr4 HRA4 hN hk4
        generalize putD w5 gx o4 c4 ⟨L4, rm4, st4, fu4, dn4⟩ = w6 at *
        by_cases h4 : e4 = 0
        · subst h4
          have hcl := HCM.out
          rw [if_neg (by simp)] at hcl
          have R : Hid (ClS P w1 gx gr tn ln N s M (.int .i64 ((j + 1 : Nat) : Int)) w6) := Lib.hid ⟨⟨j + 1, ⟨L4, rm4, st4, fu4, dn4⟩, q.1, o4, c4, by rfl, by omega, HK6.out, hx6, HRA6.out, H1.out.1.1, H1.out.2, by omega, hcl⟩⟩
          clear hcl HCM H1 hx6
          rw [Int.natCast_zero]
          go_wp2_with fail
          go_roundw
          case rel => exact R.out
          case measure => simp [intOf]; omega
        · have n4 : ((e4 : Int) != 0) = true := by simpa using h4
          have hcl := HCM.out
          rw [if_pos h4] at hcl
          have HR3 := HRC.out
          rw [hcl] at HR3
          subst HR3
          clear hcl h4
          unfold rdC at hx6
          simp only [] at hx6
          obtain ⟨⟨y0, y1, y2, y3, y4⟩, -⟩ := cells_five hx6
          have HK7 := Lib.hid (HK1.out.fin HK6.out (fun j e => Or.inr (by omega)))
          go_wp2_with (refine wpList_store_disk rfl (.tmp 2) (.tmp 70) rfl gr o4 c4 ⟨L4, rm4, st4, fu4, dn4⟩ (by rfl) (by rfl) hr6 ?_)
          refine bodyPost_ret (v := .tuple #[rdV o4 c4 ⟨L4, rm4, st4, fu4, dn4⟩, .int .i64 (e4 : Int)]) (by rw [results_disk_tmp rfl _ _ gr _ rfl (putD_heap o4 c4 ⟨L4, rm4, st4, fu4, dn4⟩ hr6) rfl]; rfl) rfl ?_
          exact ⟨⟨o4, c4, rfl, (HRA6.out.kp (putD_kp _ _ _ _ _) (fun j _ c e => c.2.2 e)).mono (fun j _ c => c.1), HK7.out.fin (putD_kp _ _ _ _ _) (fun j e => Or.inr (by omega))⟩⟩)

end Go.Proofs.Ytigdhdclfdojgaa
