/-
  THE WALK of the document's snap: Load.
-/
import Derived.Test.YtigdhdclfdojgaaSnapRefC
namespace Go.Proofs.Ytigdhdclfdojgaa
open Go.RowKit

/-- What Load answers. -/
structure LdTo (w : World) (R : Nat × List UInt8 × Bool × Nat) (e : Ending) (w' : World) : Prop where
  ex : ∃ bo c, e = .returned (.tuple #[.int .i64 (R.1 : Int), .slice bo R.2.1.length c, .bool R.2.2.1, .int .i64 (R.2.2.2 : Int)]) ∧ BS w' bo R.2.1.length c R.2.1 ∧ Kp Noone w w'
theorem LdTo.zero (w w' : World) (E : Nat) (k : Kp Noone w w') : LdTo w (0, [], false, E) (.returned (.tuple #[.int .i64 0, .slice none 0 0, .bool false, .int .i64 (E : Int)])) w' :=
  ⟨⟨none, 0, rfl, BS.nil _ _, k⟩⟩

set_option maxHeartbeats 4000000 in
set_option maxRecDepth 100000 in
theorem load_ref (P : Nat → Prop) (ao : Option Addr) (cap : Nat) (m : RD) (w : World) (h : RA P w ao m.L.length cap m.L) (hok : ROk m) :
    Calls Try.prog 27 #[rdV ao cap m] w fun e w' => LdTo w (loadR m) e w' := by
  obtain ⟨RES, hRES⟩ : ∃ x, Hid (loadR m = x) := ⟨_, Lib.hid rfl⟩
  rw [hRES.out]
  have HR := hRES.out
  unfold loadR at HR
  have hcur := fun W hr => current_ref P ao cap m W hr hok
  generalize currentR m = C at *
  obtain ⟨⟨tn, sn, un⟩, ce⟩ := C
  have h64 := hok.len
  have hfit := hok.fit
  unfold loadPR at HR
  obtain ⟨L, room, steps, fuse, down⟩ := m
  simp only [] at h h64 HR hfit hcur
  have hA := heap_alloc_new w (.cells #[.slice ao L.length cap, .int .i64 room, .int .i64 steps, .int .i64 fuse, .bool down] 51)
  have kA : Kp Noone w (w.alloc (.cells #[.slice ao L.length cap, .int .i64 room, .int .i64 steps, .int .i64 fuse, .bool down] 51)) := (Kp.refl _ _).alloc _
  have HRR := Lib.hid HR
  clear hRES HR
  unfold rdV rdC at *
  go_enter Try.func27, Try.ntmps27
  go_upto_region 1 with fail
  generalize w.alloc (.cells #[.slice ao L.length cap, .int .i64 room, .int .i64 steps, .int .i64 fuse, .bool down] 51) = wA at *
  generalize hgx : w.heap.size = gx at *
  obtain ⟨⟨y0, y1, y2, y3, y4⟩, -⟩ := cells_five hA
  have hra := h.keep kA
  have hcur := hcur wA hra
  simp only [] at hcur
  clear h
  go_wp2_with fail
  refine hcur.mono ?_
  rintro e w1 hto
  obtain ⟨rfl, k1⟩ := hto.ex
  have HK1 := Lib.hid (kA.trans k1)
  have hx1 := k1.heap hA id
  have HRA1 := Lib.hid (hra.keep k1)
  clear hto hcur y0 y1 y2 y3 y4 k1 hA kA hra
  obtain ⟨⟨y0, y1, y2, y3, y4⟩, -⟩ := cells_five hx1
  simp only [] at HRR ⊢
  by_cases hce : ce = 0
  case neg =>
    have HR2 := HRR.out
    rw [if_pos (Or.inl hce)] at HR2
    subst HR2
    have n0 : ((ce : Int) != 0) = true := by simpa using hce
    go_wp2_with fail
    refine bodyPost_ret (results_tmp4 rfl _ _ _) rfl ?_
    exact LdTo.zero _ _ _ HK1.out
  subst hce
  rw [Int.natCast_zero]
  by_cases htn : tn = 0
  · subst htn
    have HR2 := HRR.out
    rw [if_pos (Or.inr rfl)] at HR2
    subst HR2
    rw [Int.natCast_zero]
    go_wp2_with fail
    refine bodyPost_ret (results_tmp4 rfl _ _ _) rfl ?_
    exact LdTo.zero _ _ 0 HK1.out
  have HR2 := HRR.out
  rw [if_neg (by simpa using htn)] at HR2
  have n0 : ((tn : Int) == 0) = false := by simpa using htn
  have HRA := Lib.hid HR2
  clear HR2 HRR htn
  have hat := fun W hr => at_ref P ao L.length cap L room steps fuse down (areaN tn) W hr (by omega)
  unfold diskV at hat
  have k0 : Kp Noone w1 w1.drew := (Kp.refl _ _).drew
  have hcs : ∀ w', Kp Noone w1 w' → (w'.cell? ⟨gx, 0, none⟩ = some (.slice ao L.length cap) ∧ w'.cell? ⟨gx, 1, none⟩ = some (.int .i64 room) ∧ w'.cell? ⟨gx, 2, none⟩ = some (.int .i64 steps) ∧ w'.cell? ⟨gx, 3, none⟩ = some (.int .i64 fuse) ∧ w'.cell? ⟨gx, 4, none⟩ = some (.bool down)) := fun w' k => (cells_five (k.heap hx1 id)).1
  have hat0 := hat w1.drew (HRA1.out.keep k0)
  clear hat
  obtain ⟨av, hav⟩ : ∃ av, Hid (atL L (areaN tn) = av) := ⟨_, Lib.hid rfl⟩
  rw [hav.out] at hat0
  clear y0 y1 y2 y3 y4
  go_upto_region 4 with fail
  go_region_held3 (fun w' => (w'.cell? ⟨gx, 0, none⟩ = some (.slice ao L.length cap) ∧ w'.cell? ⟨gx, 1, none⟩ = some (.int .i64 room) ∧ w'.cell? ⟨gx, 2, none⟩ = some (.int .i64 steps) ∧ w'.cell? ⟨gx, 3, none⟩ = some (.int .i64 fuse) ∧ w'.cell? ⟨gx, 4, none⟩ = some (.bool down)))
    (first | exact hcs _ k0 | exact hcs _ kb)
    (first
      | (go_at_call 60; refine (area_ref tn _).mono ?_; rintro e w' ⟨rfl, rfl⟩)
      | (go_at_call 55; refine hat0.mono ?_; rintro e wb ⟨rfl, kb1⟩; have kb : Kp Noone w1 wb := k0.trans kb1))
  have HKb := Lib.hid (HK1.out.trans kb)
  have hxb := kb.heap hx1 id
  have HRAb := Lib.hid (HRA1.out.keep kb)
  clear hat0 hcs kb kb1 k0 hx1 HRA1 HK1
  obtain ⟨⟨y0, y1, y2, y3, y4⟩, -⟩ := cells_five hxb
  by_cases hg : alGet (areaN tn) L = none
  · have HR3 := HRA.out
    rw [if_pos (Or.inl hg)] at HR3
    subst HR3
    have hav := hav.out
    rw [atL_none hg] at hav
    subst hav
    go_wp2_with fail
    refine bodyPost_ret (results_tmp4 rfl _ _ _) rfl ?_
    exact LdTo.zero _ _ 44 HKb.out
  obtain ⟨i, hi, hai, hnm, hge⟩ := atL_some hg
  have hav := hav.out
  rw [hai] at hav
  subst hav
  have hg0 : get0 (areaN tn) L = L[i].2 := by unfold get0; rw [hge]; rfl
  have HR3 := HRA.out
  rw [hg0] at HR3
  obtain ⟨b, off, bo, bm, bc, rfl, hbl, -, c0, c1, c2, hbd⟩ := HRAb.out.get i hi
  have hft := (hfit L[i] (List.getElem_mem hi)).2.2
  have hlen := hbd.1.len
  generalize L[i].2.data = d at *
  have hng : ¬ ((i : Int) < 0) := by omega
  obtain ⟨sm, hsm⟩ : ∃ x, Hid (sumN d = x) := ⟨_, Lib.hid rfl⟩
  rw [hsm.out] at HR3
  have HRC := Lib.hid HR3
  have HBD := Lib.hid hbd.1
  have hsum := refSum_any bo bm bc d wb hbd.1 (by omega)
  rw [hsm.out] at hsum
  clear hbd HRA hai hge hg0 hfit
  by_cases hs : sm = un
  case neg =>
    have ns : ((sm : Int) != (un : Int)) = true := by simp; omega
    have HR4 := HRC.out
    rw [if_pos (Or.inr (Or.inl hs))] at HR4
    subst HR4
    clear hs
    go_wp2_with fail
    refine hsum.mono ?_
    rintro e w' ⟨rfl, rfl⟩
    go_wp2_with fail
    refine bodyPost_ret (results_tmp4 rfl _ _ _) rfl ?_
    exact LdTo.zero _ _ 44 HKb.out
  have ns : ((sm : Int) != (un : Int)) = false := by simp; omega
  by_cases hbig : 16384 < bm
  · have HR4 := HRC.out
    rw [if_pos (Or.inr (Or.inr (by omega)))] at HR4
    subst HR4
    clear hs HRC
    go_wp2_with fail
    refine hsum.mono ?_
    rintro e w' ⟨rfl, rfl⟩
    go_wp2_with fail
    refine bodyPost_ret (results_tmp4 rfl _ _ _) rfl ?_
    exact LdTo.zero _ _ 44 HKb.out
  have HR4 := HRC.out
  rw [if_neg (by intro c; rcases c with c | c | c; exact hg c; exact c hs; omega)] at HR4
  subst HR4
  clear hs HRC
  have hcp := copy_exact bo bm bc d wb HBD.out (by omega)
  go_wp2_with fail
  refine hsum.mono ?_
  rintro e w' ⟨rfl, rfl⟩
  go_wp2_with fail
  refine hcp.mono ?_
  rintro e w' ⟨rfl, hw'⟩
  have HW := Lib.hid hw'
  clear hw'
  go_wp2_with fail
  refine bodyPost_ret (results_tmp4 rfl _ _ _) rfl ?_
  have h9 := copied2 HW.out hlen (by unfold maxLen; omega)
  subst hlen
  exact ⟨⟨_, _, rfl, h9.1, HKb.out.trans h9.2⟩⟩

end Go.Proofs.Ytigdhdclfdojgaa
