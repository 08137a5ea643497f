/-
  THE WALKS of a disk's Read, Fuse, Free, Steps, Down, List.
-/
import Derived.Test.YtmmdojnjognccaaDiskC2
namespace Go.Proofs.Ytmmdojnjognccaa
open Go.RowKit

set_option maxHeartbeats 1000000 in
set_option maxRecDepth 100000 in
theorem read_dk (col : Nat → Nat) (i p : Nat) (s : DS) (k : ByteArray) (w : World) (h : Dk col i w p s) (hk : k.size ≤ 9223372036854775807) :
    Calls Try.prog 15 #[.pointer (some ⟨p, 0, none⟩), .string k] w fun e w' => ∃ bo c, e = .returned (.tuple #[.slice bo (readF s k).1.length c, .int .i64 ((readF s k).2 : Int)]) ∧ Own (fun j => w.heap.size ≤ j) w' 5 1 bo (readF s k).1.length c (bv (readF s k).1) ∧ Kp Noone w w' := by
  obtain ⟨⟨r, hr⟩, hok⟩ := h
  obtain ⟨RES, hRES⟩ : ∃ x, Hid (readF s k = x) := ⟨_, Lib.hid rfl⟩
  rw [hRES.out]
  have HR := hRES.out
  unfold readF at HR
  have HOK := Lib.hid hok
  clear hRES hok
  go_enter Try.func15, Try.ntmps15
  go_wp2_with fail
  refine (bars_at col i p s r k true w hr hk).mono ?_
  rintro e w1 ⟨rfl, k1⟩
  have hr1 := hr.keep k1
  clear hr
  by_cases hz : barsF s k true = 0
  · rw [if_neg (by omega)] at HR
    have e0 : (((barsF s k true : Nat) : Int) != 0) = false := by rw [hz]; rfl
    clear hz
    obtain ⟨ao, c0, hown, hlk⟩ := hr1.lookup k false
    simp only [Bool.false_eq_true, if_false] at hlk
    obtain ⟨⟨q0, -, -, -, -⟩, -⟩ := cells_five hr1.box
    have hgk := HOK.out.get k
    generalize get0 k s.areas = a at *
    obtain ⟨ad, sf⟩ := a
    simp only [] at hown hlk HR hgk
    have HE := Lib.hid HR
    have hbs := hown.bs
    have hfd : ∀ w : World, (Instr.field 69 (.agg #[.slice ao ad.length c0, .int .i64 sf]) 0).run Try.prog w = .ok (.slice ao ad.length c0) w := fun _ => by kernel_rfl
    have HS := Lib.hid k1.size
    have HK1 := Lib.hid k1
    clear HR hown hr1 k1
    go_wp2_with fail
    refine (clone_any ao ad.length c0 ad w1 hbs hgk.2.2).mono ?_
    rintro e w2 ⟨bo, c, rfl, ho, k2⟩
    have HO := Lib.hid (ho.mono (G := fun j => w.heap.size ≤ j) (fun j _ d => Nat.le_trans HS.out d))
    have HK2 := Lib.hid (HK1.out.trans k2)
    clear ho k2 hlk q0 hbs
    go_wp2_with fail
    go_ret2
    have hE := HE.out
    subst hE
    exact ⟨bo, c, rfl, HO.out, HK2.out⟩
  · rw [if_pos hz] at HR
    have e0 : (((barsF s k true : Nat) : Int) != 0) = true := by
      have h : ((barsF s k true : Nat) : Int) ≠ 0 := by omega
      simpa using h
    subst HR
    have HZ := Lib.hid hz
    clear hz
    go_wp2_with fail
    go_ret2
    exact ⟨none, 0, rfl, Own.nil _ _ _ _ _, k1⟩

theorem fuseF_ok {s : DS} (h : DOk s) {n : Int} (hn : n ≤ 9223372036854775807) : DOk (fuseF s n) :=
  ⟨h.room, h.keys, h.len, h.each, h.names, h.steps, by unfold fuseF; simp only []; omega⟩

set_option maxHeartbeats 1000000 in
set_option maxRecDepth 100000 in
theorem fuse_dk (B : Nat) (col : Nat → Nat) (i p : Nat) (s : DS) (n : Int) (w : World) (h : Dk col i w p s) (hc : Cols B w col) (hn : n ≤ 9223372036854775807) :
    Calls Try.prog 13 #[.pointer (some ⟨p, 0, none⟩), .int .i64 n] w fun e w' => e = .returned (.tuple #[]) ∧ ∃ col', Ext B (S3 i) col w col' w' ∧ Dk col' i w' p (fuseF s n) := by
  have hfin := fuseF_ok h.2 hn
  obtain ⟨⟨r, hr⟩, hok⟩ := h
  have H := Lib.hid hr
  have HC := Lib.hid hc
  have HF := Lib.hid hfin
  obtain ⟨⟨q0, q1, q2, q3, q4⟩, qf⟩ := cells_five hr.box
  clear hr hok hc hfin
  go_enter Try.func13, Try.ntmps13
  go_wp2_with fail
  all_goals (
    go_end0
    have k2 : ∀ a, Kp (fun j => j = p) w (w.setCell ⟨p, 3, none⟩ a) := fun a => (Kp.refl (fun j => j = p) w).setCell (fun _ => rfl) _
    refine ⟨rfl, col, box_ext HC.out ((k2 _).mono (fun j _ c => by rw [c, H.out.pc]; unfold S3; omega)), ⟨r, H.out.setBox (k2 _) rfl ?_⟩, HF.out⟩
    exact (heap_set_cell H.out.box).trans (by unfold fuseF; simp <;> omega))

set_option maxHeartbeats 1000000 in
set_option maxRecDepth 100000 in
theorem free_dk (col : Nat → Nat) (i p : Nat) (s : DS) (w : World) (h : Dk col i w p s) :
    Calls Try.prog 17 #[.pointer (some ⟨p, 0, none⟩)] w fun e w' => e = .returned (.int .i64 (s.room - sumF s.areas)) ∧ Kp Noone w w' := by
  obtain ⟨⟨r, hr⟩, hok⟩ := h
  have hsum := hok.sum
  have hrm := hok.room
  have hcl := safe_at col i p s r w.drew (hr.keep ((Kp.refl Noone w).drew)) hok
  have hw : IntKind.i64.wrap (s.room - sumF s.areas) = s.room - sumF s.areas := IntWalk.i64_in _ (by omega)
  have hS : ∀ w', Kp Noone w w' → w'.cell? ⟨p, 1, none⟩ = some (.int .i64 s.room) := fun w' kk => (cells_five (kk.heap hr.box id)).1.2.1
  generalize sumF s.areas = sm at *
  clear hok hr
  go_enter Try.func17, Try.ntmps17
  go_upto_region 3 with fail
  go_region_held3 (fun w' => w'.cell? ⟨p, 1, none⟩ = some (.int .i64 s.room))
    (first | exact hS _ ((Kp.refl Noone w).drew) | exact hS _ (((Kp.refl Noone w).drew).trans k') | assumption)
    (first
      | (go_at_call 33; refine hcl.mono ?_; rintro e w' ⟨rfl, k'⟩))
  have k6 := ((Kp.refl Noone w).drew).trans k'
  go_wp2_with fail
  go_ret
  exact ⟨rfl, k6⟩

set_option maxHeartbeats 1000000 in
theorem steps_dk (col : Nat → Nat) (i p : Nat) (s : DS) (w : World) (h : Dk col i w p s) :
    Calls Try.prog 23 #[.pointer (some ⟨p, 0, none⟩)] w fun e w' => e = .returned (.int .i64 s.steps) ∧ w = w' := by
  obtain ⟨⟨r, hr⟩, -⟩ := h
  obtain ⟨⟨q0, q1, q2, q3, q4⟩, -⟩ := cells_five hr.box
  go_enter Try.func23, Try.ntmps23
  go_wp2_with fail
  go_ret
  exact ⟨rfl, rfl⟩

set_option maxHeartbeats 1000000 in
theorem down_dk (col : Nat → Nat) (i p : Nat) (s : DS) (w : World) (h : Dk col i w p s) :
    Calls Try.prog 24 #[.pointer (some ⟨p, 0, none⟩)] w fun e w' => e = .returned (.bool s.down) ∧ w = w' := by
  obtain ⟨⟨r, hr⟩, -⟩ := h
  obtain ⟨⟨q0, q1, q2, q3, q4⟩, -⟩ := cells_five hr.box
  go_enter Try.func24, Try.ntmps24
  go_wp2_with fail
  go_ret
  exact ⟨rfl, rfl⟩

def listF (s : DS) : List ByteArray := if s.down = true then [] else namesF s
set_option maxHeartbeats 1000000 in
set_option maxRecDepth 100000 in
theorem list_dk (col : Nat → Nat) (i p : Nat) (s : DS) (w : World) (h : Dk col i w p s) :
    Calls Try.prog 25 #[.pointer (some ⟨p, 0, none⟩)] w fun e w' => ∃ no cap, e = .returned (.slice no (listF s).length cap) ∧ Own (fun j => w.heap.size ≤ j) w' 9 1 no (listF s).length cap ((listF s).map Value.string) ∧ Kp Noone w w' := by
  obtain ⟨⟨r, hr⟩, hok⟩ := h
  obtain ⟨⟨q0, q1, q2, q3, q4⟩, -⟩ := cells_five hr.box
  have HL : Hid (∃ x, listF s = x) := Lib.hid ⟨_, rfl⟩
  obtain ⟨x, hx⟩ := HL.out
  have HX := hx
  unfold listF at HX
  have HXX := Lib.hid hx
  rw [hx]
  clear hx HL
  cases hd : s.down with
  | true =>
    rw [hd] at q4 HX
    rw [if_pos rfl] at HX
    subst HX
    go_enter Try.func25, Try.ntmps25
    go_wp2_with fail
    go_ret
    exact ⟨none, 0, rfl, Own.nil _ _ _ _ _, Kp.refl _ _⟩
  | false =>
    rw [hd] at q4 HX
    rw [if_neg (by simp)] at HX
    have HN := Lib.hid HX
    have HR := Lib.hid hr
    have HO := Lib.hid hok
    clear HX hr hok
    go_enter Try.func25, Try.ntmps25
    go_wp2_with fail
    refine (names_at col i p s r w HR.out HO.out).mono ?_
    rw [HN.out]
    rintro e w1 ⟨no, cap, rfl, ho, k1⟩
    go_wp2_with fail
    go_ret
    exact ⟨no, cap, rfl, ho, k1⟩

end Go.Proofs.Ytmmdojnjognccaa
