/-
  THE WALK of a disk's Sync.
-/
import Derived.Test.YtmmdojnjognccaaDiskA
import Derived.Deep.RegionHeld3
namespace Go.Proofs.Ytmmdojnjognccaa
open Go.RowKit

theorem syncF_ok {s : DS} (h : DOk s) (k : ByteArray) (hn : s.steps < 4611686018427387904) : DOk (syncF s k).1 := by
  unfold syncF
  split
  · exact h
  · rename_i h1
    split
    · exact h
    · split
      · exact h.step hn
      · obtain ⟨-, hk, hp⟩ := barsF_zero (by omega : barsF s k true = 0)
        have hg := h.get k
        refine (h.step hn).put hk ⟨by simp only []; omega, by simp, hg.2.2⟩ (fun c => ?_)
        rw [stepF_areas] at c
        exact absurd c (hp rfl)

/-- The same, told from the call's start: colours have not changed since; X: what the call has made. -/
theorem put_ext {B : Nat} {col : Nat → Nat} {i : Nat} {w w3 w4 w5 : World} {p : Nat} {s : DS} {r : DR} (hc : Cols B w col) (hB : B ≤ w.heap.size) (k03 : Kp (fun j => S3 i (col j)) w w3) (h : DskAt col i w3 p s r) (k : ByteArray) (e : Ar) {F X : Nat → Prop}
    (hX : ∀ j, X j → w.heap.size ≤ j) (k34 : Kp (fun j => r.G k j ∨ X j) w3 w4) (ho : Own F w4 5 1 e.ao e.data.length e.cap (bv e.data)) (hF : ∀ j, F j → r.G k j ∨ (w3.heap.size ≤ j ∧ j < w4.heap.size) ∨ (col j = i + 3 ∧ ∀ a, ¬ r.G a j))
    (m : MapTo encS w4 w5 r.b (alPut k e.val (mapV r.M))) :
    ∃ col' r', DskAt col' i w5 p (putF s k e.abs) r' ∧ Ext B (S3 i) col w col' w5 := by
  have s03 := k03.size
  obtain ⟨c, r', h1, h2, h3, h4, h5⟩ := h.putX (hc.keep s03) (Nat.le_trans hB s03) k e (X := X) (fun j hj => Classical.byContradiction fun d => by have := hc j d; have := hX j hj; omega) k34 ho hF m
  refine ⟨c, r', h1, h2, fun j hj => h3 j (by omega), fun j hj hn => ?_, k03.fin h5 (fun j c => c.elim Or.inl (fun c => Or.inr (hX j c)))⟩
  by_cases hj3 : j < w3.heap.size
  · rw [h3 j hj3] at hn
    have := hc j hn
    omega
  · exact h4 j (by omega) hn
/-- A call that changed the box alone. -/
theorem box_ext {B : Nat} {col : Nat → Nat} {i : Nat} {w w3 : World} (hc : Cols B w col) (k03 : Kp (fun j => S3 i (col j)) w w3) : Ext B (S3 i) col w col w3 :=
  ⟨hc.keep k03.size, fun _ _ => rfl, fun j hj hn => by have := hc j hn; omega, k03⟩

/-- The local copy of an area, behind a quiet time. -/
theorem keep_cells {w w' : World} {g e : Nat} {a b : Value} (h : w.heap[g]? = some (.cells #[a, b] e (0, 0))) (k : Kp Noone w w') : w'.cell? ⟨g, 0, none⟩ = some a ∧ w'.cell? ⟨g, 1, none⟩ = some b := by
  obtain ⟨h0, h1, -, -⟩ := cells_two (k.heap h id)
  exact ⟨h0, h1⟩

set_option maxHeartbeats 1000000 in
set_option maxRecDepth 100000 in
theorem sync_dk (B : Nat) (col : Nat → Nat) (i p : Nat) (s : DS) (k : ByteArray) (w : World) (h : Dk col i w p s) (hc : Cols B w col) (hBw : B ≤ w.heap.size) (hk : k.size ≤ 9223372036854775807) (hst : s.steps < 4611686018427387904) :
    Calls Try.prog 12 #[.pointer (some ⟨p, 0, none⟩), .string k] w fun e w' => e = .returned (.int .i64 ((syncF s k).2 : Int)) ∧ ∃ col', Ext B (S3 i) col w col' w' ∧ Dk col' i w' p (syncF s k).1 := by
  have hfin := syncF_ok h.2 k hst
  obtain ⟨⟨r, hr⟩, hok⟩ := h
  obtain ⟨RES, hRES⟩ : ∃ x, Hid (syncF s k = x) := ⟨_, Lib.hid rfl⟩
  have HFIN := Lib.hid hfin
  rw [hRES.out] at HFIN ⊢
  have HR := hRES.out
  unfold syncF at HR
  have HOK := Lib.hid hok
  have hstp := hok.steps
  have hfus := hok.fuse
  clear hfin hRES hok
  go_enter Try.func12, Try.ntmps12
  go_wp2_with fail
  refine (bars_at col i p s r k true w hr hk).mono ?_
  rintro e w1 ⟨rfl, k1⟩
  have hr1 := hr.keep k1
  have hc1 := hc.keep k1.size
  have hB1 := Nat.le_trans hBw k1.size
  have E1 := Ext.quiet (S := S3 i) hc k1
  have HC := Lib.hid hc
  have K1 := Lib.hid k1
  clear hr hc k1
  by_cases hz : barsF s k true = 0
  · rw [if_neg (by omega)] at HR
    have e0 : (((barsF s k true : Nat) : Int) != 0) = false := by rw [hz]; rfl
    clear hz
    obtain ⟨ao, c0, hown, hlk⟩ := hr1.lookup k false
    simp only [Bool.false_eq_true, if_false] at hlk
    obtain ⟨⟨q0, -, -, -, -⟩, -⟩ := cells_five hr1.box
    have hgk := HOK.out.get k
    have hsum := HOK.out.sum
    have hrm := HOK.out.room
    generalize get0 k s.areas = a at *
    obtain ⟨ad, sf⟩ := a
    simp only [] at hown hlk HR hgk
    have kA : Kp Noone w1 (w1.alloc (.cells #[.slice ao ad.length c0, .int .i64 sf] 69)) := (Kp.refl _ _).alloc _
    have hAb := heap_alloc_new w1 (.cells #[.slice ao ad.length c0, .int .i64 sf] 69)
    have hrA := hr1.keep kA
    have hownA := hown.keep kA
    have hcA := hc1.keep kA.size
    have hBA := Nat.le_trans hB1 kA.size
    have EA := E1.trans (Ext.quiet hc1 kA)
    have HR' := Lib.hid HR
    have hG1 : Hid (∀ j, r.G k j → j < w1.heap.size) := Lib.hid (fun j hj => (hc1 j (by have := hr1.gcol k j hj; omega)).2)
    have KA := Lib.hid (K1.out.trans kA)
    have hWg : Hid (w.heap.size ≤ w1.heap.size) := Lib.hid K1.out.size
    clear hr1 hown hc1 hB1 E1 kA HR K1
    go_upto_region 5 with fail
    generalize w1.alloc (.cells #[.slice ao ad.length c0, .int .i64 sf] 69) = wA at *
    generalize w1.heap.size = g at *
    clear q0 hlk
    have hw1 : IntKind.i64.wrap (sumF s.areas - sf) = sumF s.areas - sf := IntWalk.i64_in _ (by omega)
    have hw2 : IntKind.i64.wrap (sumF s.areas - sf + (ad.length : Int)) = sumF s.areas - sf + (ad.length : Int) := IntWalk.i64_in _ (by omega)
    have hcl := safe_at col i p s r wA.drew (hrA.keep ((Kp.refl Noone wA).drew)) HOK.out
    have hS : ∀ w', Kp Noone wA w' → w'.cell? ⟨g, 0, none⟩ = some (.slice ao ad.length c0) ∧ w'.cell? ⟨g, 1, none⟩ = some (.int .i64 sf) ∧ w'.cell? ⟨p, 1, none⟩ = some (.int .i64 s.room) := fun w' kk => by
      obtain ⟨x0, x1⟩ := keep_cells hAb kk
      exact ⟨x0, x1, (cells_five (kk.heap hrA.box id)).1.2.1⟩
    generalize hSM : sumF s.areas = sm at *
    have HSM := Lib.hid hSM
    clear hSM
    go_region_held3 (fun w' => w'.cell? ⟨g, 0, none⟩ = some (.slice ao ad.length c0) ∧ w'.cell? ⟨g, 1, none⟩ = some (.int .i64 sf) ∧ w'.cell? ⟨p, 1, none⟩ = some (.int .i64 s.room))
      (first | exact hS _ ((Kp.refl Noone wA).drew) | exact hS _ (((Kp.refl Noone wA).drew).trans k') | assumption)
      (first
        | (go_at_call 33; refine hcl.mono ?_; rintro e w' ⟨rfl, k'⟩))
    have k6 := ((Kp.refl Noone wA).drew).trans k'
    have hA6 := k6.heap hAb id
    have hr6 := hrA.keep k6
    have ho6 := hownA.keep k6
    have K6 := KA.out.trans k6
    clear hcl hS k6 k' hrA hownA hcA hBA EA hAb
    by_cases c42 : s.room < sm - sf + (ad.length : Int)
    · have HR := HR'.out
      rw [if_pos c42] at HR
      subst HR
      have hgt : sm - sf + (ad.length : Int) > s.room := c42
      go_wp2_with fail
      go_ret
      exact ⟨rfl, col, Ext.quiet HC.out K6, ⟨r, hr6⟩, HOK.out⟩
    · have HR := HR'.out
      rw [if_neg c42] at HR
      have HRR := Lib.hid HR
      clear HR HR'
      go_wp2_with fail
      refine (step_at col i p s r w' hr6 hfus ⟨hstp.1, hst⟩).mono ?_
      rintro e w3 ⟨rfl, D3, k3⟩
      have hpw := hr6.pc
      have k03 : Kp (fun j => S3 i (col j)) w w3 := K6.none.trans (k3.mono (fun j _ c => by rw [c, hpw]; unfold S3; omega))
      have hgp : g ≠ p := fun c => by have := (HC.out p (by omega)).2; have := hWg.out; omega
      have hA3 := k3.heap hA6 hgp
      have ho3 := ho6.kp k3 (fun j c d => by have h1 := hr6.gcol k j c; rw [d] at h1; omega)
      have hG3 : Hid (∀ j, r.G k j → j < w.heap.size) := Lib.hid (fun j hj => (HC.out j (by have := hr6.gcol k j hj; omega)).2)
      clear hA6 ho6 K6 k3 hr6
      cases hx : (stepF s).2 with
      | false =>
        have HR := HRR.out
        rw [if_pos hx] at HR
        subst HR
        clear hx
        go_wp2_with fail
        go_ret
        exact ⟨rfl, col, box_ext HC.out k03, ⟨r, D3⟩, HFIN.out⟩
      | true =>
        have HR := HRR.out
        rw [if_neg (by rw [hx]; simp)] at HR
        have HE := Lib.hid HR
        clear HR HRR hx
        have hA4 : (w3.setCell ⟨g, 1, none⟩ (.int .i64 (ad.length : Int))).heap[g]? = some (.cells #[.slice ao ad.length c0, .int .i64 (ad.length : Int)] 69 (0, 0)) := (heap_set_cell hA3).trans (by simp)
        have kset : Kp (fun j => j = g) w3 (w3.setCell ⟨g, 1, none⟩ (.int .i64 (ad.length : Int))) := (Kp.refl (fun j => j = g) w3).setCell (fun _ => rfl) _
        have hD4p := kset.heap D3.box (fun c => hgp c.symm)
        have ho4 := Own.kp ho3 kset (fun j c d => by have := hG3.out j c; have := hWg.out; omega)
        obtain ⟨z0, z1, f0, f1⟩ := cells_two hA3
        obtain ⟨y0, y1, -, -⟩ := cells_two hA4
        obtain ⟨⟨x0, -, -, -, -⟩, -⟩ := cells_five hD4p
        have kd : Kp Noone (w3.setCell ⟨g, 1, none⟩ (.int .i64 (ad.length : Int))) (w3.setCell ⟨g, 1, none⟩ (.int .i64 (ad.length : Int))).drew := (Kp.refl _ _).drew
        have hM4 := (D3.map.kp kset (fun c => by have := (HC.out r.b (by have := D3.bc; omega)).2; have := hWg.out; omega)).kp kd id
        have HO4 := Lib.hid (ho4.keep kd)
        have HK4 := Lib.hid (kset.trans kd.none)
        have HD3 := Lib.hid D3
        have HK03 := Lib.hid k03
        clear hA3 hA4 kset hD4p ho3 ho4 kd D3 k03 hpw
        go_upto_region 10 with fail
        generalize w3.setCell ⟨g, 1, none⟩ (.int .i64 (ad.length : Int)) = w4 at *
        obtain ⟨w5, hrun, hto⟩ := hM4.update (P := Try.prog) (t := 9) (m := 64) (e := 69) keyS Try.underlying64 k (.agg #[.slice ao ad.length c0, .int .i64 (ad.length : Int)])
        simp only [encS] at hrun
        obtain ⟨col5, r5, D5, E5⟩ := put_ext HC.out hBw HK03.out HD3.out k ⟨ad, ad.length, ao, c0⟩ (X := fun j => j = g) (fun j c => by rw [c]; exact hWg.out) (HK4.out.mono (fun j _ c => Or.inr c)) HO4.out (fun j c => Or.inl c) hto
        have HD5 := Lib.hid D5
        have HE5 := Lib.hid E5
        clear hM4 hto D5 E5 HO4 HK4
        go_region
        all_goals (
          go_wp2_with fail
          go_ret
          have hE := HE.out
          subst hE
          exact ⟨rfl, col5, HE5.out, ⟨r5, HD5.out⟩, HFIN.out⟩)
  · rw [if_pos hz] at HR
    have e0 : (((barsF s k true : Nat) : Int) != 0) = true := by
      have h : ((barsF s k true : Nat) : Int) ≠ 0 := by omega
      simpa using h
    subst HR
    have HZ := Lib.hid hz
    clear hz
    go_wp2_with fail
    go_ret
    exact ⟨rfl, col, E1, ⟨r, hr1⟩, HOK.out⟩

end Go.Proofs.Ytmmdojnjognccaa
