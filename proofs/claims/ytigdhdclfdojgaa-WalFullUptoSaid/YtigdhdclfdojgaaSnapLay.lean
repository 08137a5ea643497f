/-
  THE WALK of snap: lay.
-/
import Derived.Test.YtigdhdclfdojgaaSnapRead
import Derived.Test.YtigdhdclfdojgaaRefDiskA
namespace Go.Proofs.Ytigdhdclfdojgaa
open Go.RowKit

theorem Ext.data {B i : Nat} {col col' : Nat → Nat} {w w' : World} {ao : Option Addr} {n cap : Nat} {l : List UInt8} (x : Ext B (S3 i) col w col' w') (h : DataP (fun j => col j = 0) w ao n cap l) : DataP (fun j => col' j = 0) w' ao n cap l :=
  ((h.mono (Q := fun j => col j = 0 ∧ j < w.heap.size) (fun _ hj c => ⟨c, hj⟩)).kp x.kp (fun _ _ c e => by rw [c.1] at e; unfold S3 at e; omega)).mono (fun j _ c => (x.old j c.2).trans c.1)
theorem Own.data0 {B : Nat} {col : Nat → Nat} {w w' : World} {ao : Option Addr} {n cap : Nat} {l : List UInt8} (h : Own (Ex Noone w w') w' 5 1 ao n cap (bv l)) (hc : Cols B w col) : DataP (fun j => col j = 0) w' ao n cap l :=
  (h.mono (G := fun j => col j = 0) (fun _ _ c => cols_new hc (Ex.none c).1)).dataP

/-- A call that answers an error and leaves a disk. -/
structure ErrTo (B : Nat) (col : Nat → Nat) (i p : Nat) (w : World) (R : DS × Nat) (e : Ending) (w' : World) : Prop where
  ex : ∃ col', e = .returned (.int .i64 (R.2 : Int)) ∧ Ext B (S3 i) col w col' w' ∧ Dk col' i w' p R.1

attribute [local irreducible] dropF appendF syncF

set_option maxHeartbeats 2000000 in
set_option maxRecDepth 100000 in
theorem lay_dk (B : Nat) (col : Nat → Nat) (i p : Nat) (s : DS) (k : ByteArray) (fo : Option Addr) (n cap : Nat) (d : List UInt8) (w : World) (h : Dk col i w p s) (hc : Cols B w col) (hBw : B ≤ w.heap.size) (hb : DataP (fun j => col j = 0) w fo n cap d) (hk : k.size ≤ 9223372036854775807) (hst : s.steps < 4611686018427387900) :
    Calls Try.prog 42 #[.pointer (some ⟨p, 0, none⟩), .string k, .slice fo n cap] w fun e w' => ErrTo B col i p w (layF s k d) e w' := by
  obtain ⟨RES, hRES⟩ : ∃ x, Hid (layF s k d = x) := ⟨_, Lib.hid rfl⟩
  rw [hRES.out]
  have HR := hRES.out
  unfold layF at HR
  have hd := drop_dk B col i p s k w h hc hk (by omega)
  have hs1 := dropF_steps s k
  generalize dropF s k = r1 at *
  obtain ⟨s1, e1⟩ := r1
  simp only [] at HR hd hs1
  have HRR := Lib.hid HR
  clear hRES HR h
  go_enter Try.func42, Try.ntmps42
  go_wp2_with fail
  refine hd.mono ?_
  rintro e w1 ⟨rfl, c1, x1, d1⟩
  have hb1 := x1.data hb
  clear hd hb
  by_cases hc1 : e1 ≠ 0 ∧ e1 ≠ 41
  · have HR2 := HRR.out
    rw [if_pos hc1] at HR2
    subst HR2
    have n0 : ((e1 : Int) != 0) = true := by simpa using hc1.1
    have n1 : ((e1 : Int) != 41) = true := by simp; omega
    clear hc1
    go_wp2_with fail
    go_ret
    exact ⟨⟨c1, rfl, x1, d1⟩⟩
  · have HR2 := HRR.out
    rw [if_neg hc1] at HR2
    clear HRR
    have B1 : B ≤ w1.heap.size := Nat.le_trans hBw x1.size
    have ha := append_dk B c1 i p s1 k fo n cap d w1 d1 x1.cols B1 hb1.1 hk (by omega)
    have hs2 := appendF_steps s1 k d
    generalize appendF s1 k d = r2 at *
    obtain ⟨s2, e2⟩ := r2
    simp only [] at HR2 ha hs2
    have HRA := Lib.hid HR2
    clear HR2
    have HX1 := Lib.hid x1
    have h12 : ((e1 : Int) != 0) = false ∨ (((e1 : Int) != 0) = true ∧ ((e1 : Int) != 41) = false) := by
      by_cases h0 : e1 = 0
      · exact Or.inl (by subst h0; rfl)
      · exact Or.inr ⟨by simpa using h0, by simp; omega⟩
    clear x1 d1 hc1
    rcases h12 with n0 | ⟨n0, n1⟩
    all_goals (
      go_wp2_with fail
      refine ha.mono ?_
      rintro e w2 ⟨rfl, c2, x2, d2⟩
      clear ha
      have X2 := HX1.out.trans x2
      by_cases h2 : e2 = 0
      · subst h2
        have HR2 := HRA.out
        rw [if_neg (by simp)] at HR2
        have hsy := sync_dk B c2 i p s2 k w2 d2 X2.cols (Nat.le_trans hBw X2.size) hk (by omega)
        have hs3 := syncF_steps s2 k
        generalize syncF s2 k = r3 at *
        obtain ⟨s3, e3⟩ := r3
        unfold layEnd at HR2
        simp only [] at HR2 hsy hs3
        have HRB := Lib.hid HR2
        have HX2 := Lib.hid X2
        clear HR2 X2 x2 d2
        rw [Int.natCast_zero]
        go_wp2_with fail
        refine hsy.mono ?_
        rintro e w3 ⟨rfl, c3, x3, d3⟩
        clear hsy
        have X3 := HX2.out.trans x3
        by_cases h3 : e3 = 42
        · subst h3
          have HR3 := HRB.out
          rw [if_pos rfl] at HR3
          have hd4 := drop_dk B c3 i p s3 k w3 d3 X3.cols hk (by omega)
          generalize dropF s3 k = r4 at *
          obtain ⟨s4, e4⟩ := r4
          simp only [] at HR3 hd4
          have HRC := Lib.hid HR3
          have HX3 := Lib.hid X3
          clear HR3 X3 x3 d3
          go_wp2_with fail
          refine hd4.mono ?_
          rintro e w4 ⟨rfl, c4, x4, d4⟩
          clear hd4
          have HX4 := Lib.hid (HX3.out.trans x4)
          clear x4
          by_cases h4 : e4 = 0
          · subst h4
            have HR4 := HRC.out
            rw [if_neg (by simp)] at HR4
            subst HR4
            rw [Int.natCast_zero]
            go_wp2_with fail
            go_ret
            exact ⟨⟨c4, rfl, HX4.out, d4⟩⟩
          · have HR4 := HRC.out
            rw [if_pos h4] at HR4
            subst HR4
            have n4 : ((e4 : Int) != 0) = true := by simpa using h4
            go_wp2_with fail
            go_ret
            exact ⟨⟨c4, rfl, HX4.out, d4⟩⟩
        · have HR3 := HRB.out
          rw [if_neg h3] at HR3
          subst HR3
          have n3 : ((e3 : Int) == 42) = false := by simp; omega
          have HX3 := Lib.hid X3
          clear X3 x3
          go_wp2_with fail
          go_ret
          exact ⟨⟨c3, rfl, HX3.out, d3⟩⟩
      · have HR2 := HRA.out
        rw [if_pos h2] at HR2
        subst HR2
        have n2 : ((e2 : Int) != 0) = true := by simpa using h2
        have HX2 := Lib.hid X2
        clear X2 x2
        go_wp2_with fail
        go_ret
        exact ⟨⟨c2, rfl, HX2.out, d2⟩⟩)

end Go.Proofs.Ytigdhdclfdojgaa
