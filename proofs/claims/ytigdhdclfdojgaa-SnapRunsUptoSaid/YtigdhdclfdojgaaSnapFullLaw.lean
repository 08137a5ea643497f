/-
  SnapFull: the law.
-/
import Derived.Test.YtigdhdclfdojgaaSnapFull
namespace Go.Proofs.Ytigdhdclfdojgaa
open Go.RowKit

theorem newF_small (room : Int) : (newF room).steps < 4611686018427387000 := by show (0 : Int) < _; omega
/-- A copy of a text, ready for Save. -/
theorem copy_data {B : Nat} {col : Nat → Nat} {w w' : World} {n : Nat} {l : List UInt8} (hw : w' = w.alloc (.cells (bv l).toArray 5)) (hl : l.length = n) (hn : n ≤ maxLen) (hc : Cols B w col) : DataP (fun j => col j = 0) w' (some ⟨w.heap.size, 0, none⟩) n n l ∧ Kp Noone w w' := by
  obtain ⟨h1, h2⟩ := copied2 hw hl hn
  exact ⟨⟨h1, fun _ a ha => by cases ha; exact ⟨cols_new hc (Nat.le_refl _), by rw [hw, alloc_size]; simp⟩⟩, h2⟩

attribute [local irreducible] saveF loadF cleanF listF newF

set_option maxHeartbeats 4000000 in
set_option maxRecDepth 100000 in
theorem snapFull_walk (room : Int) (fo : Option Addr) (nf cf : Nat) (first : List UInt8) (so : Option Addr) (ns cs : Nat) (second : List UInt8) (W : World) (hf : BS W fo nf cf first) (hs : BS W so ns cs second) (hnf : nf ≤ 1048576) (hns : ns ≤ 1048576) :
    Calls Try.prog 4 #[.int .i64 room, .slice fo nf cf, .slice so ns cs] W fun e w' => e = .returned (.bool true) ∧ Kp Noone W w' := by
  have hfl := hf.len
  have hsl := hs.len
  have HF := Lib.hid hf
  have HS := Lib.hid hs
  have HFL := Lib.hid hfl
  have HSL := Lib.hid hsl
  have HKW : Hid (∀ (w : World) (col : Nat → Nat), Ext W.heap.size (fun c => c ≠ 0) (fun _ => 0) W col w → Kp Noone W w) := Lib.hid (fun w col X => X.kp.mono (fun j hj c => absurd rfl c))
  have HP := Lib.hid (full_plain room first second)
  clear hf hs hfl hsl
  go_enter Try.func4, Try.ntmps4
  go_wp2_with fail
  refine (head_any _).mono ?_
  rintro e w1 ⟨rfl, k1⟩
  have hnw := new_dk W.heap.size (fun _ => 0) 0 room w1 (Cols.zero _ _) k1.size
  have HX1 := Lib.hid (Ext.quiet (S := fun c => c ≠ 0) (Cols.zero W.heap.size W) k1)
  clear k1
  go_wp2_with fail
  refine hnw.mono ?_
  rintro e w2 ⟨p, c2, rfl, x2, d2⟩
  have HX2 := Lib.hid (HX1.out.trans (x2.mono (T := fun c => c ≠ 0) (fun c h => by unfold S3 at h; omega)))
  have hcp := copy_exact fo nf cf first w2 (HF.out.keep (HKW.out _ _ HX2.out)) (by omega)
  clear hnw x2 HX1
  go_wp2_with fail
  refine hcp.mono ?_
  rintro e w3 ⟨rfl, hw3⟩
  obtain ⟨hd3, k3⟩ := copy_data hw3 HFL.out (by unfold maxLen; omega) HX2.out.cols
  have X3 := HX2.out.trans (Ext.quiet HX2.out.cols k3)
  have hsv := save_dk W.heap.size c2 0 p (newF room) 1 (some ⟨w2.heap.size, 0, none⟩) nf nf first w3 (d2.keep k3) X3.cols X3.size hd3 (newF_small room)
  have hst1 := saveF_steps (newF room) 1 first
  have hst0 := newF_small room
  have HX3 := Lib.hid X3
  clear hcp hw3 hd3 k3 X3 d2 HX2
  have HPP := HP.out
  generalize saveF (newF room) 1 first = R1 at *
  obtain ⟨s1, e1⟩ := R1
  simp only [] at hsv hst1
  have HP1 := Lib.hid HPP
  clear HPP HP
  go_wp2_with fail
  refine hsv.mono ?_
  rintro e w4 hto
  obtain ⟨c4, rfl, x4, d4⟩ := hto.ex
  have HX4 := Lib.hid (HX3.out.trans (x4.mono (T := fun c => c ≠ 0) (fun c h => by unfold S3 at h; omega)))
  clear hsv hto x4 HX3
  simp only [] at d4 ⊢
  have second1 : s1.steps ≤ 10 := by
    have h0 : (newF room).steps = 0 := by unfold newF; rfl
    omega
  have second2 : s1.steps < 4611686018427387000 := by omega
  clear hst0 hst1
  cases HP1.out with
  | big h =>
    have h : e1 = 12 := h
    subst h
    clear HP1 d4
    go_wp2_with fail
    go_ret
    exact ⟨rfl, HKW.out _ _ HX4.out⟩
  | none h hc hl =>
    have h : e1 = 42 := h
    subst h
    have hcl := clean_dk W.heap.size c4 0 p s1 w4 d4 HX4.out.cols second2
    simp only [] at hc hl
    generalize cleanF s1 = R at *
    obtain ⟨s2, e2⟩ := R
    simp only [] at hc hl hcl
    subst hc
    clear HP1 d4
    go_wp2_with fail
    refine hcl.mono ?_
    rintro e w5 hto
    obtain ⟨c5, rfl, x5, d5⟩ := hto.ex
    have HX5 := Lib.hid (HX4.out.trans (x5.mono (T := fun c => c ≠ 0) (fun c h => by unfold S3 at h; omega)))
    simp only [] at d5 ⊢
    have hls := list_dk c5 0 p s2 w5 d5
    rw [hl] at hls
    rw [Int.natCast_zero]
    clear hcl hto x5 d5
    go_wp2_with fail
    refine hls.mono ?_
    rintro e w6 ⟨no, nc, rfl, -, k6⟩
    have HX6 := Lib.hid (HX5.out.trans (Ext.quiet HX5.out.cols k6))
    clear hls k6
    go_wp2_with fail
    go_ret
    exact ⟨rfl, HKW.out _ _ HX6.out⟩
  | done h h2 hl hn =>
    have h : e1 = 0 := h
    subst h
    simp only [] at h2 hl hn
    have hcp := copy_exact so ns cs second w4 (HS.out.keep (HKW.out _ _ HX4.out)) (by omega)
    rw [Int.natCast_zero]
    clear HP1
    go_wp2_with fail
    refine hcp.mono ?_
    rintro e w5 ⟨rfl, hw5⟩
    obtain ⟨hd5, k5⟩ := copy_data hw5 HSL.out (by unfold maxLen; omega) HX4.out.cols
    have X5 := HX4.out.trans (Ext.quiet HX4.out.cols k5)
    have hsv := save_dk W.heap.size c4 0 p s1 2 (some ⟨w4.heap.size, 0, none⟩) ns ns second w5 (d4.keep k5) X5.cols X5.size hd5 second2
    have hst2 := saveF_steps s1 2 second
    have HX5 := Lib.hid X5
    clear hcp hw5 hd5 k5 X5 d4 HX4
    generalize saveF s1 2 second = R2 at *
    obtain ⟨s2, e2⟩ := R2
    simp only [] at hsv hst2 h2 hl hn
    subst h2
    go_wp2_with fail
    refine hsv.mono ?_
    rintro e w6 hto
    obtain ⟨c6, rfl, x6, d6⟩ := hto.ex
    have HX6 := Lib.hid (HX5.out.trans (x6.mono (T := fun c => c ≠ 0) (fun c h => by unfold S3 at h; omega)))
    simp only [] at d6 ⊢
    have hld := load_dk c6 0 p s2 w6 d6
    rw [Int.natCast_zero]
    clear hsv hto x6 HX5
    go_wp2_with fail
    refine hld.mono ?_
    rintro e w7 hto
    obtain ⟨bo, c, he, ho, k7⟩ := hto.ex
    rw [hl] at he ho
    simp only [HSL.out] at he ho
    subst he
    have d7 := d6.keep k7
    have HX7 := Lib.hid (HX6.out.trans (Ext.quiet HX6.out.cols k7))
    have hsm := same_any bo so ns c ns cs second second w7 ho.bs (HS.out.keep (HKW.out _ _ HX7.out)) (by omega)
    rw [beq_self_eq_true] at hsm
    clear hld hto ho k7 d6 HX6
    go_wp2_with fail
    refine hsm.mono ?_
    rintro e w8 ⟨rfl, q, rfl⟩
    have kq : Kp Noone w7 (w7.drewN q) := (Kp.refl _ _).drewN q
    have hls := list_dk c6 0 p s2 _ (d7.keep kq)
    rw [hn] at hls
    have HX8 := Lib.hid (HX7.out.trans (Ext.quiet HX7.out.cols kq))
    clear hsm d7 kq HX7
    go_wp2_with fail
    refine hls.mono ?_
    rintro e w9 ⟨no, nc, rfl, -, k9⟩
    have HX9 := Lib.hid (HX8.out.trans (Ext.quiet HX8.out.cols k9))
    clear hls k9
    go_wp2_with fail
    go_ret
    exact ⟨rfl, HKW.out _ _ HX9.out⟩
  | kept h h2 hl hc hn =>
    have h : e1 = 0 := h
    subst h
    simp only [] at h2 hl hc hn
    have hcp := copy_exact so ns cs second w4 (HS.out.keep (HKW.out _ _ HX4.out)) (by omega)
    rw [Int.natCast_zero]
    clear HP1
    go_wp2_with fail
    refine hcp.mono ?_
    rintro e w5 ⟨rfl, hw5⟩
    obtain ⟨hd5, k5⟩ := copy_data hw5 HSL.out (by unfold maxLen; omega) HX4.out.cols
    have X5 := HX4.out.trans (Ext.quiet HX4.out.cols k5)
    have hsv := save_dk W.heap.size c4 0 p s1 2 (some ⟨w4.heap.size, 0, none⟩) ns ns second w5 (d4.keep k5) X5.cols X5.size hd5 second2
    have hst2 := saveF_steps s1 2 second
    have HX5 := Lib.hid X5
    clear hcp hw5 hd5 k5 X5 d4 HX4
    generalize saveF s1 2 second = R2 at *
    obtain ⟨s2, e2⟩ := R2
    simp only [] at hsv hst2 h2 hl hc hn
    go_wp2_with fail
    refine hsv.mono ?_
    rintro e w6 hto
    obtain ⟨c6, rfl, x6, d6⟩ := hto.ex
    have HX6 := Lib.hid (HX5.out.trans (x6.mono (T := fun c => c ≠ 0) (fun c h => by unfold S3 at h; omega)))
    simp only [] at d6 ⊢
    have hld := load_dk c6 0 p s2 w6 d6
    clear hsv hto x6 HX5
    go_wp2_with fail
    refine hld.mono ?_
    rintro e w7 hto
    obtain ⟨bo, c, he, ho, k7⟩ := hto.ex
    rw [hl] at he ho
    simp only [HFL.out] at he ho
    subst he
    have d7 := d6.keep k7
    have HX7 := Lib.hid (HX6.out.trans (Ext.quiet HX6.out.cols k7))
    have hsm := same_any bo fo nf c nf cf first first w7 ho.bs (HF.out.keep (HKW.out _ _ HX7.out)) (by omega)
    rw [beq_self_eq_true] at hsm
    have hst3 : s2.steps < 4611686018427387000 := by omega
    have hcln := fun (w : World) (d : Dk c6 0 w p s2) (hc : Cols W.heap.size w c6) => clean_dk W.heap.size c6 0 p s2 w d hc hst3
    generalize cleanF s2 = R at *
    obtain ⟨s3, e3⟩ := R
    simp only [] at hc hn hcln
    subst hc
    clear hld hto ho k7 d6 HX6
    rcases h2 with rfl | rfl
    all_goals (
      go_wp2_with fail
      refine hsm.mono ?_
      rintro e w8 ⟨rfl, q, rfl⟩
      have kq : Kp Noone w7 (w7.drewN q) := (Kp.refl _ _).drewN q
      have HX8 := Lib.hid (HX7.out.trans (Ext.quiet HX7.out.cols kq))
      have hcl := hcln _ (d7.keep kq) HX8.out.cols
      clear hsm d7 kq HX7 hcln
      generalize w7.drewN q = w8 at *
      go_wp2_with fail
      refine hcl.mono ?_
      rintro e w9 hto
      obtain ⟨c9, rfl, x9, d9⟩ := hto.ex
      have HX9 := Lib.hid (HX8.out.trans (x9.mono (T := fun c => c ≠ 0) (fun c h => by unfold S3 at h; omega)))
      simp only [] at d9 ⊢
      have hls := list_dk c9 0 p s3 w9 d9
      rw [hn] at hls
      rw [Int.natCast_zero]
      clear hcl hto x9 d9 HX8
      go_wp2_with fail
      refine hls.mono ?_
      rintro e w10 ⟨no, nc, rfl, -, k10⟩
      have HX10 := Lib.hid (HX9.out.trans (Ext.quiet HX9.out.cols k10))
      clear hls k10
      go_wp2_with fail
      go_ret
      exact ⟨rfl, HKW.out _ _ HX10.out⟩)

set_option maxRecDepth 100000 in
/-- The law. -/
theorem snapFull_core {H : Type} {enc : TypeId × Value → H} (W : World) (base : Nat) (v0 : Value) (d0 : DataW H) (p0 : List MemPlace) (v1 : Value) (d1 : DataW H) (p1 : List MemPlace) (v2 : Value) (d2 : DataW H) (p2 : List MemPlace)
    (h0 : DataW.Trod enc Try.prog W 0 (fun _ => true) true 3 v0 d0 p0) (h1 : DataW.Trod enc Try.prog W 0 (fun _ => true) true 22 v1 d1 p1) (h2 : DataW.Trod enc Try.prog W 0 (fun _ => true) true 22 v2 d2 p2)
    (g0 : Value.okWide Try.prog W .any base 3 v0) (g1 : Value.okWide Try.prog W .any base 22 v1) (g2 : Value.okWide Try.prog W .any base 22 v2) (hk : Rows.uptoBulkAll [d0, d1, d2] ≤ 1048576) :
    Calls Try.prog 4 #[v0, v1, v2] W fun e w' => e = .returned (.bool true) ∧ Kp Noone W w' := by
  obtain ⟨room, rfl, -⟩ := arg_int h0 g0
  obtain ⟨fo, nf, cf, first, rfl, hf, hcf⟩ := arg_bytes h1 g1
  obtain ⟨so, ns, cs, second, rfl, hs, hcs⟩ := arg_bytes h2 g2
  simp only [Rows.uptoBulkAll] at hk
  have := hf.le
  have := hs.le
  exact snapFull_walk room fo nf cf first so ns cs second W hf hs (by omega) (by omega)

end Go.Proofs.Ytigdhdclfdojgaa
