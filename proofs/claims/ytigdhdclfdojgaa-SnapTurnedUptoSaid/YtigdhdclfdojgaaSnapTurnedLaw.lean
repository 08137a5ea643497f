/-
  SnapTurned: the law.
-/
import Derived.Test.YtigdhdclfdojgaaSnapTurned
import Derived.Test.YtigdhdclfdojgaaSnapFullLaw
namespace Go.Proofs.Ytigdhdclfdojgaa
open Go.RowKit

theorem imgC_turn : ∀ (L : Img) (hs : Hs) (j : Nat) (l : List UInt8) (h : j < L.length), imgC (L.set j (L[j].1, ⟨l, L[j].2.safe⟩)) hs = imgC L hs
  | [], _, _, _, h => by simp at h
  | x :: r, [], 0, l, _ => rfl
  | x :: r, g :: t, 0, l, _ => rfl
  | x :: r, [], j + 1, l, h => rfl
  | x :: r, g :: t, j + 1, l, h => by
    have := imgC_turn r t j l (by simpa using h)
    simpa [imgC] using this
theorem ImgP.slot {z : Nat} {w : World} {ao : Option Addr} {n cap : Nat} {L : Img} {hs : Hs} {A : Nat → Prop} {G : Nat → Nat → Prop} (h : ImgP z w ao n cap L hs A G) {i : Nat} (hi : i < n) :
    ∃ g off, ∃ (h1 : i < hs.length) (h2 : i < L.length), ao = some ⟨g, off, none⟩ ∧ A g ∧ g < w.heap.size ∧ w.cell? ⟨g, off + i * 3 + 1, none⟩ = some (.slice hs[i].1 hs[i].2.1 hs[i].2.2) ∧ Own (G i) w 5 1 hs[i].1 hs[i].2.1 hs[i].2.2 (bv L[i].2.data) := by
  have h1 : i < hs.length := by have := h.hlen; omega
  have h2 : i < L.length := by have := h.len; omega
  have hl := imgC_length L hs (by have := h.len; have := h.hlen; omega)
  obtain ⟨g, off, e, hA, hg, hc, -⟩ := h.own.at (k := i * 3 + 1) (by omega)
  have hg2 := (imgC_get L hs i h2 h1).2.1
  rw [List.getElem?_eq_getElem (by omega)] at hg2
  rw [Option.some.inj hg2, ← Nat.add_assoc] at hc
  exact ⟨g, off, h1, h2, e, hA, hg, hc, h.data i h1 h2⟩
theorem ImgP.turn {z : Nat} {w w' : World} {ao : Option Addr} {n cap : Nat} {L : Img} {hs : Hs} {A : Nat → Prop} {G : Nat → Nat → Prop} (h : ImgP z w ao n cap L hs A G) {j : Nat} (h1 : j < hs.length) (h2 : j < L.length) (l : List UInt8)
    (ho : Own (G j) w' 5 1 hs[j].1 hs[j].2.1 hs[j].2.2 (bv l)) (k : Kp (G j) w w') : AS w' ao n cap (L.set j (L[j].1, ⟨l, L[j].2.safe⟩)) := by
  have hP : ImgP z w' ao n cap (L.set j (L[j].1, ⟨l, L[j].2.safe⟩)) hs A G := by
    refine ⟨h.base, h.data0, h.inj, by rw [List.length_set]; exact h.len, h.hlen, ?_, fun i a b => ?_⟩
    · rw [imgC_turn L hs j l h2]
      exact h.own.kp k (fun x c d => (h.data0 j x d).2 c)
    · by_cases e : j = i
      · subst e
        rw [List.getElem_set_self]
        exact ho
      · rw [List.getElem_set_ne e]
        exact (h.data i a (by rw [List.length_set] at b; exact b)).kp k (fun x c d => e (h.inj j i x d c))
  exact ImgAt.as ⟨hs, A, G, hP⟩
/-- Behind the mount of the turned image. -/
theorem turned_mount (s : Nat) (b : List UInt8) (hs : s ≤ 1099511627776) (hb : b.length ≤ 16384) {i k : Nat} (hi : i < (A1 s b).length) (hk : k < (A1 s b)[i].2.data.length) (c : UInt8) (hc : (A1 s b)[i].2.data[k] ≠ c) :
    ∃ g, mountF 4194304 ((A1 s b).set i ((A1 s b)[i].1, ⟨(A1 s b)[i].2.data.set k c, (A1 s b)[i].2.safe⟩)) = (g, 0) ∧ loadF g = (0, [], false, 44) := by
  have hp := len_pL 1 s b
  match i, hi with
  | 0, _ =>
    refine ⟨_, mount_two ⟨b.set k c, b.length⟩ (full (pL 1 s b)) ⟨by simp, by simp⟩ ⟨by simp [full], by simp [full]⟩ (by simp only [full]; omega), ?_⟩
    exact turned_image s b hs hk c hc _ _
  | 1, _ =>
    refine ⟨_, mount_two (full b) ⟨(pL 1 s b).set k c, (pL 1 s b).length⟩ ⟨by simp [full], by simp [full]⟩ ⟨by simp, by simp⟩ (by simp only [full]; omega), ?_⟩
    exact turned_paper s b hk c hc _ _

attribute [local irreducible] saveF loadF newF mountF imageF

set_option maxHeartbeats 4000000 in
set_option maxRecDepth 100000 in
theorem snapTurned_walk (slot : Int) (fo : Option Addr) (nf cf : Nat) (image : List UInt8) (wh at' : Int) (tb : UInt8) (W : World) (hf : BS W fo nf cf image) (hnf : nf ≤ 1048576) :
    Calls Try.prog 5 #[.int .i64 slot, .slice fo nf cf, .int .i64 wh, .int .i64 at', .int .u8 (tb.toNat : Int)] W fun e w' => e = .returned (.bool true) ∧ Kp Noone W w' := by
  have hfl := hf.len
  have HF := Lib.hid hf
  have HFL := Lib.hid hfl
  have HKW : Hid (∀ (w : World) (col : Nat → Nat), Ext W.heap.size (fun c => c ≠ 0) (fun _ => 0) W col w → Kp Noone W w) := Lib.hid (fun w col X => X.kp.mono (fun j hj c => absurd rfl c))
  clear hf hfl
  go_enter Try.func5, Try.ntmps5
  go_wp2_with fail
  refine (head_any _).mono ?_
  rintro e w1 ⟨rfl, k1⟩
  have hnw := new_dk W.heap.size (fun _ => 0) 0 4194304 w1 (Cols.zero _ _) k1.size
  have HX1 := Lib.hid (Ext.quiet (S := fun c => c ≠ 0) (Cols.zero W.heap.size W) k1)
  clear k1
  go_wp2_with fail
  refine hnw.mono ?_
  rintro e w2 ⟨p, c2, rfl, x2, d2⟩
  have HX2 := Lib.hid (HX1.out.trans (x2.mono (T := fun c => c ≠ 0) (fun c h => by unfold S3 at h; omega)))
  have hcp := copy_exact fo nf cf image w2 (HF.out.keep (HKW.out _ _ HX2.out)) (by omega)
  clear hnw x2 HX1
  go_wp2_with fail
  refine hcp.mono ?_
  rintro e w3 ⟨rfl, hw3⟩
  obtain ⟨hd3, k3⟩ := copy_data hw3 HFL.out (by unfold maxLen; omega) HX2.out.cols
  have X3 := HX2.out.trans (Ext.quiet HX2.out.cols k3)
  have hsv := save_dk W.heap.size c2 0 p (newF 4194304) slot (some ⟨w2.heap.size, 0, none⟩) nf nf image w3 (d2.keep k3) X3.cols X3.size hd3 (newF_small _)
  have HX3 := Lib.hid X3
  clear hcp hw3 hd3 k3 X3 d2 HX2
  by_cases hbad : slot < 0 ∨ 1099511627776 < slot ∨ 16384 < nf
  · have hne : ∃ e1 : Nat, (saveF (newF 4194304) slot image).2 = e1 ∧ ((e1 : Int) != 0) = true := by
      by_cases h1 : slot < 0 ∨ 1099511627776 < slot
      · exact ⟨1, by unfold saveF; rw [if_pos h1], rfl⟩
      · exact ⟨12, by unfold saveF; rw [if_neg h1, if_pos (by rw [HFL.out]; omega)], rfl⟩
    obtain ⟨e1, he1, hne1⟩ := hne
    go_wp2_with fail
    refine hsv.mono ?_
    rintro e w4 hto
    obtain ⟨c4, rfl, x4, -⟩ := hto.ex
    rw [he1]
    have HX4 := Lib.hid (HX3.out.trans (x4.mono (T := fun c => c ≠ 0) (fun c h => by unfold S3 at h; omega)))
    clear hsv hto x4 HX3
    have hval : (decide (slot < 0) || decide (1099511627776 < slot) || decide ((16384 : Int) < (nf : Int))) = true := by
      simp only [Bool.or_eq_true, decide_eq_true_eq]; omega
    have HV := Lib.hid hval
    clear hval
    have hcs : slot < 0 ∨ (¬ slot < 0 ∧ 1099511627776 < slot) ∨ (¬ slot < 0 ∧ ¬ 1099511627776 < slot ∧ 16384 < nf) := by omega
    clear hbad
    rcases hcs with h1 | ⟨h1, h2⟩ | ⟨h1, h2, h3⟩
    all_goals (
      go_wp2_with fail
      go_ret
      refine ⟨?_, HKW.out _ _ HX4.out⟩
      first | rfl | exact congrArg (fun b => Ending.returned (Value.bool b)) HV.out)
  obtain ⟨s, rfl⟩ : ∃ s : Nat, slot = (s : Int) := ⟨slot.toNat, by omega⟩
  have hsl : s ≤ 1099511627776 := by omega
  have hbl : image.length ≤ 16384 := by rw [HFL.out]; omega
  clear hbad
  obtain ⟨st, hse⟩ := save_room s image hsl hbl
  have HTM : Hid (∀ {i k : Nat} (hi : i < (A1 s image).length) (hk : k < (A1 s image)[i].2.data.length) (c : UInt8) (hc : (A1 s image)[i].2.data[k] ≠ c), ∃ g, mountF 4194304 ((A1 s image).set i ((A1 s image)[i].1, ⟨(A1 s image)[i].2.data.set k c, (A1 s image)[i].2.safe⟩)) = (g, 0) ∧ loadF g = (0, [], false, 44)) := Lib.hid (fun hi hk c hc => turned_mount s image hsl hbl hi hk c hc)
  have HPL := Lib.hid (len_pL 1 s image)
  rw [hse] at hsv
  have HBL := Lib.hid hbl
  clear hse hsl hbl
  go_wp2_with fail
  refine hsv.mono ?_
  rintro e w4 hto
  obtain ⟨c4, rfl, x4, d4⟩ := hto.ex
  simp only [] at d4 ⊢
  have HX4 := Lib.hid (HX3.out.trans (x4.mono (T := fun c => c ≠ 0) (fun c h => by unfold S3 at h; omega)))
  have him := image_dk c4 0 p _ w4 d4
  rw [image_A1] at him
  rw [Int.natCast_zero]
  have h2 : (A1 s image).length = 2 := rfl
  rw [h2] at him
  clear hsv hto x4 HX3 d4
  go_wp2_with fail
  refine him.mono ?_
  rintro e w5 ⟨io, ic, rfl, hIA, k5⟩
  have HX5 := Lib.hid (HX4.out.trans (Ext.quiet HX4.out.cols k5))
  have hw45 : W.heap.size ≤ w4.heap.size := HX4.out.size
  clear him k5 HX4
  by_cases hw0 : wh < 0
  · go_wp2_with fail
    go_ret
    exact ⟨rfl, HKW.out _ _ HX5.out⟩
  by_cases hw1 : (1 : Int) < wh
  · go_wp2_with fail
    go_ret
    exact ⟨rfl, HKW.out _ _ HX5.out⟩
  by_cases ha0 : at' < 0
  · go_wp2_with fail
    go_ret
    exact ⟨rfl, HKW.out _ _ HX5.out⟩
  obtain ⟨i, rfl⟩ : ∃ i : Nat, wh = (i : Int) := ⟨wh.toNat, by omega⟩
  obtain ⟨k, rfl⟩ : ∃ k : Nat, at' = (k : Int) := ⟨at'.toNat, by omega⟩
  have hi2 : i < 2 := by omega
  have hi1 : ¬ (1 : Int) < (i : Int) := by omega
  clear hw0 hw1 ha0
  obtain ⟨hs, A, G, hI⟩ := hIA
  obtain ⟨g, off, hh1, hh2, rfl, hAg, hgl, hcell, hown⟩ := hI.slot hi2
  generalize hhd : hs[i] = hd at *
  obtain ⟨xo, xm, xc⟩ := hd
  simp only [] at hcell hown
  have hxm : xm ≤ 9223372036854775807 := by have a1 := hown.2.1; have a2 := hown.2.2.1; unfold maxLen at a2; omega
  have HI := Lib.hid hI
  have HOW := Lib.hid hown
  by_cases hkm : k < xm
  case neg =>
    have hkm2 : (xm : Int) ≤ (k : Int) := by omega
    clear hkm hI hown
    go_wp2_with fail
    go_ret
    exact ⟨rfl, HKW.out _ _ HX5.out⟩
  obtain ⟨g2, off2, hkl, rfl, hG2, hg2, hc2, hf2, hset⟩ := hown.byte hkm
  have hki : (k : Int) < (xm : Int) := by omega
  by_cases hbt : (A1 s image)[i].2.data[k] = tb
  · have hbe : (((A1 s image)[i].2.data[k].toNat : Int) == (tb.toNat : Int)) = true := by rw [hbt]; simp
    generalize (A1 s image)[i].2.data[k] = x at *
    have hx : x.toNat ≤ 255 := by have := x.toNat_lt; omega
    clear hI hown hset hbt
    go_wp2_with fail
    go_ret
    exact ⟨rfl, HKW.out _ _ HX5.out⟩
  have hgz : W.heap.size ≤ g2 := Nat.le_trans hw45 (hI.data0 i g2 hG2).1
  have hHD := Lib.hid hhd
  have HAS := Lib.hid (hI.turn hh1 hh2 _ (by rw [hHD.out]; exact hset tb) ((Kp.refl (G i) w5).setCell (p := ⟨g2, off2 + k, none⟩) (fun _ => hG2) _))
  have HK6 := Lib.hid ((HKW.out _ _ HX5.out).fin ((Kp.refl (fun j => j = g2) w5).setCell (p := ⟨g2, off2 + k, none⟩) (fun _ => rfl) (U8 tb)) (fun j c => Or.inr (by omega)))
  obtain ⟨gs, hm, hl⟩ := HTM.out hh2 hkl tb hbt
  have hall : ∀ x ∈ (A1 s image).set i ((A1 s image)[i].1, ⟨(A1 s image)[i].2.data.set k tb, (A1 s image)[i].2.safe⟩), x.2.data.length ≤ 140737488355328 ∧ x.1.size ≤ 9223372036854775807 := by
    have hin : ∀ x ∈ A1 s image, x.2.data.length ≤ 140737488355328 ∧ x.1.size ≤ 9223372036854775807 := by
      intro x hx
      have h1 := HBL.out
      have h3 := HPL.out
      simp only [A1, List.mem_cons, List.not_mem_nil, or_false] at hx
      rcases hx with rfl | rfl
      · exact ⟨by simp only [full]; omega, by show ckB.size ≤ _; decide⟩
      · exact ⟨by simp only [full]; omega, by show ckNow.size ≤ _; decide⟩
    intro x hx
    rcases List.mem_or_eq_of_mem_set hx with hx | rfl
    · exact hin x hx
    · have := hin _ (List.getElem_mem hh2)
      simp only [List.length_set]
      exact this
  have hmt := mount_dk W.heap.size (fun _ => 0) 0 4194304 (some ⟨g, off, none⟩) 2 ic _ _ (Cols.zero _ _) HK6.out.size HAS.out (fun j _ c => by unfold S3 at c; omega) (by omega) (fun x hx => (hall x hx).1) (fun x hx => (hall x hx).2)
  rw [hm] at hmt
  have HL := Lib.hid hl
  unfold U8 at hmt HK6
  have hbe : (((A1 s image)[i].2.data[k].toNat : Int) == (tb.toNat : Int)) = false := by
    simp only [beq_eq_false_iff_ne, ne_eq]
    intro c
    exact hbt (UInt8.toNat_inj.1 (by omega))
  generalize (A1 s image)[i].2.data[k] = x at *
  have hx : x.toNat ≤ 255 := by have := x.toNat_lt; omega
  have ht : tb.toNat ≤ 255 := by have := tb.toNat_lt; omega
  clear hI hown hset hbt hall hm HTM hl HAS
  go_wp2_with fail
  refine hmt.mono ?_
  rintro e w7 hto
  obtain ⟨p2, c7, he, x7, hd7⟩ := hto.ex
  have d7 := hd7 rfl
  rw [if_pos rfl] at he
  simp only [] at d7
  subst he
  have HX7 := Lib.hid ((Ext.quiet (S := fun c => c ≠ 0) (Cols.zero W.heap.size W) HK6.out).trans (x7.mono (T := fun c => c ≠ 0) (fun c h => by unfold S3 at h; omega)))
  have hld := load_dk c7 0 p2 gs w7 d7
  rw [HL.out] at hld
  clear hmt hto x7 hd7 d7
  go_wp2_with fail
  refine hld.mono ?_
  rintro e w8 hto
  obtain ⟨bo, c, he, -, k8⟩ := hto.ex
  simp only [List.length_nil] at he
  subst he
  have HX8 := Lib.hid (HX7.out.trans (Ext.quiet HX7.out.cols k8))
  clear hld hto k8
  go_wp2_with fail
  go_ret
  exact ⟨rfl, HKW.out _ _ HX8.out⟩

set_option maxRecDepth 100000 in
/-- The law. -/
theorem snapTurned_core {H : Type} {enc : TypeId × Value → H} (W : World) (base : Nat) (v0 : Value) (d0 : DataW H) (p0 : List MemPlace) (v1 : Value) (d1 : DataW H) (p1 : List MemPlace) (v2 : Value) (d2 : DataW H) (p2 : List MemPlace) (v3 : Value) (d3 : DataW H) (p3 : List MemPlace) (v4 : Value) (d4 : DataW H) (p4 : List MemPlace)
    (h0 : DataW.Trod enc Try.prog W 0 (fun _ => true) true 3 v0 d0 p0) (h1 : DataW.Trod enc Try.prog W 0 (fun _ => true) true 22 v1 d1 p1) (h2 : DataW.Trod enc Try.prog W 0 (fun _ => true) true 3 v2 d2 p2) (h3 : DataW.Trod enc Try.prog W 0 (fun _ => true) true 3 v3 d3 p3) (h4 : DataW.Trod enc Try.prog W 0 (fun _ => true) true 5 v4 d4 p4)
    (g0 : Value.okWide Try.prog W .any base 3 v0) (g1 : Value.okWide Try.prog W .any base 22 v1) (g2 : Value.okWide Try.prog W .any base 3 v2) (g3 : Value.okWide Try.prog W .any base 3 v3) (g4 : Value.okWide Try.prog W .any base 5 v4) (hk : Rows.uptoBulkAll [d0, d1, d2, d3, d4] ≤ 1048576) :
    Calls Try.prog 5 #[v0, v1, v2, v3, v4] W fun e w' => e = .returned (.bool true) ∧ Kp Noone W w' := by
  obtain ⟨slot, rfl, -⟩ := arg_int h0 g0
  obtain ⟨fo, nf, cf, image, rfl, hf, hcf⟩ := arg_bytes h1 g1
  obtain ⟨wh, rfl, -⟩ := arg_int h2 g2
  obtain ⟨a, rfl, -⟩ := arg_int h3 g3
  obtain ⟨tb, rfl⟩ := arg_u8 h4 g4
  simp only [Rows.uptoBulkAll] at hk
  have := hf.le
  exact snapTurned_walk slot fo nf cf image wh a tb W hf (by omega)

end Go.Proofs.Ytigdhdclfdojgaa
