/-
  DiskOwn: what is handed in and out is nobody else's; a nil disk answers nothing.
-/
import Derived.Test.YtmmdojnjognccaaMount
namespace Go.Proofs.Ytmmdojnjognccaa
open Go.RowKit

/-! ### A nil disk -/

theorem barsNil_any (k : ByteArray) (t : Bool) (w : World) : Calls Try.prog 31 #[.pointer none, .string k, .bool t] w fun e w' => e = .returned (.int .i64 1) ∧ w = w' := by
  go_enter Try.func31, Try.ntmps31
  go_wp2_with fail
  go_ret
  exact ⟨rfl, rfl⟩
theorem appendNil_any (k : ByteArray) (fo : Option Addr) (n cap : Nat) (w : World) : Calls Try.prog 10 #[.pointer none, .string k, .slice fo n cap] w fun e w' => e = .returned (.int .i64 1) ∧ w = w' := by
  go_enter Try.func10, Try.ntmps10
  go_wp2_with fail
  refine (barsNil_any k false w).mono ?_
  rintro e w1 ⟨rfl, rfl⟩
  go_wp2_with fail
  go_ret
  exact ⟨rfl, rfl⟩
theorem syncNil_any (k : ByteArray) (w : World) : Calls Try.prog 12 #[.pointer none, .string k] w fun e w' => e = .returned (.int .i64 1) ∧ w = w' := by
  go_enter Try.func12, Try.ntmps12
  go_wp2_with fail
  refine (barsNil_any k true w).mono ?_
  rintro e w1 ⟨rfl, rfl⟩
  go_wp2_with fail
  go_ret
  exact ⟨rfl, rfl⟩
theorem readNil_any (k : ByteArray) (w : World) : Calls Try.prog 15 #[.pointer none, .string k] w fun e w' => e = .returned (.tuple #[.slice none 0 0, .int .i64 1]) ∧ w = w' := by
  go_enter Try.func15, Try.ntmps15
  go_wp2_with fail
  refine (barsNil_any k true w).mono ?_
  rintro e w1 ⟨rfl, rfl⟩
  go_wp2_with fail
  go_ret2
  exact ⟨rfl, rfl⟩
theorem fuseNil_any (n : Int) (w : World) : Calls Try.prog 13 #[.pointer none, .int .i64 n] w fun e w' => e = .returned (.tuple #[]) ∧ w = w' := by
  go_enter Try.func13, Try.ntmps13
  go_wp2_with fail
  go_end0
  exact ⟨rfl, rfl⟩
set_option maxRecDepth 100000 in
theorem crashNil_any (fo : Option Addr) (n cap : Nat) (w : World) : Calls Try.prog 14 #[.pointer none, .slice fo n cap] w fun e w' => e = .returned (.tuple #[]) ∧ w = w' := by
  go_enter Try.func14, Try.ntmps14
  go_wp2_with fail
  exact bodyPost_ret (results_none rfl _ _ _) rfl ⟨rfl, rfl⟩
theorem freeNil_any (w : World) : Calls Try.prog 17 #[.pointer none] w fun e w' => e = .returned (.int .i64 0) ∧ w = w' := by
  go_enter Try.func17, Try.ntmps17
  go_wp2_with fail
  go_ret
  exact ⟨rfl, rfl⟩
theorem stepsNil_any (w : World) : Calls Try.prog 23 #[.pointer none] w fun e w' => e = .returned (.int .i64 0) ∧ w = w' := by
  go_enter Try.func23, Try.ntmps23
  go_wp2_with fail
  go_ret
  exact ⟨rfl, rfl⟩
theorem downNil_any (w : World) : Calls Try.prog 24 #[.pointer none] w fun e w' => e = .returned (.bool false) ∧ w = w' := by
  go_enter Try.func24, Try.ntmps24
  go_wp2_with fail
  go_ret
  exact ⟨rfl, rfl⟩
theorem listNil_any (w : World) : Calls Try.prog 25 #[.pointer none] w fun e w' => e = .returned (.slice none 0 0) ∧ w = w' := by
  go_enter Try.func25, Try.ntmps25
  go_wp2_with fail
  go_ret
  exact ⟨rfl, rfl⟩
set_option maxRecDepth 100000 in
theorem imageNil_any (w : World) : Calls Try.prog 18 #[.pointer none] w fun e w' => e = .returned (.slice none 0 0) ∧ w = w' := by
  go_enter Try.func18, Try.ntmps18
  go_wp2_with fail
  go_ret
  exact ⟨rfl, rfl⟩

/-! ### The plain law -/

theorem own_plain (b : List UInt8) : ∃ s, mountF 1000000 [(nA, ⟨b, 0⟩)] = (s, 0) ∧ readF s nA = (b, 0) ∧ imageF s = [(nA, ⟨b, 0⟩)] := by
  have hnew : newF 1000000 = { areas := [], room := 1000000, steps := 0, fuse := 0, down := false } := rfl
  have hA : nameOk nA = true := by decide +kernel
  have e1 : mountE (newF 1000000) (nA, ⟨b, 0⟩) = 0 := by
    unfold mountE
    rw [hnew]
    simp [hA, alGet_nil]
  have e2 : mountL [(nA, ⟨b, 0⟩)] (newF 1000000) = ({ areas := [(nA, ⟨b, 0⟩)], room := 1000000, steps := 0, fuse := 0, down := false }, 0) := by
    show (if mountE (newF 1000000) (nA, ⟨b, 0⟩) ≠ 0 then _ else _) = _
    rw [e1, if_neg (by simp), hnew]
    rfl
  refine ⟨{ areas := [(nA, ⟨b, 0⟩)], room := 1000000, steps := 0, fuse := 0, down := false }, ?_, ?_, ?_⟩
  · unfold mountF
    rw [if_neg (by simp), e2, if_neg (by simp), if_neg (by simp [sumF])]
  · unfold readF barsF get0
    simp [hA, alGet_cons]
  · have hs : sortN [nA] = [nA] := by decide +kernel
    show (sortN [nA]).map (fun k => (k, get0 k [(nA, (⟨b, 0⟩ : AreaP))])) = _
    rw [hs]
    simp [get0, alGet_cons]

/-! ### The walk -/

theorem Dk.free {col : Nat → Nat} {i p : Nat} {s : DS} {w w' : World} {F : Nat → Prop} (h : Dk col i w p s) (k : Kp F w w') (hF : ∀ j, F j → col j = 0) : Dk col i w' p s := by
  obtain ⟨⟨r, hr⟩, hi⟩ := h
  exact ⟨⟨r, hr.beside (S := fun c => c = 0) (k.mono (fun j _ c => hF j c)) (fun c a b => by unfold S3 at a; omega)⟩, hi⟩
theorem Ext.free {W w w' : World} {col : Nat → Nat} {F : Nat → Prop} (h : Ext W.heap.size (fun c => c ≠ 0) (fun _ => 0) W col w) (k : Kp F w w') (hF : ∀ j, F j → W.heap.size ≤ j) : Ext W.heap.size (fun c => c ≠ 0) (fun _ => 0) W col w' :=
  ⟨h.cols.keep k.size, h.old, fun _ _ c => c, h.kp.fin k (fun j c => Or.inr (hF j c))⟩
/-- A slice of bytes is being overwritten. -/
structure SetR (F : Nat → Prop) (w0 : World) (ao : Option Addr) (n cap : Nat) (jv : Value) (w : World) : Prop where
  ex : ∃ (j : Nat) (l : List UInt8), jv = .int .i64 (j : Int) ∧ j ≤ n ∧ Own F w 5 1 ao n cap (bv l) ∧ Kp F w0 w

attribute [local irreducible] mountF readF imageF
set_option maxHeartbeats 4000000 in
set_option maxRecDepth 100000 in
theorem diskOwn_walk (bo : Option Addr) (nb cb : Nat) (b : List UInt8) (by_ : UInt8) (W : World) (hb : BS W bo nb cb b) (hnb : nb ≤ 140737488351232) :
    Calls Try.prog 5 #[.slice bo nb cb, .int .u8 (by_.toNat : Int)] W fun e w' => e = .returned (.bool true) ∧ Kp Noone W w' := by
  have hlb := hb.len
  have HB := Lib.hid hb
  clear hb
  have HKW : Hid (∀ (w : World) (col : Nat → Nat), Ext W.heap.size (fun c => c ≠ 0) (fun _ => 0) W col w → Kp Noone W w) := Lib.hid (fun w col X => X.kp.mono (fun j hj c => absurd rfl c))
  obtain ⟨s, hM, hRd, hIm⟩ := own_plain b
  have HM := Lib.hid hM
  have HRD := Lib.hid hRd
  have HIM := Lib.hid hIm
  clear hM hRd hIm
  go_enter Try.func5, Try.ntmps5
  go_wp2_with fail
  refine (head_any _).mono ?_
  rintro e w1 ⟨rfl, k1⟩
  go_wp2_with fail
  refine (copy_exact bo nb cb b _ (HB.out.keep k1) (by omega)).mono ?_
  rintro e w2 ⟨rfl, hw2⟩
  obtain ⟨hb2, k2⟩ := copied2 hw2 hlb (by unfold maxLen; omega)
  have K2 := k1.trans k2
  clear hw2 k1 k2
  have kA : Kp Noone w2 (w2.alloc (.cells #[.string nA, .slice (some ⟨w1.heap.size, 0, none⟩) nb nb, .int .i64 0] 46)) := (Kp.refl _ _).alloc _
  have hAS : AS (w2.alloc (.cells #[.string nA, .slice (some ⟨w1.heap.size, 0, none⟩) nb nb, .int .i64 0] 46)) (some ⟨w2.heap.size, 0, none⟩) 1 1 [(nA, ⟨b, 0⟩)] := by
    refine ⟨rfl, Nat.le_refl _, by simp [maxLen], fun i hi => ?_⟩
    have hi0 : i = 0 := by simp at hi; omega
    subst hi0
    have h3 := heap_alloc_new w2 (.cells #[.string nA, .slice (some ⟨w1.heap.size, 0, none⟩) nb nb, .int .i64 0] 46)
    obtain ⟨z0, z1, z2, -, -, -⟩ := cells_three h3
    exact ⟨w2.heap.size, 0, _, _, _, rfl, (Array.getElem?_eq_some_iff.1 h3).1, z0, z1, z2, hb2.keep kA⟩
  have K3 := K2.trans kA
  have HAS := Lib.hid hAS
  have HK3 := Lib.hid K3
  clear hAS K3 kA K2 hb2
  go_wp2_with fail
  refine (mount_dk W.heap.size (fun _ => 0) 0 1000000 _ 1 1 [(nA, ⟨b, 0⟩)] _ (Cols.zero _ _) HK3.out.size HAS.out (fun j _ c => by unfold S3 at c; omega) (by omega) (fun x hx => by simp at hx; subst hx; simp only []; omega) (fun x hx => by simp at hx; subst hx; show nA.size ≤ _; decide)).mono ?_
  rintro e w4 hmt
  obtain ⟨p, c4, he, x4, hd⟩ := hmt.ex
  rw [HM.out] at he hd
  have d4 := hd rfl
  simp only [if_true] at he d4
  subst he
  have X4 := (Ext.quiet (S := fun c => c ≠ 0) (Cols.zero W.heap.size W) HK3.out).trans (x4.mono (T := fun c => c ≠ 0) (fun c h => by unfold S3 at h; omega))
  clear x4 hd hmt
  go_wp2_with fail
  refine (read_dk c4 0 p s nA _ d4 (by decide)).mono ?_
  rw [HRD.out]
  simp only []
  rw [hlb]
  rintro e w5 ⟨xo, xc, rfl, hx, k5⟩
  have hs5 := k5.size
  have X5 := X4.trans (Ext.quiet X4.cols k5)
  have d5 := d4.keep k5
  have HC4 := Lib.hid X4.cols
  have hz4 : W.heap.size ≤ w4.heap.size := X4.size
  clear X4 d4 k5
  go_wp2_with fail
  refine (image_dk c4 0 p s _ d5).mono ?_
  rw [HIM.out]
  rintro e w6 ⟨io, ic, rfl, him, k6⟩
  have hx6 := (hx.mono (G := fun j => w4.heap.size ≤ j ∧ j < w5.heap.size) (fun j hj c => ⟨c, hj⟩)).keep k6
  have X6 := X5.trans (Ext.quiet X5.cols k6)
  have d6 := d5.keep k6
  have HX6 := Lib.hid X6
  have HD6 := Lib.hid d6
  have HXO := Lib.hid hx6
  have HIMG := Lib.hid him
  clear X5 d5 k6 X6 d6 hx6 him hx
  simp only [List.length_cons, List.length_nil, Nat.zero_add]
  go_wp2_with fail
  go_loopw [42] (fun jv wq => SetR (fun j => w4.heap.size ≤ j ∧ j < w5.heap.size) w6 xo nb xc jv wq) (fun v _ => nb - (intOf v).toNat)
  case atStart => exact SetR.mk ⟨0, b, by rfl, Nat.zero_le _, HXO.out, Kp.refl _ _⟩
  case round =>
    obtain ⟨j, xs, rfl, hj, hor, kq⟩ := hrel.ex
    by_cases hlt2 : j < nb
    · obtain ⟨g, off2, hkl, rfl, hFg, hg, hc, hf, hset⟩ := hor.byte hlt2
      have hwj : IntKind.i64.wrap ((j : Int) + 1) = (j : Int) + 1 := IntWalk.i64_in _ (by omega)
      have hst := Lib.hid (hset by_)
      have HKQ := Lib.hid kq
      have HFG := Lib.hid hFg
      clear hset hor kq
      go_wp2_with fail
      go_roundw
      case rel => exact SetR.mk ⟨j + 1, _, by rfl, by omega, hst.out, HKQ.out.setCell (fun _ => HFG.out) _⟩
      case measure => simp [intOf]; omega
    · have HX7 := Lib.hid (HX6.out.free kq (fun j c => by omega))
      have HD7 := Lib.hid (HD6.out.free kq (fun j c => cols_new HC4.out c.1))
      obtain ⟨hs, A, G, hI⟩ := HIMG.out.kp kq (fun j hz hj c => by omega)
      have hhl := hI.hlen
      obtain ⟨h0, rfl⟩ : ∃ h0, hs = [h0] := by
        match hs, hhl with
        | [h0], _ => exact ⟨h0, rfl⟩
      obtain ⟨ho, hm, hcp⟩ := h0
      have hown := hI.own
      have hdat := hI.data 0 (by simp) (by simp)
      simp only [List.getElem_cons_zero] at hdat
      obtain ⟨g, off, rfl, hAg, hgl, hcell, -⟩ := hown.at (k := 1) (by simp [imgC])
      simp only [imgC, List.getElem_cons_succ, List.getElem_cons_zero] at hcell
      have hmx : hm ≤ 9223372036854775807 := by have h1 := hdat.2.1; have h2 := hdat.2.2.1; unfold maxLen at h2; omega
      have HBASE := Lib.hid (fun j k c => (hI.data0 j k c))
      have HDAT := Lib.hid hdat
      clear hor kq hI hown hdat HIMG
      go_wp2_with fail
      go_loopw [58] (fun jv wq => SetR (G 0) wr ho hm hcp jv wq) (fun v _ => hm - (intOf v).toNat)
      case atStart => exact SetR.mk ⟨0, b, by rfl, Nat.zero_le _, HDAT.out, Kp.refl _ _⟩
      case round =>
        obtain ⟨k, ys, rfl, hk, hor, kp⟩ := hrel.ex
        have hcp2 := kp.cell hcell (fun c => (HBASE.out 0 g c).2 hAg)
        by_cases hlt3 : k < hm
        · obtain ⟨g3, off3, hkl, rfl, hG3, hg3, hc3, hf3, hset⟩ := hor.byte hlt3
          have hwk : IntKind.i64.wrap ((k : Int) + 1) = (k : Int) + 1 := IntWalk.i64_in _ (by omega)
          have hst := Lib.hid (hset by_)
          have HKP := Lib.hid kp
          have HG3 := Lib.hid hG3
          clear hset hor kp
          go_wp2_with fail
          go_roundw
          case rel => exact SetR.mk ⟨k + 1, _, by rfl, by omega, hst.out, HKP.out.setCell (fun _ => HG3.out) _⟩
          case measure => simp [intOf]; omega
        · have HX8 := Lib.hid (HX7.out.free kp (fun j c => by have := (HBASE.out 0 j c).1; omega))
          have HD8 := Lib.hid (HD7.out.free kp (fun j c => cols_new HC4.out (by have := (HBASE.out 0 j c).1; omega)))
          clear hor kp HX7 HD7 HBASE HDAT
          go_wp2_with fail
          refine (read_dk c4 0 p s nA _ HD8.out (by decide)).mono ?_
          rw [HRD.out]
          simp only []
          rw [hlb]
          rintro e w9 ⟨yo, yc, rfl, hy, k9⟩
          have X9 := HX8.out.trans (Ext.quiet HX8.out.cols k9)
          have hbW := HB.out.keep (HKW.out _ _ X9)
          have HY := Lib.hid hy.bs
          have HX9 := Lib.hid X9
          clear hy k9 X9
          go_wp2_with fail
          refine (fuseNil_any 1 _).mono ?_
          rintro e w10 ⟨rfl, rfl⟩
          go_wp2_with fail
          refine (crashNil_any none 0 0 _).mono ?_
          rintro e w11 ⟨rfl, rfl⟩
          go_wp2_with fail
          refine (readNil_any nA _).mono ?_
          rintro e w12 ⟨rfl, rfl⟩
          go_wp2_with fail
          refine (same_any _ _ _ _ _ _ b b _ HY.out hbW (by omega)).mono ?_
          rintro e w13 ⟨rfl, q, rfl⟩
          have he : (b == b) = true := beq_self_eq_true _
          have k13 : Kp Noone w9 (w9.drewN q) := (Kp.refl _ _).drewN q
          generalize w9.drewN q = w13 at *
          go_wp2_with fail
          refine (appendNil_any nA none 0 0 _).mono ?_
          rintro e w14 ⟨rfl, rfl⟩
          go_wp2_with fail
          refine (syncNil_any nA _).mono ?_
          rintro e w15 ⟨rfl, rfl⟩
          go_wp2_with fail
          refine (freeNil_any _).mono ?_
          rintro e w16 ⟨rfl, rfl⟩
          go_wp2_with fail
          refine (stepsNil_any _).mono ?_
          rintro e w17 ⟨rfl, rfl⟩
          go_wp2_with fail
          refine (downNil_any _).mono ?_
          rintro e w18 ⟨rfl, rfl⟩
          go_wp2_with fail
          refine (listNil_any _).mono ?_
          rintro e w19 ⟨rfl, rfl⟩
          go_wp2_with fail
          refine (imageNil_any _).mono ?_
          rintro e w20 ⟨rfl, rfl⟩
          go_wp2_with fail
          go_ret
          exact ⟨rfl, HKW.out _ _ (HX9.out.trans (Ext.quiet HX9.out.cols k13))⟩

set_option maxRecDepth 100000 in
theorem diskOwn_core {H : Type} {enc : TypeId × Value → H} (W : World) (base : Nat) (v0 : Value) (d0 : DataW H) (p0 : List MemPlace) (v1 : Value) (d1 : DataW H) (p1 : List MemPlace)
    (h0 : DataW.Trod enc Try.prog W 0 (fun _ => true) true 22 v0 d0 p0) (h1 : DataW.Trod enc Try.prog W 0 (fun _ => true) true 5 v1 d1 p1)
    (g0 : Value.okWide Try.prog W .any base 22 v0) (g1 : Value.okWide Try.prog W .any base 5 v1)
    (w0 : ∀ n ∈ d0.weights Try.prog 22, n ≤ reachBytes) (_ : ∀ n ∈ d1.weights Try.prog 5, n ≤ reachBytes) :
    Calls Try.prog 5 #[v0, v1] W fun e w' => e = .returned (.bool true) ∧ Kp Noone W w' := by
  obtain ⟨ao, na, ca, a, rfl, ha, hca⟩ := arg_bytesR h0 g0 w0
  obtain ⟨k, rfl⟩ := arg_u8 h1 g1
  have := ha.le
  exact diskOwn_walk ao na ca a k W ha (by omega)

end Go.Proofs.Ytmmdojnjognccaa
