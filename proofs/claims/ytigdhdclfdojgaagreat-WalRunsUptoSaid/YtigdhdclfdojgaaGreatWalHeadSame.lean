/-
  WalHead, WalSame in one text.
-/
import Derived.Test.YtigdhdclfdojgaaGreatWalSmall
/-
  wal: THE WALK of the laws' head.
-/
namespace Go.Proofs.YtigdhdclfdojgaaGreat
open Go.RowKit

def wr1 : DS × LogP × Nat := beginF (newF 1000) (freshL 100) 1 1
def wr2 : DS × LogP × Nat × Nat := appendLF wr1.1 wr1.2.1 [7, 7]
theorem wh_1 : wr1.2.2 = 0 := by decide +kernel
theorem wh_2 : wr2.2.2.1 = 1 ∧ wr2.2.2.2 = 0 ∧ wr2.2.1.next = 2 := by decide +kernel
theorem wh_3 : wr2.1.areas.map (fun x => (x.1, x.2.data.length, x.2.safe)) = [(walName 1, 26, 14)] := by decide +kernel
theorem wh_s : wr1.1.steps < 4611686018427387000 ∧ wr1.2.1.next < 4611686018427387000 ∧ wr1.2.1.size < 4611686018427380000 ∧ wr1.2.1.pieces.length ≤ 1000000 := by decide +kernel
theorem wh_ok : LOk wr1.2.1 := ⟨by decide +kernel, by decide +kernel, by decide +kernel, by decide +kernel, by decide +kernel, by decide +kernel, by decide +kernel⟩
theorem wh_open : openF (newF 1000) 100 = (wr1.1, some (wr1.2.1, []), 0) := by
  rw [openF_new]
  show openNew wr1 = _
  unfold openNew
  rw [if_neg (by rw [wh_1]; simp)]
theorem sortN_one (k : ByteArray) : sortN [k] = [k] := by
  unfold sortN
  simp [ofL, toL]
theorem wh_img : ∃ a, imageF wr2.1 = [(walName 1, a)] ∧ a.data.length = 26 ∧ a.safe = 14 := by
  have h := wh_3
  obtain ⟨x, hx⟩ : ∃ x, wr2.1.areas = [x] := by
    generalize wr2.1.areas = A at *
    cases A with
    | nil => cases h
    | cons x r =>
      cases r with
      | nil => exact ⟨x, rfl⟩
      | cons y r => simp at h
  rw [hx] at h
  simp only [List.map_cons, List.map_nil, List.cons.injEq, and_true, Prod.mk.injEq] at h
  refine ⟨get0 x.1 wr2.1.areas, ?_, ?_, ?_⟩
  · unfold imageF namesF
    rw [hx]
    simp only [List.map_cons, List.map_nil]
    rw [sortN_one, h.1]
    rfl
  · rw [hx]; unfold get0; rw [alGet_cons, if_pos rfl]; exact h.2.1
  · rw [hx]; unfold get0; rw [alGet_cons, if_pos rfl]; exact h.2.2

attribute [local irreducible] openF newF appendLF wr1 wr2 imageF walName

set_option maxHeartbeats 4000000 in
set_option maxRecDepth 100000 in
theorem head9_any (W : World) : Calls Tryz.prog 4 #[] W fun e w' => e = .returned (.bool true) ∧ Kp Noone W w' := by
  obtain ⟨s1, s2, s3, s4⟩ := wh_s
  have S := Lib.hid (And.intro s1 (And.intro s2 (And.intro s3 s4)))
  clear s1 s2 s3 s4
  go_enter Tryz.func4, Tryz.ntmps4
  go_wp2_with fail
  refine (new_dk W.heap.size (fun _ => 0) 0 1000 W (Cols.zero _ _) (Nat.le_refl _)).mono ?_
  rintro e w1 ⟨p, c1, rfl, x1, d1⟩
  have X1 := Lib.hid (x1.mono (T := fun c => c ≠ 0) (fun c h => by unfold S3 at h; omega))
  have hop := open_l W.heap.size 5 0 c1 w1 p (newF 1000) 100 d1 x1.cols x1.size (by omega) (by decide +kernel) (fun k => (SmallD.new 1000).read k)
  clear x1 d1
  go_wp2_with fail
  refine hop.mono ?_
  clear hop
  rintro e w2 hto
  obtain ⟨c2, x2, d2, hcase⟩ := hto.ex
  rw [wh_open] at hcase d2
  rcases hcase with ⟨h, -⟩ | ⟨l, recs, q, ro, rc, rh, he, -, rfl, hq, hlg, -, -⟩
  · cases h
  cases he
  simp only [List.length_nil]
  have X2 := Lib.hid (X1.out.trans (x2.mono (T := fun c => c ≠ 0) (fun c h => by unfold SL S3 at h; omega)))
  clear hto x2 d2 X1
  have kA : Kp Noone w2 (w2.alloc (.cells #[.int .u8 7, .int .u8 7] 5)) := (Kp.refl _ _).alloc _
  have hb1 : BS (w2.alloc (.cells #[.int .u8 7, .int .u8 7] 5)) (some ⟨w2.heap.size, 0, none⟩) 2 2 [7, 7] := BS.ofHeap (fr := (0, 0)) (heap_alloc_new w2 _) rfl (by simp [maxLen])
  have hD1 : DataP (fun j => c2 j = 0) (w2.alloc (.cells #[.int .u8 7, .int .u8 7] 5)) (some ⟨w2.heap.size, 0, none⟩) 2 2 [7, 7] :=
    ⟨hb1, fun _ a ha => by cases ha; exact ⟨cols_new X2.out.cols (Nat.le_refl _), by rw [alloc_size]; simp⟩⟩
  have hap := append_l W.heap.size 5 0 c2 _ p q wr1.1 wr1.2.1 (some ⟨w2.heap.size, 0, none⟩) 2 2 [7, 7] (hlg.keep kA) wh_ok (X2.out.cols.keep kA.size) (Nat.le_trans X2.out.size kA.size) (by omega) hD1 S.out.1 S.out.2.1 S.out.2.2.1 S.out.2.2.2
  obtain ⟨g1, g2, g3⟩ := wh_2
  have hap : Calls Tryz.prog 21 #[.pointer (some ⟨q, 0, none⟩), .slice (some ⟨w2.heap.size, 0, none⟩) 2 2] (w2.alloc (.cells #[.int .u8 7, .int .u8 7] 5)) fun e w' => LgTo W.heap.size 5 0 c2 (w2.alloc (.cells #[.int .u8 7, .int .u8 7] 5)) p q wr2.1 wr2.2.1 (.tuple #[.int .i64 1, .int .i64 0]) e w' := hap.mono (fun e w' H => by
    have e1 : appendLF wr1.1 wr1.2.1 [7, 7] = wr2 := by unfold wr2; rfl
    rw [e1, g1, g2] at H
    exact H)
  have X2A := Lib.hid (X2.out.trans (Ext.quiet X2.out.cols kA))
  clear hlg hb1 hD1 kA X2 g1 g2
  go_wp2_with fail
  refine hap.mono ?_
  clear hap
  rintro e w3 hto
  obtain ⟨c3, rfl, x3, h3⟩ := hto.ex
  have X3 := Lib.hid (X2A.out.trans (x3.mono (T := fun c => c ≠ 0) (fun c h => by unfold SL S3 at h; omega)))
  have him := image_dk c3 0 p _ w3 h3.dk
  obtain ⟨a, hi, ha1, ha2⟩ := wh_img
  rw [hi] at him
  have H3 := Lib.hid h3
  have hnx := fun W (k : Kp Noone w3 W) => next_l 5 0 c3 W p q _ _ (h3.keep k)
  rw [g3] at hnx
  clear hto x3 h3 X2A hi
  go_wp2_with fail
  refine him.mono ?_
  clear him
  rintro e w4 ⟨ao, cap, rfl, him, k4⟩
  have hnx := hnx w4 k4
  have X4 := Lib.hid (X3.out.trans (Ext.quiet X3.out.cols k4))
  obtain ⟨hs, A, G, hI⟩ := him
  have hlen := hI.hlen
  have hw1 : walName 1 = ⟨#[119, 97, 108, 45, 48, 48, 48, 48, 48, 49]⟩ := by unfold walName; decide +kernel
  have hown := hI.own
  obtain ⟨f, rfl⟩ : ∃ f, hs = [f] := by
    cases hs with
    | nil => cases hlen
    | cons f r =>
      cases r with
      | nil => exact ⟨f, rfl⟩
      | cons y r => simp at hlen
  have hfl := (hI.data 0 (by simp) (by simp)).1
  obtain ⟨fo, fn, fc⟩ := f
  simp only [List.getElem_cons_zero, length_bv] at hfl
  have hfn : fn = 26 := by omega
  subst hfn
  have hrow : imgC [(walName 1, a)] [(fo, 26, fc)] = [.string (walName 1), .slice fo 26 fc, .int .i64 a.safe] := rfl
  rw [hrow, ha2, hw1] at hown
  obtain ⟨g, off, rfl, -, -, y0, -⟩ := hown.at (k := 0) (by simp)
  obtain ⟨g', off', hgo, -, -, y1, -⟩ := hown.at (k := 1) (by simp)
  cases hgo
  obtain ⟨g', off', hgo, -, -, y2, -⟩ := hown.at (k := 2) (by simp)
  cases hgo
  simp only [List.getElem_cons_zero, List.getElem_cons_succ, Nat.add_zero] at y0 y1 y2
  simp only [List.length_cons, List.length_nil, Nat.zero_add]
  clear hown hrow hI hlen hw1 hfl k4
  go_wp2_with fail
  refine hnx.mono ?_
  rintro e w5 ⟨rfl, rfl⟩
  go_wp2_with fail
  go_ret
  exact ⟨rfl, X4.out.kp.mono (fun j hj c => absurd rfl c)⟩

end Go.Proofs.YtigdhdclfdojgaaGreat

/-
  THE WALK of the document's Same, at records that are the same.
-/
namespace Go.Proofs.YtigdhdclfdojgaaGreat
open Go.RowKit

/-- A slice of records. -/
def RSl (w : World) (ro : Option Addr) (rc : Nat) (recs : Recs) : Prop := ∃ F P rh, Own F w 118 2 ro recs.length rc (recsV rh) ∧ RecsAt P w rh recs
theorem RSl.keep {w w' : World} {ro : Option Addr} {rc : Nat} {recs : Recs} (h : RSl w ro rc recs) (k : Kp Noone w w') : RSl w' ro rc recs := by
  obtain ⟨F, P, rh, ho, hr⟩ := h
  exact ⟨F, P, rh, ho.keep k, hr.keep k⟩
theorem RSl.at {w : World} {ro : Option Addr} {rc : Nat} {recs : Recs} (h : RSl w ro rc recs) {j : Nat} (hj : j < recs.length) : ∃ g off xo xm xc, ro = some ⟨g, off, none⟩ ∧ w.cell? ⟨g, off + j * 2, none⟩ = some (.int .i64 (recs[j].1 : Int)) ∧ w.cell? ⟨g, off + j * 2 + 1, none⟩ = some (.slice xo xm xc) ∧ BS w xo xm xc recs[j].2 := by
  obtain ⟨F, P, rh, ho, hr⟩ := h
  have hl := hr.len
  have hj2 : j < rh.length := by omega
  have hg := recsV_get rh j hj2
  have hlen := length_recsV rh
  obtain ⟨hi, hd⟩ := hr.get j hj2 hj
  obtain ⟨g, off, rfl, -, -, hc1, -⟩ := ho.at (k := j * 2) (by omega)
  obtain ⟨g2, off2, hgo, -, -, hc2, -⟩ := ho.at (k := j * 2 + 1) (by omega)
  cases hgo
  refine ⟨g, off, rh[j].2.1, rh[j].2.2.1, rh[j].2.2.2, rfl, ?_, ?_, hd.1⟩
  · rw [hc1]
    have h1 := hg.1
    rw [List.getElem?_eq_getElem (by omega), hi] at h1
    exact h1
  · rw [show off + j * 2 + 1 = off + (j * 2 + 1) by omega, hc2]
    have h1 := hg.2
    rw [List.getElem?_eq_getElem (by omega)] at h1
    exact h1

set_option maxHeartbeats 2000000 in
theorem walSame_any (ao : Option Addr) (n cap : Nat) (bo : Option Addr) (n2 bcap : Nat) (L : Recs) (w : World) (ha : RSl w ao cap L) (hb : RSl w bo bcap L) (e1 : L.length = n) (e2 : L.length = n2) (hn : n ≤ 281474976710656) : Calls Tryz.prog 32 #[.slice ao n cap, .slice bo n2 bcap] w fun e w' => e = .returned (.bool true) ∧ Kp Noone w w' := by
  obtain rfl : n = n2 := by omega
  have HA := Lib.hid ha
  have HB := Lib.hid hb
  clear ha hb e2
  have HN := Lib.hid e1
  clear e1
  go_enter Tryz.func32, Tryz.ntmps32
  go_wp2_with fail
  go_loopw [13] (fun v wr => ∃ j : Nat, v = .int .i64 (j : Int) ∧ j ≤ n ∧ Kp Noone w wr) (fun v _ => n - (intOf v).toNat)
  case atStart => exact ⟨0, by rfl, by omega, Kp.refl _ _⟩
  case round =>
    obtain ⟨j, rfl, hj, kr⟩ := hrel
    by_cases hlt : j < n
    · have hjl : j < L.length := by have := HN.out; omega
      obtain ⟨b, off, xo, xm, xc, rfl, c0, c1, hb1⟩ := HA.out.at hjl
      obtain ⟨b2, off2, yo, ym, yc, rfl, d0, d1, hb2⟩ := HB.out.at hjl
      have c0' := kr.cell c0 id
      have c1' := kr.cell c1 id
      have d0' := kr.cell d0 id
      have d1' := kr.cell d1 id
      have hwj : IntKind.i64.wrap ((j : Int) + 1) = (j : Int) + 1 := IntWalk.i64_in _ (by omega)
      generalize L[j].1 = nm at *
      generalize L[j].2 = l at *
      have e3 := hb1.max
      have e4 := hb1.le
      have hxm : xm ≤ 9223372036854775807 := by unfold maxLen at e3; omega
      have B1 := Lib.hid (hb1.keep kr)
      have B2 := Lib.hid (hb2.keep kr)
      clear c0 c1 d0 d1 hb1 hb2 e3 e4
      have he : (l == l) = true := beq_self_eq_true _
      have hne : ((nm : Int) != (nm : Int)) = false := by simp
      have hS : ∀ q, Calls Tryz.prog 33 #[.slice xo xm xc, .slice yo ym yc] (wr.drewN q) fun e w'' => e = .returned (.bool true) ∧ ∃ m, w'' = (wr.drewN q).drewN m := fun q => by
        have h := same_any xo yo xm xc ym yc _ _ (wr.drewN q) (B1.out.keep ((Kp.refl _ _).drewN q)) (B2.out.keep ((Kp.refl _ _).drewN q)) hxm
        rwa [he] at h
      go_wp2_with fail
      go_quiet ((go_at_call 33; exact Calls.quiet_of (hS _)))
      have kq := kr.drewN nq
      go_wp2_with fail
      go_roundw
      case rel => exact ⟨j + 1, by rfl, by omega, kq⟩
      case measure => simp [intOf]; omega
    · obtain rfl : j = n := by omega
      go_wp2_with fail
      go_ret
      exact ⟨rfl, kr⟩

end Go.Proofs.YtigdhdclfdojgaaGreat

