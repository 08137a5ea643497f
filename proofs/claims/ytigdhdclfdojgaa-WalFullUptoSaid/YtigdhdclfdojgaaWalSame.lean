/-
  THE WALK of the document's Same, at records that are the same.
-/
import Derived.Test.YtigdhdclfdojgaaWalHead
namespace Go.Proofs.Ytigdhdclfdojgaa
open Go.RowKit

/-- A slice of records. -/
def RSl (w : World) (ro : Option Addr) (rc : Nat) (recs : Recs) : Prop := ∃ F P rh, Own F w 76 2 ro recs.length rc (recsV rh) ∧ RecsAt P w rh recs
theorem RSl.keep {w w' : World} {ro : Option Addr} {rc : Nat} {recs : Recs} (h : RSl w ro rc recs) (k : Kp Noone w w') : RSl w' ro rc recs := by
  obtain ⟨F, P, rh, ho, hr⟩ := h
  exact ⟨F, P, rh, ho.keep k, hr.keep k⟩
theorem RSl.at {w : World} {ro : Option Addr} {rc : Nat} {recs : Recs} (h : RSl w ro rc recs) {j : Nat} (hj : j < recs.length) : ∃ g off xo xm xc, ro = some ⟨g, off, none⟩ ∧ w.cell? ⟨g, off + j * 2, none⟩ = some (.int .i64 (recs[j].1 : Int)) ∧ w.cell? ⟨g, off + j * 2 + 1, none⟩ = some (.slice xo xm xc) ∧ BS w xo xm xc recs[j].2 := by
  obtain ⟨F, P, rh, ho, hr⟩ := h
  have hl := hr.len
  have hj2 : j < rh.length := by omega
  have hg := recsV_get rh j hj2
  have hlen := length_recsV rh
  obtain ⟨hi, hd⟩ := hr.get j hj2 hj
  obtain ⟨g, off, rfl, -, -, hc1, -⟩ := ho.at (k := j * 2) (by omega)
  obtain ⟨g2, off2, hgo, -, -, hc2, -⟩ := ho.at (k := j * 2 + 1) (by omega)
  cases hgo
  refine ⟨g, off, rh[j].2.1, rh[j].2.2.1, rh[j].2.2.2, rfl, ?_, ?_, hd.1⟩
  · rw [hc1]
    have h1 := hg.1
    rw [List.getElem?_eq_getElem (by omega), hi] at h1
    exact h1
  · rw [show off + j * 2 + 1 = off + (j * 2 + 1) by omega, hc2]
    have h1 := hg.2
    rw [List.getElem?_eq_getElem (by omega)] at h1
    exact h1

set_option maxHeartbeats 2000000 in
theorem walSame_any (ao : Option Addr) (n cap : Nat) (bo : Option Addr) (n2 bcap : Nat) (L : Recs) (w : World) (ha : RSl w ao cap L) (hb : RSl w bo bcap L) (e1 : L.length = n) (e2 : L.length = n2) (hn : n ≤ 281474976710656) : Calls Try.prog 39 #[.slice ao n cap, .slice bo n2 bcap] w fun e w' => e = .returned (.bool true) ∧ Kp Noone w w' := by
  obtain rfl : n = n2 := by omega
  have HA := Lib.hid ha
  have HB := Lib.hid hb
  clear ha hb e2
  have HN := Lib.hid e1
  clear e1
  go_enter Try.func39, Try.ntmps39
  go_wp2_with fail
  go_loopw [13] (fun v wr => ∃ j : Nat, v = .int .i64 (j : Int) ∧ j ≤ n ∧ Kp Noone w wr) (fun v _ => n - (intOf v).toNat)
  case atStart => exact ⟨0, by rfl, by omega, Kp.refl _ _⟩
  case round =>
    obtain ⟨j, rfl, hj, kr⟩ := hrel
    by_cases hlt : j < n
    · have hjl : j < L.length := by have := HN.out; omega
      obtain ⟨b, off, xo, xm, xc, rfl, c0, c1, hb1⟩ := HA.out.at hjl
      obtain ⟨b2, off2, yo, ym, yc, rfl, d0, d1, hb2⟩ := HB.out.at hjl
      have c0' := kr.cell c0 id
      have c1' := kr.cell c1 id
      have d0' := kr.cell d0 id
      have d1' := kr.cell d1 id
      have hwj : IntKind.i64.wrap ((j : Int) + 1) = (j : Int) + 1 := IntWalk.i64_in _ (by omega)
      generalize L[j].1 = nm at *
      generalize L[j].2 = l at *
      have e3 := hb1.max
      have e4 := hb1.le
      have hxm : xm ≤ 9223372036854775807 := by unfold maxLen at e3; omega
      have B1 := Lib.hid (hb1.keep kr)
      have B2 := Lib.hid (hb2.keep kr)
      clear c0 c1 d0 d1 hb1 hb2 e3 e4
      have he : (l == l) = true := beq_self_eq_true _
      have hne : ((nm : Int) != (nm : Int)) = false := by simp
      have hS : ∀ q, Calls Try.prog 14 #[.slice xo xm xc, .slice yo ym yc] (wr.drewN q) fun e w'' => e = .returned (.bool true) ∧ ∃ m, w'' = (wr.drewN q).drewN m := fun q => by
        have h := same_any xo yo xm xc ym yc _ _ (wr.drewN q) (B1.out.keep ((Kp.refl _ _).drewN q)) (B2.out.keep ((Kp.refl _ _).drewN q)) hxm
        rwa [he] at h
      go_wp2_with fail
      go_quiet ((go_at_call 14; exact Calls.quiet_of (hS _)))
      have kq := kr.drewN nq
      go_wp2_with fail
      go_roundw
      case rel => exact ⟨j + 1, by rfl, by omega, kq⟩
      case measure => simp [intOf]; omega
    · obtain rfl : j = n := by omega
      go_wp2_with fail
      go_ret
      exact ⟨rfl, kr⟩

end Go.Proofs.Ytigdhdclfdojgaa
