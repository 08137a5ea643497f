/-
  SLICES OF AREAS, and the walk of the document's Same on them.
-/
import Derived.Test.YtmmdojnjognccaaImage
namespace Go.Proofs.Ytmmdojnjognccaa
open Go.RowKit

/-- A slice of areas. -/
structure AS (W : World) (ao : Option Addr) (n cap : Nat) (L : Img) : Prop where
  len : L.length = n
  le : n ≤ cap
  max : cap ≤ maxLen
  get : ∀ i (h : i < L.length), ∃ b off bo m c, ao = some ⟨b, off, none⟩ ∧ b < W.heap.size ∧ W.cell? ⟨b, off + i * 3, none⟩ = some (.string L[i].1) ∧ W.cell? ⟨b, off + i * 3 + 1, none⟩ = some (.slice bo m c) ∧
    W.cell? ⟨b, off + i * 3 + 2, none⟩ = some (.int .i64 L[i].2.safe) ∧ BS W bo m c L[i].2.data
theorem AS.keep {W W' : World} {ao : Option Addr} {n cap : Nat} {L : Img} (h : AS W ao n cap L) (k : Kp Noone W W') : AS W' ao n cap L := by
  refine ⟨h.len, h.le, h.max, fun i hi => ?_⟩
  obtain ⟨b, off, bo, m, c, h1, h2, h3, h4, h5, h6⟩ := h.get i hi
  exact ⟨b, off, bo, m, c, h1, Nat.lt_of_lt_of_le h2 k.size, k.cell h3 id, k.cell h4 id, k.cell h5 id, h6.keep k⟩
theorem AS.nil (W : World) (ao : Option Addr) : AS W ao 0 0 [] := ⟨rfl, Nat.le_refl _, by simp [maxLen], fun i h => by simp at h⟩
theorem ImgAt.as {z : Nat} {w : World} {ao : Option Addr} {n cap : Nat} {L : Img} (h : ImgAt z w ao n cap L) : AS w ao n cap L := by
  obtain ⟨hs, A, G, h⟩ := h
  refine ⟨h.len, h.own.2.1, h.own.2.2.1, fun i hi => ?_⟩
  have hih : i < hs.length := by have := h.len; have := h.hlen; omega
  have hl := imgC_length L hs (by have := h.len; have := h.hlen; omega)
  obtain ⟨g1, g2, g3⟩ := imgC_get L hs i hi hih
  have hb := (h.data i hih hi).bs
  rcases h.own.row with h0 | ⟨b, off, rfl, hr⟩
  · rw [h0] at hl; simp at hl; omega
  · have e0 : i * 3 < (imgC L hs).length := by omega
    have e1 : i * 3 + 1 < (imgC L hs).length := by omega
    have e2 : i * 3 + 2 < (imgC L hs).length := by omega
    have c0 := hr _ e0
    have c1 := hr _ e1
    have c2 := hr _ e2
    rw [List.getElem?_eq_getElem e0] at g1
    rw [List.getElem?_eq_getElem e1] at g2
    rw [List.getElem?_eq_getElem e2] at g3
    rw [g1] at c0
    rw [g2] at c1
    rw [g3] at c2
    exact ⟨b, off, _, _, _, rfl, World.block_lt_of_cell? w _ c0, c0, by rw [Nat.add_assoc]; exact c1, by rw [Nat.add_assoc]; exact c2, hb⟩

set_option maxHeartbeats 2000000 in
set_option maxRecDepth 100000 in
theorem refSame_any (ao : Option Addr) (n cap : Nat) (bo : Option Addr) (n2 bcap : Nat) (L : Img) (w : World) (ha : AS w ao n cap L) (hb : AS w bo n2 bcap L) (hn : n ≤ 1048576) : Calls Try.prog 19 #[.slice ao n cap, .slice bo n2 bcap] w fun e w' => e = .returned (.bool true) ∧ Kp Noone w w' := by
  have h1 := ha.len
  have h2 := hb.len
  obtain rfl : n = n2 := by omega
  have HA := Lib.hid ha
  have HB := Lib.hid hb
  clear ha hb h2
  have HN := Lib.hid h1
  clear h1
  go_enter Try.func19, Try.ntmps19
  go_wp2_with fail
  go_loopw [13] (fun v wr => ∃ j : Nat, v = .int .i64 (j : Int) ∧ j ≤ n ∧ Kp Noone w wr) (fun v _ => n - (intOf v).toNat)
  case atStart => exact ⟨0, by rfl, by omega, Kp.refl _ _⟩
  case round =>
    obtain ⟨j, rfl, hj, kr⟩ := hrel
    by_cases hlt : j < n
    · have hjl : j < L.length := by have := HN.out; omega
      obtain ⟨b, off, xo, xm, xc, rfl, hbl, c0, c1, c2, hb1⟩ := HA.out.get j hjl
      obtain ⟨b2, off2, yo, ym, yc, rfl, hbl2, d0, d1, d2, hb2⟩ := HB.out.get j hjl
      have c0' := kr.cell c0 id
      have c1' := kr.cell c1 id
      have c2' := kr.cell c2 id
      have d0' := kr.cell d0 id
      have d1' := kr.cell d1 id
      have d2' := kr.cell d2 id
      have hwj : IntKind.i64.wrap ((j : Int) + 1) = (j : Int) + 1 := IntWalk.i64_in _ (by omega)
      generalize L[j].1 = nm at *
      generalize L[j].2.safe = sf at *
      generalize L[j].2.data = l at *
      have e1 := hb1.len
      have e2 := hb1.le
      have e3 := hb1.max
      have hxm : xm ≤ 9223372036854775807 := by unfold maxLen at e3; omega
      have B1 := Lib.hid (hb1.keep kr)
      have B2 := Lib.hid (hb2.keep kr)
      clear c0 c1 c2 d0 d1 d2 hb1 hb2 e1 e2 e3
      have he : (l == l) = true := beq_self_eq_true _
      have hne : (nm != nm) = false := by show (!(nm == nm)) = false; rw [ba_beq]; simp
      have hsf : (sf != sf) = false := by simp
      have hS : ∀ q, Calls Try.prog 16 #[.slice xo xm xc, .slice yo ym yc] (wr.drewN q) fun e w'' => e = .returned (.bool true) ∧ ∃ m, w'' = (wr.drewN q).drewN m := fun q => by
        have h := same_any xo yo xm xc ym yc _ _ (wr.drewN q) (B1.out.keep ((Kp.refl _ _).drewN q)) (B2.out.keep ((Kp.refl _ _).drewN q)) hxm
        rwa [he] at h
      go_wp2_with fail
      go_quiet ((go_at_call 16; exact Calls.quiet_of (hS _)))
      have kq := kr.drewN nq
      go_wp2_with fail
      go_roundw
      case rel => exact ⟨j + 1, by rfl, by omega, kq⟩
      case measure => simp [intOf]; omega
    · obtain rfl : j = n := by omega
      go_wp2_with fail
      go_ret
      exact ⟨rfl, kr⟩

end Go.Proofs.Ytmmdojnjognccaa
