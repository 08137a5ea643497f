/-
  SnapPieces: the law.
-/
import Derived.Test.YtigdhdclfdojgaaSnapPiece
import Derived.Test.YtigdhdclfdojgaaRead8
namespace Go.Proofs.Ytigdhdclfdojgaa
open Go.RowKit

theorem take_piece (b : List UInt8) (k : Nat) : b.take k ++ pieceL b (k : Int) = b.take (k + 1024) := by
  unfold pieceL
  rw [if_neg (by omega), Int.toNat_natCast, List.take_add]
theorem sub_piece {w : World} {b0 off n cap k m : Nat} {b : List UInt8} (hb : BS w (some ⟨b0, off, none⟩) n cap b) (hk : k < n) (hm : min 1024 (n - k) = m) : BS w (some ⟨b0, off + k, none⟩) m (cap - k) (pieceL b (k : Int)) := by
  have hlen := hb.len
  have hcap := hb.le
  have hpa := hb.past (m := k) (by omega)
  rw [if_neg (by omega)] at hpa
  have hpt := hpa.take (m := m) (by omega)
  have hP : pieceL b (k : Int) = (b.drop k).take m := by
    unfold pieceL
    rw [if_neg (by omega), Int.toNat_natCast]
    apply List.ext_getElem?
    intro i
    rw [List.getElem?_take, List.getElem?_take]
    by_cases h1 : i < m
    · rw [if_pos h1, if_pos (by omega)]
    · rw [if_neg h1]
      split
      · rw [List.getElem?_eq_none (by rw [List.length_drop, hlen]; omega)]
      · rfl
  rw [Option.map_some, Addr.add_lit] at hpt
  rw [hP]
  exact hpt
/-- Between two pieces. -/
structure PcR (W w0 : World) (n : Nat) (b : List UInt8) (va vi : Value) (wr : World) : Prop where
  ex : ∃ (k : Nat) (ao : Option Addr) (m cap : Nat), vi = .int .i64 (k : Int) ∧ va = .slice ao m cap ∧ k ≤ n + 1024 ∧ m ≤ n ∧ Own (fun j => w0.heap.size ≤ j) wr 5 1 ao m cap (bv (b.take k)) ∧ Kp Noone W wr ∧ w0.heap.size ≤ wr.heap.size

set_option maxHeartbeats 4000000 in
set_option maxRecDepth 100000 in
theorem snapPieces_walk (bo : Option Addr) (n cb : Nat) (b : List UInt8) (a : Int) (W : World) (hb : BS W bo n cb b) (hn : n ≤ 1048576) :
    Calls Try.prog 3 #[.slice bo n cb, .int .i64 a] W fun e w' => e = .returned (.bool true) ∧ Kp Noone W w' := by
  obtain ⟨i0, hi, hz0, hz1, hz2⟩ := info_parts info_u8
  have hlen := hb.len
  have HB := Lib.hid hb
  have HLEN := Lib.hid hlen
  clear hb
  go_enter Try.func3, Try.ntmps3
  go_wp2_with fail
  refine (head_any _).mono ?_
  rintro e w1 ⟨rfl, k1⟩
  have kA : Kp Noone w1 (w1.alloc (.cells #[.int .u8 1, .int .u8 2] 5)) := (Kp.refl _ _).alloc _
  have hb1 : BS (w1.alloc (.cells #[.int .u8 1, .int .u8 2] 5)) (some ⟨w1.heap.size, 0, none⟩) 2 2 [1, 2] := BS.ofHeap (fr := (0, 0)) (heap_alloc_new w1 _) rfl (by simp [maxLen])
  have hp1 := piece_any _ 2 2 [1, 2] 1 _ hb1 (by omega)
  rw [show (pieceL [1, 2] 1).length = 1 from by decide] at hp1
  have HK1 := Lib.hid (k1.trans kA)
  clear hb1 k1 kA
  go_wp2_with fail
  refine hp1.mono ?_
  rintro e w2 ⟨xo, xc, rfl, -, k2⟩
  have HK2 := Lib.hid (HK1.out.trans k2)
  clear k2 hp1
  go_wp2_with fail
  have kB : Kp Noone w2 (w2.alloc (.cells #[] 5)) := (Kp.refl _ _).alloc _
  have hown : Own (fun j => w2.heap.size ≤ j) (w2.alloc (.cells #[] 5)) 5 1 (some ⟨w2.heap.size, 0, none⟩) 0 0 (bv (b.take 0)) := Own.fresh (xs := []) (Nat.le_refl _) (heap_alloc_new w2 (.cells #[] 5)) rfl (by simp [maxLen])
  have HK3 := Lib.hid (HK2.out.trans kB)
  have hs2 := HK2.out.size
  have R0 : Hid (PcR W w2 n b (.slice (some ⟨w2.heap.size, 0, none⟩) 0 0) (.int .i64 0) (w2.alloc (.cells #[] 5))) := Lib.hid ⟨⟨0, _, 0, 0, rfl, rfl, by omega, by omega, hown, HK3.out, kB.size⟩⟩
  generalize w2.alloc (.cells #[] 5) = w3 at *
  clear kB hown
  go_loopw [5, 6] (fun va vi wr => PcR W w2 n b va vi wr) (fun _ vi _ => n + 1024 - (intOf vi).toNat)
  case atStart => exact R0.out
  case round =>
    obtain ⟨k, ao, m, cap, rfl, rfl, hk, hmn, hown, kr, hwr⟩ := hrel.ex
    clear R0 hrel
    by_cases hlt : k < n
    · have hwk : IntKind.i64.wrap ((k : Int) + 1024) = (k : Int) + 1024 := IntWalk.i64_in _ (by omega)
      have hpc := piece_any bo n cb b (k : Int) wr (HB.out.keep kr) hn
      have hpl := pieceL_len b (k : Int)
      rw [if_neg (by omega), HLEN.out, Int.toNat_natCast] at hpl
      obtain ⟨q, hq⟩ : ∃ q, Hid ((pieceL b (k : Int)).length = q) := ⟨_, Lib.hid rfl⟩
      rw [hq.out] at hpc hpl
      have hq1 : 0 < q ∧ q ≤ 1024 := by omega
      have hml : m = k := by
        have h1 := hown.bs.len
        rw [List.length_take, HLEN.out] at h1
        omega
      subst hml
      have hmq : m + q ≤ n := by omega
      have HKR := Lib.hid kr
      have HO := Lib.hid hown
      have hq2 : ¬ (1024 : Int) < (q : Int) := by omega
      have hq3 : ((q : Int) == 0) = false := by simp; omega
      clear hown kr hpl
      go_wp2_with fail
      refine hpc.mono ?_
      rintro e w4 ⟨yo, yc, rfl, hy, k4⟩
      have hs4 : wr.heap.size ≤ w4.heap.size := k4.size
      have HK4 := Lib.hid (HKR.out.trans k4)
      have ho4 := HO.out.keep k4
      have hyb := hy.bs
      clear hpc hy k4
      go_wp2_with (at_builtin; refine wpList_append_gen _ rfl (.tmp 35) (.tmp 36) 22 rfl 5 i0 (.int .u8 0) 1 1 Try.underlying22 hi hz0 hz1 hz2 rfl ao m cap rfl yo q yc rfl (fun j => w2.heap.size ≤ j) (bv (b.take m)) ho4 (bv (pieceL b (m : Int))) (by rw [length_bv, hq.out, Nat.mul_one]) hyb.row (bv_one _) (by omega) (by unfold maxLen; omega) ?_)
      intro zo zc w5 ho5 k5
      rw [bv_append, take_piece] at ho5
      have R : Hid (PcR W w2 n b (.slice zo (m + q) zc) (.int .i64 ((m + 1024 : Nat) : Int)) w5) := Lib.hid ⟨⟨m + 1024, zo, m + q, zc, rfl, rfl, by omega, hmq, ho5.mono (fun j _ c => c.elim id (fun c => by have := c.1; omega)), HK4.out.fin k5 (fun j c => Or.inr (Nat.le_trans hs2 c)), by have := k5.size; omega⟩⟩
      clear ho4 hyb ho5 k5 HO
      go_wp2_with fail
      go_roundw
      case rel => exact R.out
      case measure => simp [intOf]; omega
    · have hall : b.take k = b := List.take_of_length_le (by rw [HLEN.out]; omega)
      rw [hall] at hown
      have hmn2 : m = n := by have := hown.bs.len; rw [HLEN.out] at this; exact this.symm
      subst hmn2
      have hcp := copy_exact bo m cb b wr (HB.out.keep kr) (by omega)
      have HKR := Lib.hid kr
      have HO := Lib.hid hown
      clear kr hown hall
      go_wp2_with fail
      refine hcp.mono ?_
      rintro e w4 ⟨rfl, hw4⟩
      obtain ⟨hb4, k4⟩ := copied2 hw4 HLEN.out (by unfold maxLen; omega)
      clear hw4 hcp
      have hpc := piece_any _ m m b a w4 hb4 hn
      have hpl := pieceL_len b a
      rw [HLEN.out] at hpl
      have HK4 := Lib.hid (HKR.out.trans k4)
      have HO4 := Lib.hid (HO.out.keep k4)
      clear hb4 k4 HO
      have hbb : (b == b) = true := beq_self_eq_true _
      by_cases ha : a < 0 ∨ (m : Int) ≤ a
      · rw [pieceL_nil (by rw [HLEN.out]; exact ha)] at hpc
        simp only [List.length_nil] at hpc
        have hsd : a < 0 ∨ (¬ a < 0 ∧ (m : Int) ≤ a) := by omega
        clear hpl ha
        go_wp2_with fail
        refine hpc.mono ?_
        rintro e w5 ⟨yo, yc, rfl, -, k5⟩
        have HK5 := Lib.hid (HK4.out.trans k5)
        have hO5 := (HO4.out.keep k5).bs
        have hB5 := HB.out.keep HK5.out
        have hsm := same_any _ _ _ _ _ _ b b w5 hO5 hB5 (by omega)
        clear hpc k5 hO5 hB5
        rcases hsd with h1 | ⟨h1, h2⟩
        all_goals (
          go_wp2_with fail
          refine hsm.mono ?_
          rw [hbb]
          rintro e w6 ⟨rfl, q, rfl⟩
          go_wp2_with fail
          go_ret
          exact ⟨rfl, HK5.out.drewN q⟩)
      · obtain ⟨k, rfl⟩ : ∃ k : Nat, a = (k : Int) := ⟨a.toNat, by omega⟩
        have hkn : k < m := by omega
        clear ha
        obtain ⟨b0, off, _, rfl, hbW, _⟩ := HB.out.at (k := 0) (by omega)
        rw [if_neg (by omega), Int.toNat_natCast] at hpl
        obtain ⟨q, hq⟩ : ∃ q, Hid (min 1024 (m - k) = q) := ⟨_, Lib.hid rfl⟩
        rw [hq.out] at hpl
        rw [hpl] at hpc
        have hle := HB.out.le
        have hmx : cb ≤ 9223372036854775807 := by have := HB.out.max; unfold maxLen at this; omega
        have hq1 : q ≤ 1024 ∧ k + q ≤ m := by have := hq.out; omega
        have hwk : IntKind.i64.wrap ((k : Int) + 1024) = (k : Int) + 1024 := IntWalk.i64_in _ (by omega)
        have hmin : min (m : Int) ((k : Int) + 1024) = (k : Int) + (q : Int) := by have := hq.out; omega
        have c1 : (k : Int) + (q : Int) ≤ (cb : Int) := by omega
        have c2 : (k : Int) ≤ (k : Int) + (q : Int) := by omega
        have c3 : ((k : Int) + (q : Int)).toNat - k = q := by omega
        have b2 : ¬ cb = k := by omega
        clear hpl
        go_wp2_with fail
        refine hpc.mono ?_
        rintro e w5 ⟨yo, yc, rfl, hy, k5⟩
        have HK5 := Lib.hid (HK4.out.trans k5)
        have hO5 := (HO4.out.keep k5).bs
        have hB5 := HB.out.keep HK5.out
        have hsm := same_any _ _ _ _ _ _ b b w5 hO5 hB5 (by omega)
        have HS5 := Lib.hid (sub_piece hB5 hkn hq.out)
        have HY := Lib.hid hy.bs
        have hpp : (pieceL b (k : Int) == pieceL b (k : Int)) = true := beq_self_eq_true _
        clear hpc k5 hO5 hB5 hy
        go_wp2_with fail
        refine hsm.mono ?_
        rw [hbb]
        rintro e w6 ⟨rfl, u, rfl⟩
        have ku : Kp Noone w5 (w5.drewN u) := (Kp.refl _ _).drewN u
        have hsm2 := same_any _ _ _ _ _ _ _ _ (w5.drewN u) (HY.out.keep ku) (HS5.out.keep ku) (by omega)
        clear hsm
        go_wp2_with fail
        refine hsm2.mono ?_
        rw [hpp]
        rintro e w7 ⟨rfl, v, rfl⟩
        go_wp2_with fail
        go_ret
        exact ⟨rfl, HK5.out.drewN (u + v)⟩

set_option maxRecDepth 100000 in
/-- The law. -/
theorem snapPieces_core {H : Type} {enc : TypeId × Value → H} (W : World) (base : Nat) (v0 : Value) (d0 : DataW H) (p0 : List MemPlace) (v1 : Value) (d1 : DataW H) (p1 : List MemPlace)
    (h0 : DataW.Trod enc Try.prog W 0 (fun _ => true) true 22 v0 d0 p0) (h1 : DataW.Trod enc Try.prog W 0 (fun _ => true) true 3 v1 d1 p1)
    (g0 : Value.okWide Try.prog W .any base 22 v0) (g1 : Value.okWide Try.prog W .any base 3 v1) (hk : Rows.uptoBulkAll [d0, d1] ≤ 1048576) :
    Calls Try.prog 3 #[v0, v1] W fun e w' => e = .returned (.bool true) ∧ Kp Noone W w' := by
  obtain ⟨ao, na, ca, a, rfl, ha, hca⟩ := arg_bytes h0 g0
  obtain ⟨n, rfl, -⟩ := arg_int h1 g1
  simp only [Rows.uptoBulkAll] at hk
  have := ha.le
  exact snapPieces_walk ao na ca a n W ha (by omega)

end Go.Proofs.Ytigdhdclfdojgaa
