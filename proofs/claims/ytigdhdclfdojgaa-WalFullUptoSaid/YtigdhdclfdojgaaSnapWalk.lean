/-
  THE WALK of snap: area, a paper's bytes, how a paper is read.
-/
import Derived.Test.YtigdhdclfdojgaaSnapPlain
import Derived.Test.YtigdhdclfdojgaaPackSeal
import Derived.Deep.RegionHeld3
namespace Go.Proofs.Ytigdhdclfdojgaa
open Go.RowKit

theorem tmod_two (t : Nat) : (t : Int).tmod 2 = ((t % 2 : Nat) : Int) := by
  rw [Int.tmod_eq_emod_of_nonneg (by omega)]
  omega
set_option maxHeartbeats 400000 in
theorem area_any (t : Nat) (w : World) : Calls Try.prog 43 #[.int .i64 (t : Int)] w fun e w' => e = .returned (.string (areaN t)) ∧ w = w' := by
  have h2 := tmod_two t
  have hw : IntKind.i64.wrap ((t : Int).tmod 2) = (t : Int).tmod 2 := IntWalk.i64_in _ (by rw [h2]; omega)
  by_cases h : t % 2 = 0
  · have h3 : (t : Int).tmod 2 = 0 := by rw [h2, h]; rfl
    have h4 : areaN t = ckA := by unfold areaN; rw [if_pos h]
    rw [h4]
    clear h4 h2 h
    go_enter Try.func43, Try.ntmps43
    go_wp2_with fail
    go_ret
    exact ⟨rfl, rfl⟩
  · have h3 : (t : Int).tmod 2 = 1 := by rw [h2]; omega
    have h4 : areaN t = ckB := by unfold areaN; rw [if_neg h]
    rw [h4]
    clear h4 h2 h
    go_enter Try.func43, Try.ntmps43
    go_wp2_with fail
    go_ret
    exact ⟨rfl, rfl⟩

theorem length_sealL (l : List UInt8) : (sealL l).length = l.length + 8 := by unfold sealL; rw [List.length_append, length_eightL]
theorem length_paperL (t sl sum : Nat) : (paperL t sl sum).length ≤ 35 := by
  have h1 := sizeN_le t
  have h2 := sizeN_le sl
  have h3 := sizeN_le sum
  unfold paperL
  rw [length_sealL, List.length_append, List.length_append, length_numL, length_numL, length_numL]
  omega

set_option maxHeartbeats 1000000 in
theorem paper_any (t sl sum : Nat) (w : World) (ht : t ≤ 4611686018427387904) (hs : sl ≤ 4611686018427387904) (hsum : W64 sum) :
    Calls Try.prog 44 #[.agg #[.int .i64 (t : Int), .int .i64 (sl : Int), .int .u64 (sum : Int)]] w fun e w' => ∃ bo c, e = .returned (.slice bo (paperL t sl sum).length c) ∧ Own (Ex Noone w w') w' 5 1 bo (paperL t sl sum).length c (bv (paperL t sl sum)) ∧ Kp Noone w w' := by
  have hwt : IntKind.u64.wrap (t : Int) = (t : Int) := IntWalk.u64_in _ (by omega)
  have hws : IntKind.u64.wrap (sl : Int) = (sl : Int) := IntWalk.u64_in _ (by omega)
  have h1 := sizeN_le t
  have h2 := sizeN_le sl
  have h3 := sizeN_le sum
  have HS := Lib.hid hsum
  obtain ⟨L1, HL1⟩ : ∃ x, Hid ([] ++ numL t = x) := ⟨_, Lib.hid rfl⟩
  obtain ⟨L2, HL2⟩ : ∃ x, Hid (L1 ++ numL sl = x) := ⟨_, Lib.hid rfl⟩
  obtain ⟨L3, HL3⟩ : ∃ x, Hid (L2 ++ numL sum = x) := ⟨_, Lib.hid rfl⟩
  have l1 : L1.length ≤ 9 := by rw [← HL1.out, List.nil_append, length_numL]; omega
  have l2 : L2.length ≤ 18 := by rw [← HL2.out, List.length_append, length_numL]; omega
  have l3 : L3.length ≤ 27 := by rw [← HL3.out, List.length_append, length_numL]; omega
  have hP : paperL t sl sum = L3 ++ eightL (sumN L3) := by
    rw [← HL3.out, ← HL2.out, ← HL1.out]
    rfl
  rw [hP]
  clear hP hsum
  go_enter Try.func44, Try.ntmps44
  have hA := heap_alloc_new w (.cells #[.int .i64 (t : Int), .int .i64 (sl : Int), .int .u64 (sum : Int)] 88)
  have kA : Kp Noone w (w.alloc (.cells #[.int .i64 (t : Int), .int .i64 (sl : Int), .int .u64 (sum : Int)] 88)) := (Kp.refl _ _).alloc _
  go_upto_region 1 with fail
  generalize w.alloc (.cells #[.int .i64 (t : Int), .int .i64 (sl : Int), .int .u64 (sum : Int)] 88) = wA at *
  have kD : Kp Noone w wA.drew := kA.drew
  have hgD := ((Kp.refl Noone wA).drew).heap hA id
  obtain ⟨d0, d1, d2, -, -, -⟩ := cells_three hgD
  have hgl : w.heap.size < wA.drew.heap.size := (Array.getElem?_eq_some_iff.1 hgD).1
  generalize hgx : w.heap.size = gx at *
  clear hA kA hgD
  go_region_held3 (fun w' => w'.cell? ⟨gx, 0, none⟩ = some (.int .i64 (t : Int)) ∧ w'.cell? ⟨gx, 1, none⟩ = some (.int .i64 (sl : Int)) ∧ w'.cell? ⟨gx, 2, none⟩ = some (.int .u64 (sum : Int)))
    (exact ⟨by assumption, by assumption, by assumption⟩)
    (first
      | (go_at_call 78; refine (newWriter_any _).mono ?_; rintro e w' ⟨q, rfl, hwr, kw, hq⟩; have d0 := kw.cell d0 id; have d1 := kw.cell d1 id; have d2 := kw.cell d2 id; have k4 := kD.trans kw; have hwr := hwr.mono (G := fun j => gx < j) (fun j _ c => Nat.lt_of_lt_of_le hgl (Ex.none c).1); have hgl := Nat.lt_of_lt_of_le hgl kw.size)
      | (go_at_call 79; (change Wr _ _ _ [] at hwr); refine (writerNum_any (fun j => gx < j) q [] t _ hwr (by unfold W64; omega) (by simp only [List.length_nil]; omega)).mono ?_; rintro e w' ⟨rfl, hwr, kw⟩; rw [HL1.out] at hwr; have d0 := kw.cell d0 (Nat.lt_irrefl _); have d1 := kw.cell d1 (Nat.lt_irrefl _); have d2 := kw.cell d2 (Nat.lt_irrefl _); have k4 := k4.fin kw (fun j c => Or.inr (by rw [hgx]; exact Nat.le_of_lt c)); have hwr := hwr.mono (G := fun j => gx < j) (fun j _ c => c.elim id (fun c => Nat.lt_of_lt_of_le hgl c.1)); have hgl := Nat.lt_of_lt_of_le hgl kw.size)
      | (go_at_call 79; (change Wr _ _ _ L1 at hwr); refine (writerNum_any (fun j => gx < j) q L1 sl _ hwr (by unfold W64; omega) (by omega)).mono ?_; rintro e w' ⟨rfl, hwr, kw⟩; rw [HL2.out] at hwr; have d0 := kw.cell d0 (Nat.lt_irrefl _); have d1 := kw.cell d1 (Nat.lt_irrefl _); have d2 := kw.cell d2 (Nat.lt_irrefl _); have k4 := k4.fin kw (fun j c => Or.inr (by rw [hgx]; exact Nat.le_of_lt c)); have hwr := hwr.mono (G := fun j => gx < j) (fun j _ c => c.elim id (fun c => Nat.lt_of_lt_of_le hgl c.1)); have hgl := Nat.lt_of_lt_of_le hgl kw.size)
      | (go_at_call 79; (change Wr _ _ _ L2 at hwr); refine (writerNum_any (fun j => gx < j) q L2 sum _ hwr HS.out (by omega)).mono ?_; rintro e w' ⟨rfl, hwr, kw⟩; rw [HL3.out] at hwr; have d0 := kw.cell d0 (Nat.lt_irrefl _); have d1 := kw.cell d1 (Nat.lt_irrefl _); have d2 := kw.cell d2 (Nat.lt_irrefl _); have k4 := k4.fin kw (fun j c => Or.inr (by rw [hgx]; exact Nat.le_of_lt c)); have hwr := hwr.mono (G := fun j => gx < j) (fun j _ c => c.elim id (fun c => Nat.lt_of_lt_of_le hgl c.1)); have hgl := Nat.lt_of_lt_of_le hgl kw.size))
  have HK4 := Lib.hid k4
  clear k4 kD d0 d1 d2 kw
  go_wp2_with fail
  refine (writerBytes_any (fun j => gx < j) q L3 _ hwr (by omega)).mono ?_
  rintro e w5 ⟨bo, c, rfl, ho, k5⟩
  go_wp2_with fail
  refine (seal_any bo L3.length c L3 _ ho.bs (by omega)).mono ?_
  rintro e w6 ⟨co, cc, rfl, ho6, k6⟩
  have hx : L3.length + 8 = (L3 ++ eightL (sumN L3)).length := by rw [List.length_append, length_eightL]
  rw [hx] at ho6
  have HO := Lib.hid ho6
  have HX := Lib.hid hx
  have HK6 := Lib.hid ((HK4.out.trans k5).trans k6)
  have hs45 := HK4.out.size
  have hs5 := k5.size
  clear ho6 hx k5 k6 ho hwr
  go_wp2_with fail
  go_ret
  rw [HX.out]
  exact ⟨co, cc, rfl, HO.out.mono (fun j _ c => Or.inr ⟨by have := (Ex.none c).1; omega, (Ex.none c).2⟩), HK6.out⟩

end Go.Proofs.Ytigdhdclfdojgaa
