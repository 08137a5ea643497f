/-
  wal: THE WALKS of frame, header, begins.
-/
import Derived.Test.YtigdhdclfdojgaaGreatWalPlain
import Derived.Deep.RegionHeld3
namespace Go.Proofs.YtigdhdclfdojgaaGreat
open Go.RowKit

/-- New bytes. -/
structure FreshTo (w : World) (l : List UInt8) (e : Ending) (w' : World) : Prop where
  ex : ∃ bo c, e = .returned (.slice bo l.length c) ∧ Own (fun j => w.heap.size ≤ j) w' 5 1 bo l.length c (bv l) ∧ Kp Noone w w'

set_option maxHeartbeats 1000000 in
theorem frame_w (ao : Option Addr) (n cap : Nat) (d : List UInt8) (w : World) (hb : BS w ao n cap d) (hn : n ≤ 1048576) :
    Calls Tryz.prog 54 #[.slice ao n cap] w fun e w' => FreshTo w (frameL d) e w' := by
  have hlen := hb.len
  have hF : [] ++ numL (d.length + 8) ++ (d ++ eightL (sumN d)) = frameL d := rfl
  have hfl := frameL_le d
  rw [hlen] at hF
  obtain ⟨FL, hFL⟩ : ∃ x, Hid (frameL d = x) := ⟨_, Lib.hid rfl⟩
  rw [hFL.out] at hF hfl ⊢
  have HF := Lib.hid hF
  have HLN := Lib.hid hlen
  clear hF hlen hFL
  go_enter Tryz.func54, Tryz.ntmps54
  go_wp2_with fail
  refine (newWriter_any _).mono ?_
  rintro e w1 ⟨q, rfl, hwr, k1, hq⟩
  have hb1 := hb.keep k1
  go_wp2_with fail
  refine (seal_any ao n cap d w1 hb1 (by omega)).mono ?_
  rintro e w2 ⟨so, sc, rfl, ho2, k2⟩
  have hwr2 := (hwr.mono (G := fun j => w.heap.size ≤ j ∧ j < w1.heap.size) (fun j hj c => ⟨(Ex.none c).1, hj⟩)).keep k2
  have hoff : Off (fun j => w.heap.size ≤ j ∧ j < w1.heap.size) so := fun a ha c => by
    rcases ho2 with ⟨h1, h2, h3, h4⟩
    rcases h4 with h4 | ⟨g, off, cur, h0, hg, -⟩
    · omega
    · rw [ha] at h0
      cases h0
      have := (Ex.none hg).1
      have h5 : (⟨g, off, none⟩ : Addr).block = g := rfl
      omega
  have hob := ho2.bs
  have HK2 := Lib.hid (k1.trans k2)
  have HW1 := k1.size
  clear hb hb1 hwr k1 k2 ho2
  go_wp2_with fail
  refine (writerText_any _ q [] so (n + 8) sc _ w2 hwr2 hob hoff (by simp; omega)).mono ?_
  rintro e w3 ⟨rfl, hwr3, k3⟩
  rw [HF.out] at hwr3
  have HK3 := Lib.hid (HK2.out.fin k3 (fun j c => Or.inr c.1))
  clear hwr2 hob hoff k3 HK2
  go_wp2_with fail
  refine (writerBytes_any _ q FL w3 hwr3 (by have := HLN.out; omega)).mono ?_
  rintro e w4 ⟨bo, c, rfl, ho4, k4⟩
  have HO := Lib.hid (ho4.mono (G := fun j => w.heap.size ≤ j) (fun j _ c => by have h1 := (Ex.none c).1; have h2 := HK3.out.size; omega))
  have HK4 := Lib.hid (HK3.out.trans k4)
  clear hwr3 k4 ho4 HK3
  go_wp2_with fail
  go_ret
  exact ⟨⟨bo, c, rfl, HO.out, HK4.out⟩⟩

set_option maxHeartbeats 2000000 in
theorem header_w (num first : Nat) (w : World) (hn : num ≤ 4611686018427387904) (hf : first ≤ 4611686018427387904) :
    Calls Tryz.prog 72 #[.agg #[.int .i64 (num : Int), .int .i64 (first : Int)]] w fun e w' => FreshTo w (headerL num first) e w' := by
  have hwt : IntKind.u64.wrap (num : Int) = (num : Int) := IntWalk.u64_in _ (by omega)
  have hws : IntKind.u64.wrap (first : Int) = (first : Int) := IntWalk.u64_in _ (by omega)
  have h1 := sizeN_le num
  have h2 := sizeN_le first
  obtain ⟨L1, HL1⟩ : ∃ x, Hid ([] ++ numL num = x) := ⟨_, Lib.hid rfl⟩
  obtain ⟨L2, HL2⟩ : ∃ x, Hid (L1 ++ numL first = x) := ⟨_, Lib.hid rfl⟩
  have l1 : L1.length ≤ 9 := by rw [← HL1.out, List.nil_append, length_numL]; omega
  have l2 : L2.length ≤ 18 := by rw [← HL2.out, List.length_append, length_numL]; omega
  have hP : headerL num first = frameL L2 := by
    rw [← HL2.out, ← HL1.out]
    rfl
  rw [hP]
  clear hP
  have hA := heap_alloc_new w (.cells #[.int .i64 (num : Int), .int .i64 (first : Int)] 97)
  have kA : Kp Noone w (w.alloc (.cells #[.int .i64 (num : Int), .int .i64 (first : Int)] 97)) := (Kp.refl _ _).alloc _
  go_enter Tryz.func72, Tryz.ntmps72
  go_upto_region 1 with fail
  generalize w.alloc (.cells #[.int .i64 (num : Int), .int .i64 (first : Int)] 97) = wA at *
  have kD : Kp Noone w wA.drew := kA.drew
  have hgD := ((Kp.refl Noone wA).drew).heap hA id
  obtain ⟨d0, d1, -, -⟩ := cells_two hgD
  have hgl : w.heap.size < wA.drew.heap.size := (Array.getElem?_eq_some_iff.1 hgD).1
  generalize hgx : w.heap.size = gx at *
  clear hA kA hgD
  go_region_held3 (fun w' => w'.cell? ⟨gx, 0, none⟩ = some (.int .i64 (num : Int)) ∧ w'.cell? ⟨gx, 1, none⟩ = some (.int .i64 (first : Int)))
    (exact ⟨by assumption, by assumption⟩)
    (first
      | (go_at_call 73; refine (newWriter_any _).mono ?_; rintro e w' ⟨q, rfl, hwr, kw, hq⟩; have d0 := kw.cell d0 id; have d1 := kw.cell d1 id; have k4 := kD.trans kw; have hwr := hwr.mono (G := fun j => gx < j) (fun j _ c => Nat.lt_of_lt_of_le hgl (Ex.none c).1); have hgl := Nat.lt_of_lt_of_le hgl kw.size)
      | (go_at_call 94; (change Wr _ _ _ [] at hwr); refine (writerNum_any (fun j => gx < j) q [] num _ hwr (by unfold W64; omega) (by simp only [List.length_nil]; omega)).mono ?_; rintro e w' ⟨rfl, hwr, kw⟩; rw [HL1.out] at hwr; have d0 := kw.cell d0 (Nat.lt_irrefl _); have d1 := kw.cell d1 (Nat.lt_irrefl _); have k4 := k4.fin kw (fun j c => Or.inr (by rw [hgx]; exact Nat.le_of_lt c)); have hwr := hwr.mono (G := fun j => gx < j) (fun j _ c => c.elim id (fun c => Nat.lt_of_lt_of_le hgl c.1)); have hgl := Nat.lt_of_lt_of_le hgl kw.size)
      | (go_at_call 94; (change Wr _ _ _ L1 at hwr); refine (writerNum_any (fun j => gx < j) q L1 first _ hwr (by unfold W64; omega) (by omega)).mono ?_; rintro e w' ⟨rfl, hwr, kw⟩; rw [HL2.out] at hwr; have d0 := kw.cell d0 (Nat.lt_irrefl _); have d1 := kw.cell d1 (Nat.lt_irrefl _); have k4 := k4.fin kw (fun j c => Or.inr (by rw [hgx]; exact Nat.le_of_lt c)); have hwr := hwr.mono (G := fun j => gx < j) (fun j _ c => c.elim id (fun c => Nat.lt_of_lt_of_le hgl c.1)); have hgl := Nat.lt_of_lt_of_le hgl kw.size)
      | (go_at_call 76; refine (writerBytes_any (fun j => gx < j) q L2 _ hwr (by omega)).mono ?_; rintro e w' ⟨bo, c, rfl, ho, kw⟩; have d0 := kw.cell d0 id; have d1 := kw.cell d1 id; have k5 := k4.trans kw)
      | (go_at_call 54; refine (frame_w bo L2.length c L2 _ ho.bs (by omega)).mono ?_; rintro e w' ⟨⟨fo, fc, rfl, hof, kf⟩⟩; have d0 := kf.cell d0 id; have d1 := kf.cell d1 id; have k6 := k5.trans kf))
  have hs5 := k5.size
  have HO := Lib.hid (hof.mono (G := fun j => gx ≤ j) (fun j _ c => by rw [hgx] at hs5; omega))
  have HK6 := Lib.hid k6
  clear k4 kD d0 d1 kw kf k5 k6 ho hof hwr
  go_wp2_with fail
  go_ret
  exact ⟨⟨fo, fc, rfl, by rw [hgx]; exact HO.out, HK6.out⟩⟩

set_option maxHeartbeats 1000000 in
theorem begins_w (bo : Option Addr) (n cap : Nat) (d : List UInt8) (num : Nat) (w : World) (hb : BS w bo n cap d) (hn : n ≤ 1048576) :
    Calls Tryz.prog 69 #[.slice bo n cap, .int .i64 (num : Int)] w fun e w' => e = .returned (.tuple #[.int .i64 ((beginsF d num).1 : Int), .bool (beginsF d num).2]) ∧ Kp Noone w w' := by
  obtain ⟨R1, hR1⟩ : ∃ x, Hid (rcount d 0 999999 = x) := ⟨_, Lib.hid rfl⟩
  obtain ⟨R2, hR2⟩ : ∃ x, Hid (rcount R1.1.1 R1.1.2 1099511627776 = x) := ⟨_, Lib.hid rfl⟩
  have e1 : rcount d 0 999999 = R1 := hR1.out
  have e2 : rcount R1.1.1 R1.1.2 1099511627776 = R2 := hR2.out
  have eB : beginsF d num = (R2.2, decide (rdone R2.1.1 R2.1.2 = 0 ∧ R1.2 = num ∧ 0 < R2.2)) := by unfold beginsF; rw [e1, e2]
  rw [eB]
  generalize hdn : rdone R2.1.1 R2.1.2 = dn at *
  generalize hown : R1.2 = own at *
  generalize hfirst : R2.2 = first at *
  obtain ⟨B, hB⟩ : ∃ B, Hid (decide (dn = 0 ∧ own = num ∧ 0 < first) = B) := ⟨_, Lib.hid rfl⟩
  rw [hB.out]
  have HDN := Lib.hid hdn
  have HOWN := Lib.hid hown
  have HFIRST := Lib.hid hfirst
  have E2 := Lib.hid e2
  have E1 := Lib.hid e1
  clear e1 e2 hR1 hR2 eB hdn hown hfirst
  go_enter Tryz.func69, Tryz.ntmps69
  go_wp2_with fail
  refine (newReader_any bo n cap d w hb (by omega)).mono ?_
  rintro e w1 ⟨r, rfl, hr, k1, hq⟩
  have C1 := readerCount_any r d 0 999999 w1 hr (by omega) (by omega)
  rw [E1.out, HOWN.out] at C1
  have HK1 := Lib.hid k1
  clear hb hr k1
  go_wp2_with fail
  refine C1.mono ?_
  rintro e w2 ⟨rfl, hr2, k2⟩
  have C2 := readerCount_any r R1.1.1 R1.1.2 1099511627776 w2 hr2 (by omega) (by omega)
  rw [E2.out, HFIRST.out] at C2
  have HK2 := Lib.hid (HK1.out.fin k2 (fun j e => Or.inr (by omega)))
  clear C1 hr2 k2
  go_wp2_with fail
  refine C2.mono ?_
  rintro e w3 ⟨rfl, hr3, k3⟩
  have C3 := readerDone_any r R2.1.1 R2.1.2 w3 hr3
  rw [HDN.out] at C3
  have HK3 := Lib.hid (HK2.out.fin k3 (fun j e => Or.inr (by omega)))
  clear C2 hr3 k3
  go_wp2_with fail
  refine C3.mono ?_
  rintro e w4 ⟨rfl, -, k4⟩
  have HK4 := Lib.hid (HK3.out.fin k4 (fun j e => Or.inr (by omega)))
  clear C3 k4
  by_cases h1 : dn = 0
  · subst h1
    rw [Int.natCast_zero]
    by_cases h2 : own = num
    · have hnn : ((own : Int) == (num : Int)) = true := by simp [h2]
      by_cases h3 : 0 < first
      · have hr : B = true := by rw [← hB.out]; simp [h2, h3]
        subst hr
        go_wp2_with fail
        go_ret2
        exact ⟨rfl, HK4.out⟩
      · have hr : B = false := by rw [← hB.out]; simp [h3]
        subst hr
        go_wp2_with fail
        go_ret2
        exact ⟨rfl, HK4.out⟩
    · have hr : B = false := by rw [← hB.out]; simp [h2]
      subst hr
      have hn : ((own : Int) == (num : Int)) = false := by simp; omega
      clear h2
      go_wp2_with fail
      go_ret2
      exact ⟨rfl, HK4.out⟩
  · have hr : B = false := by rw [← hB.out]; simp [h1]
    subst hr
    have hn : ((dn : Int) == 0) = false := by simpa using h1
    clear h1
    go_wp2_with fail
    go_ret2
    exact ⟨rfl, HK4.out⟩

end Go.Proofs.YtigdhdclfdojgaaGreat
