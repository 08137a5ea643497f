/-
  WALK of the document's Words.
-/
import Derived.Test.YtfinbppmkffbhaaDoorScriptR
import Derived.Deep.RegionHeld3
namespace Go.Proofs.YtfinbppmkffbhaaDoor
open Go.RowKit Go.Sort

theorem word_at (k : Nat) (h0 : 1 ≤ k) (h7 : k ≤ 7) (W : World) (B : Nat) (T : TypeId) (fr : Nat × Nat)
    (hh : W.heap[B]? = some (.cells #[.string ⟨#[]⟩, .string ⟨#[103, 101, 116]⟩, .string ⟨#[112, 117, 116]⟩, .string ⟨#[97, 100, 100]⟩, .string ⟨#[109, 117, 108]⟩, .string ⟨#[116, 117, 114, 110]⟩, .string ⟨#[115, 119, 97, 112]⟩, .string ⟨#[116, 97, 107, 101]⟩] T fr)) :
    W.cell? ⟨B, k, none⟩ = some (.string ⟨(wordOf (k : Int)).toArray⟩) := by
  have h := arr8 _ _ _ _ _ _ _ _ k (by omega) W B _ _ hh
  rw [Nat.zero_add] at h
  rw [h]
  rcases (by omega : k = 1 ∨ k = 2 ∨ k = 3 ∨ k = 4 ∨ k = 5 ∨ k = 6 ∨ k = 7) with rfl | rfl | rfl | rfl | rfl | rfl | rfl <;> rfl
set_option maxHeartbeats 8000000 in
set_option maxRecDepth 100000 in
theorem refWords_any (o : OpV) (w : World) : Calls Tryd.prog 12 #[opV o] w fun e w' => e = .returned (wordsV o) ∧ Kp Noone w w' := by
  have hck := fun W => refRight_op o W
  cases ho : okOp o
  · have HV : Hid (wordsV o = .tuple #[.string ⟨#[]⟩, .int .i64 22]) := Lib.hid (by unfold wordsV wordsF; rw [ho]; rfl)
    rw [ho] at hck
    obtain ⟨k, r, t, n, m⟩ := o
    rw [HV.out]
    unfold opV at hck ⊢
    simp only [] at hck ⊢
    have HK := Lib.hid ((Kp.refl Noone w).alloc (.cells #[.int .i64 k, .int .i64 r, .int .i64 t, .int .i64 n, .int .i64 m] 24))
    clear ho
    go_enter Tryd.func12, Tryd.ntmps12
    go_wp2_with fail
    refine (hck _).mono ?_
    rintro e w1 ⟨rfl, k1⟩
    have HK1 := Lib.hid (HK.out.trans k1)
    clear k1
    go_wp2_with fail
    go_ret2
    exact ⟨rfl, HK1.out⟩
  · have hk := okOp_kind ho
    have hr := okOp_reg ho
    have ht := okOp_to ho
    have hz := okOp_rB ho
    have HV : Hid (wordsV o = .tuple #[strV (wordsL o), .int .i64 0]) := Lib.hid (by unfold wordsV wordsF; rw [ho]; rfl)
    rw [ho] at hck
    obtain ⟨k, r, t, n, m⟩ := o
    simp only at hk hr ht hz
    have b1 := rB_bound hz
    have hsh := fun W => refShow_any n m W (by omega) (by omega) (by omega) (by omega)
    have hdr := fun W => digits_any r W (by omega) (by omega)
    have hdt := fun W => digits_any t W (by omega) (by omega)
    have s4 : (⟨(showL n m).toArray⟩ : ByteArray).size ≤ 48 := by rw [ba_size]; exact (pieces (showL n m) n m (by omega) (by omega) (by omega) (by omega) rfl).len
    rw [HV.out]
    unfold opV at hck ⊢
    simp only [] at hck ⊢
    have s1 : (⟨(wordOf k).toArray⟩ : ByteArray).size ≤ 4 := by rw [ba_size]; exact wordOf_len k
    have s2 : (⟨(Lib.itoa r).toArray⟩ : ByteArray).size ≤ 23 := by rw [ba_size]; exact itoa_len r (by omega)
    have s3 : (⟨(Lib.itoa t).toArray⟩ : ByteArray).size ≤ 23 := by rw [ba_size]; exact itoa_len t (by omega)
    have HW : Hid (∀ x y z v : ByteArray, x = ⟨(wordOf k).toArray⟩ → y = ⟨(Lib.itoa r).toArray⟩ → z = ⟨(Lib.itoa t).toArray⟩ → v = ⟨(showL n m).toArray⟩ →
      wordsL ⟨k, r, t, n, m⟩ = (x ++ ⟨#[32]⟩ ++ y ++ (if twoF k = true then ⟨#[32]⟩ ++ z else ⟨#[]⟩) ++ (if zedF k = true then ⟨#[32]⟩ ++ v else ⟨#[]⟩)).data.toList) := Lib.hid (by
        rintro x y z v rfl rfl rfl rfl
        unfold wordsL wordsW
        cases twoF k <;> cases zedF k <;> simp [joinF])
    obtain ⟨kn, rfl⟩ := Int.eq_ofNat_of_zero_le (show 0 ≤ k by omega)
    have hk1 : 1 ≤ kn := by omega
    have hk7 : kn ≤ 7 := by omega
    have hk8 : kn < 8 := by omega
    have hk8z : (kn : Int) < 8 := by omega
    have HWA := Lib.hid (fun W B T fr hh => word_at kn hk1 hk7 W B T fr hh)
    obtain ⟨sw, hsw⟩ : ∃ x : ByteArray, x = ⟨(wordOf (kn : Int)).toArray⟩ := ⟨_, rfl⟩
    obtain ⟨sr, hsr⟩ : ∃ x : ByteArray, x = ⟨(Lib.itoa r).toArray⟩ := ⟨_, rfl⟩
    obtain ⟨st, hst⟩ : ∃ x : ByteArray, x = ⟨(Lib.itoa t).toArray⟩ := ⟨_, rfl⟩
    obtain ⟨sz, hsz⟩ : ∃ x : ByteArray, x = ⟨(showL n m).toArray⟩ := ⟨_, rfl⟩
    rw [← hsw] at s1 HWA
    rw [← hsr] at hdr s2
    rw [← hst] at hdt s3
    rw [← hsz] at hsh s4
    have HW2 := Lib.hid (HW.out sw sr st sz hsw hsr hst hsz)
    clear HW hsw hsr hst hsz ho hz
    have HK := Lib.hid ((Kp.refl Noone w).alloc (.cells #[.int .i64 (kn : Int), .int .i64 r, .int .i64 t, .int .i64 n, .int .i64 m] 24))
    have hb := heap_alloc_new w (.cells #[.int .i64 (kn : Int), .int .i64 r, .int .i64 t, .int .i64 n, .int .i64 m] 24)
    go_enter Tryd.func12, Tryd.ntmps12
    go_upto_region 1 with fail
    generalize w.alloc (.cells #[.int .i64 (kn : Int), .int .i64 r, .int .i64 t, .int .i64 n, .int .i64 m] 24) = w0 at *
    generalize w.heap.size = g at *
    obtain ⟨z0, z1, z2, z3, z4⟩ := cells_5 hb
    have HB := Lib.hid hb
    clear hb
    go_wp2_with fail
    clear z0 z1 z2 z3 z4
    refine (hck _).mono ?_
    rintro e w1 ⟨rfl, k1⟩
    have HK1 := Lib.hid (HK.out.trans k1)
    have HB1 := Lib.hid (k1.heap HB.out id)
    clear k1 HB HK hck
    have hbA := heap_alloc_new w1 (.cells #[.string ⟨#[]⟩, .string ⟨#[103, 101, 116]⟩, .string ⟨#[112, 117, 116]⟩, .string ⟨#[97, 100, 100]⟩, .string ⟨#[109, 117, 108]⟩, .string ⟨#[116, 117, 114, 110]⟩, .string ⟨#[115, 119, 97, 112]⟩, .string ⟨#[116, 97, 107, 101]⟩] 9)
    have hkA : Kp Noone w1 (w1.alloc (.cells #[.string ⟨#[]⟩, .string ⟨#[103, 101, 116]⟩, .string ⟨#[112, 117, 116]⟩, .string ⟨#[97, 100, 100]⟩, .string ⟨#[109, 117, 108]⟩, .string ⟨#[116, 117, 114, 110]⟩, .string ⟨#[115, 119, 97, 112]⟩, .string ⟨#[116, 97, 107, 101]⟩] 9)) := (Kp.refl _ _).alloc _
    have HKA := Lib.hid hkA
    have HBA := Lib.hid hbA
    clear hkA hbA
    go_upto_region 4 with fail
    generalize w1.alloc (.cells #[.string ⟨#[]⟩, .string ⟨#[103, 101, 116]⟩, .string ⟨#[112, 117, 116]⟩, .string ⟨#[97, 100, 100]⟩, .string ⟨#[109, 117, 108]⟩, .string ⟨#[116, 117, 114, 110]⟩, .string ⟨#[115, 119, 97, 112]⟩, .string ⟨#[116, 97, 107, 101]⟩] 9) = w2 at *
    generalize w1.heap.size = gs at *
    have hS : ∀ W, Kp Noone w2 W → W.cell? ⟨g, 0, none⟩ = some (.int .i64 (kn : Int)) ∧ W.cell? ⟨g, 1, none⟩ = some (.int .i64 r) ∧ W.cell? ⟨gs, kn, none⟩ = some (.string sw) := fun W k0 => by
      obtain ⟨a0, a1, a2, a3, a4⟩ := cells_5 ((HKA.out.trans k0).heap HB1.out id)
      exact ⟨a0, a1, HWA.out _ _ _ _ (k0.heap HBA.out id)⟩
    obtain ⟨x0, x1, x2⟩ := hS w2 (Kp.refl _ _)
    have HS := Lib.hid hS
    have K0 : Kp Noone w2 w2.drew := (Kp.refl _ _).drew
    obtain ⟨q1, q2⟩ : ¬ 9223372036854775807 < sw.size + 1 ∧ ¬ 9223372036854775807 < sw.size + 1 + sr.size := by omega
    have HK2 := Lib.hid (HK1.out.trans HKA.out)
    clear hS
    go_region_held3 (fun w' => w'.cell? ⟨g, 0, none⟩ = some (.int .i64 (kn : Int)) ∧ w'.cell? ⟨g, 1, none⟩ = some (.int .i64 r) ∧ w'.cell? ⟨gs, kn, none⟩ = some (.string sw))
      (first | with_reducible exact HS.out _ K0 | with_reducible exact HS.out _ kk)
      (first | (go_at_call 20; refine (hdr _).mono ?_; rintro e w3 ⟨rfl, k3⟩; have kk := K0.trans k3; clear k3))
    have HK3 := Lib.hid (HK2.out.trans kk)
    have HB3 := Lib.hid ((HKA.out.trans kk).heap HB1.out id)
    obtain ⟨z0, z1, z2, z3, z4⟩ := cells_5 HB3.out
    clear x0 x1 x2 HS K0 kk q1 q2 HBA HKA HWA HK1 HB1 HK2 hdr hk1 hk7 hk8 hk8z
    rcases (by omega : kn = 1 ∨ kn = 2 ∨ kn = 3 ∨ kn = 4 ∨ kn = 5 ∨ kn = 6 ∨ kn = 7) with rfl | rfl | rfl | rfl | rfl | rfl | rfl
    all_goals (
      clear hk
      go_wp2_with (first
        | (go_at_call 20; refine (hdt _).mono ?_; rintro e w4 ⟨rfl, k4⟩; obtain ⟨y0, y1, y2, y3, y4⟩ := cells_5 (k4.heap HB3.out id))
        | (go_at_call 24; refine (hsh _).mono ?_; rintro e w5 ⟨rfl, k5⟩))
      go_ret2
      refine ⟨ret_eq (tup_str (by rw [HW2.out]; simp [twoF, zedF])), ?_⟩
      first
        | exact HK3.out
        | exact HK3.out.trans k4
        | exact HK3.out.trans k5
        | exact (HK3.out.trans k4).trans k5)

end Go.Proofs.YtfinbppmkffbhaaDoor
