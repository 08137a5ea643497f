/-
  WALK of Words: an operation as words.
-/
import Derived.Test.YtfinbppmkffbhaaDoorScriptB
import Derived.Test.YtfinbppmkffbhaaDoorItoaS
import Derived.BigQuiet
namespace Go.Proofs.YtfinbppmkffbhaaDoor
open Go.RowKit Go.Sort

theorem itoa_small (n : Int) (h0 : 0 ≤ n) (h1 : n < 100) (w : World) : Calls Tryd.prog 22 #[.int .i64 n] w fun e w' => e = .returned (strV (Lib.itoa n)) ∧ w' = w := by
  obtain ⟨i, rfl⟩ := Int.eq_ofNat_of_zero_le h0
  refine (Tryd.strconv_Itoa_small i (by omega) w).mono ?_
  rintro e w' ⟨rfl, hw⟩
  refine ⟨?_, hw⟩
  unfold strV Lib.itoa
  rw [if_neg (by omega)]
  rfl
theorem ba_of (s : ByteArray) : s = ⟨s.data.toList.toArray⟩ := by apply ByteArray.ext; rfl
theorem ba_eq {s : ByteArray} {l : List UInt8} (h : s.data.toList = l) : s = ⟨l.toArray⟩ := by subst h; exact ba_of s
theorem ba_app (a b : ByteArray) : (a ++ b).data.toList = a.data.toList ++ b.data.toList := by rw [ByteArray.data_append, Array.toList_append]
theorem ba_len (s : ByteArray) : s.data.toList.length = s.size := Array.length_toList
theorem wordOf_len (k : Int) : (wordOf k).length ≤ 4 := by
  unfold wordOf
  repeat' split
  all_goals decide
theorem okOp_rB {o : OpV} (h : okOp o = true) : rB o.re o.im = true := by
  cases hz : zedF o.kind
  · have := okOp_bare h hz
    rw [this.1, this.2]
    decide
  · exact okOp_zed h hz
theorem tup_str {x : ByteArray} {l : List UInt8} {v : Value} (h : x.data.toList = l) : Value.tuple #[.string x, v] = .tuple #[strV l, v] := by unfold strV; rw [ba_eq h]
def wordsV (o : OpV) : Value := .tuple #[strV (wordsF o).1, .int .i64 (wordsF o).2]
set_option maxHeartbeats 4000000 in
set_option maxRecDepth 100000 in
theorem words_any (o : OpV) (w : World) (hL : Laid w) : Calls Tryd.prog 13 #[opV o] w fun e w' => e = .returned (wordsV o) ∧ Kp Noone w w' := by
  have hck := fun W => check_any o W
  have HL := Lib.hid hL
  clear hL
  cases ho : okOp o
  · have HV : Hid (wordsV o = .tuple #[.string ⟨#[]⟩, .int .i64 22]) := Lib.hid (by unfold wordsV wordsF; rw [ho]; rfl)
    rw [ho] at hck
    simp only [Bool.false_eq_true, if_false] at hck
    obtain ⟨k, r, t, n, m⟩ := o
    rw [HV.out]
    unfold opV at hck ⊢
    simp only [] at hck ⊢
    have HK := Lib.hid ((Kp.refl Noone w).alloc (.cells #[.int .i64 k, .int .i64 r, .int .i64 t, .int .i64 n, .int .i64 m] 24))
    clear ho
    go_enter Tryd.func13, Tryd.ntmps13
    go_wp2_with fail
    refine (hck _).mono ?_
    rintro e w1 ⟨rfl, k1⟩
    have HK1 := Lib.hid (HK.out.trans k1)
    clear k1
    go_wp2_with fail
    go_ret2
    exact ⟨rfl, HK1.out⟩
  · have hk := okOp_kind ho
    have hr := okOp_reg ho
    have ht := okOp_to ho
    have hz := okOp_rB ho
    have HV : Hid (wordsV o = .tuple #[strV (wordsL o), .int .i64 0]) := Lib.hid (by unfold wordsV wordsF; rw [ho]; rfl)
    rw [ho] at hck
    simp only [if_true] at hck
    obtain ⟨k, r, t, n, m⟩ := o
    simp only at hk hr ht hz
    have HZ := Lib.hid hz
    have b1 := rB_bound hz
    have fn := fi_of n (by omega)
    have fm := fi_of m (by omega)
    have s4 : (⟨(showL n m).toArray⟩ : ByteArray).size ≤ 48 := by rw [ba_size]; exact (pieces (showL n m) n m (by omega) (by omega) (by omega) (by omega) rfl).len
    rw [HV.out]
    unfold opV at hck ⊢
    simp only [] at hck ⊢
    have htk := fun W => takes_any k W
    have how := fun W => opWord_any k (by omega) (by omega) W
    have hir := fun W => itoa_small r (by omega) (by omega) W
    have hit := fun W => itoa_small t (by omega) (by omega) W
    unfold strV at how hir hit
    have s1 : (⟨(wordOf k).toArray⟩ : ByteArray).size ≤ 4 := by rw [ba_size]; exact wordOf_len k
    have s2 : (⟨(Lib.itoa r).toArray⟩ : ByteArray).size ≤ 23 := by rw [ba_size]; exact itoa_len r (by omega)
    have s3 : (⟨(Lib.itoa t).toArray⟩ : ByteArray).size ≤ 23 := by rw [ba_size]; exact itoa_len t (by omega)
    have HW : Hid (∀ x y z v : ByteArray, x = ⟨(wordOf k).toArray⟩ → y = ⟨(Lib.itoa r).toArray⟩ → z = ⟨(Lib.itoa t).toArray⟩ → v = ⟨(showL n m).toArray⟩ →
      wordsL ⟨k, r, t, n, m⟩ = (x ++ ⟨#[32]⟩ ++ y ++ (if twoF k = true then ⟨#[32]⟩ ++ z else ⟨#[]⟩) ++ (if zedF k = true then ⟨#[32]⟩ ++ v else ⟨#[]⟩)).data.toList) := Lib.hid (by
        rintro x y z v rfl rfl rfl rfl
        unfold wordsL wordsW
        cases twoF k <;> cases zedF k <;> simp [joinF])
    obtain ⟨sw, hsw⟩ : ∃ x : ByteArray, x = ⟨(wordOf k).toArray⟩ := ⟨_, rfl⟩
    obtain ⟨sr, hsr⟩ : ∃ x : ByteArray, x = ⟨(Lib.itoa r).toArray⟩ := ⟨_, rfl⟩
    obtain ⟨st, hst⟩ : ∃ x : ByteArray, x = ⟨(Lib.itoa t).toArray⟩ := ⟨_, rfl⟩
    rw [← hsw] at how s1
    rw [← hsr] at hir s2
    rw [← hst] at hit s3
    have HW2 := Lib.hid (fun v hv => HW.out sw sr st v hsw hsr hst hv)
    clear HW hsw hsr hst ho hz
    have HK := Lib.hid ((Kp.refl Noone w).alloc (.cells #[.int .i64 k, .int .i64 r, .int .i64 t, .int .i64 n, .int .i64 m] 24))
    have hb := heap_alloc_new w (.cells #[.int .i64 k, .int .i64 r, .int .i64 t, .int .i64 n, .int .i64 m] 24)
    go_enter Tryd.func13, Tryd.ntmps13
    go_wp2_with fail
    refine (hck _).mono ?_
    rintro e w1 ⟨rfl, k1⟩
    obtain ⟨z0, z1, z2, z3, z4⟩ := cells_5 (k1.heap hb id)
    have HK1 := Lib.hid (HK.out.trans k1)
    clear k1 hb HK
    generalize w.heap.size = g at *
    have hnk : numsOf k = if twoF k = true then 2 else 1 := rfl
    cases hh2 : twoF k
    all_goals (
      rw [hh2] at hnk
      simp only [Bool.false_eq_true, if_false, if_true] at hnk
      rw [hnk] at htk
      rw [hh2] at HW2
      simp only [Bool.false_eq_true, if_false, if_true] at HW2
      cases hh3 : zedF k
      all_goals (
        rw [hh3] at htk HW2
        simp only [Bool.false_eq_true, if_false, if_true] at HW2 htk))
    all_goals (
      clear hh2 hh3 hnk
      go_upto_region 5 with (go_at_call 26; refine (htk _).mono ?_; rintro e w' ⟨rfl, hw⟩; rw [hw]; clear hw)
      go_quiet (first
        | (go_at_call 27; exact Calls.quiet_of_same (how _))
        | (go_at_call 22; exact Calls.quiet_of_same (hir _))))
    · have s5 := Lib.hid (HW2.out _ rfl)
      go_wp2_with fail
      go_ret2
      exact ⟨ret_eq (tup_str (by rw [s5.out] <;> simp)), HK1.out.drewN _⟩
    · go_wp2_with (go_at_call 28; refine (of_any n m _).mono ?_; rintro e w' ⟨rfl, hw⟩; rw [← hw, ofT_in HZ.out]; clear hw)
      refine (show_ok _ _ n m _ fn fm HZ.out (HL.out.keep (HK1.out.drewN _)).pow).mono ?_
      rintro e w2 ⟨rfl, k2⟩
      have HK2 := Lib.hid ((HK1.out.drewN _).trans k2)
      clear k2
      have s5 := Lib.hid (HW2.out _ rfl)
      generalize (⟨(showL n m).toArray⟩ : ByteArray) = sz at *
      go_wp2_with fail
      go_ret2
      exact ⟨ret_eq (tup_str (by rw [s5.out] <;> simp)), HK2.out⟩
    · go_wp2_with (go_at_call 22; refine (hit _).mono ?_; rintro e w' ⟨rfl, hw⟩; rw [hw]; clear hw)
      have s5 := Lib.hid (HW2.out _ rfl)
      go_ret2
      exact ⟨ret_eq (tup_str (by rw [s5.out] <;> simp)), HK1.out.drewN _⟩
    · go_wp2_with (first
        | (go_at_call 22; refine (hit _).mono ?_; rintro e w' ⟨rfl, hw⟩; rw [hw]; clear hw)
        | (go_at_call 28; refine (of_any n m _).mono ?_; rintro e w' ⟨rfl, hw⟩; rw [← hw, ofT_in HZ.out]; clear hw))
      refine (show_ok _ _ n m _ fn fm HZ.out (HL.out.keep (HK1.out.drewN _)).pow).mono ?_
      rintro e w2 ⟨rfl, k2⟩
      have HK2 := Lib.hid ((HK1.out.drewN _).trans k2)
      clear k2
      have s5 := Lib.hid (HW2.out _ rfl)
      generalize (⟨(showL n m).toArray⟩ : ByteArray) = sz at *
      go_wp2_with fail
      go_ret2
      exact ⟨ret_eq (tup_str (by rw [s5.out] <;> simp)), HK2.out⟩

end Go.Proofs.YtfinbppmkffbhaaDoor
