/-
  WALKS: bounds and number of script.
-/
import Derived.Test.YtfinbppmkffbhaaDoorScriptA
namespace Go.Proofs.YtfinbppmkffbhaaDoor
open Go.RowKit Go.Sort

theorem str_eq (s : ByteArray) (l : List UInt8) (h : s.data.toList = l) : (s.toList == l) = true := by
  rw [ByteArray.toList_eq, h]
  simp
theorem str_ne (s : ByteArray) (l : List UInt8) (h : s.data.toList ≠ l) : (s.toList == l) = false := by
  rw [ByteArray.toList_eq]
  exact beq_eq_false_iff_ne.2 h
def boundsV (b : Nat × Nat × Bool) : Value := .tuple #[.int .i64 (b.1 : Int), .int .i64 (b.2.1 : Int), .bool b.2.2]
set_option maxHeartbeats 4000000 in
theorem bounds_any (s : ByteArray) (w : World) : Calls Tryd.prog 21 #[.string s] w fun e w' => e = .returned (boundsV (boundsF s.data.toList)) ∧ w' = w := by
  have hl := ByteArray.toList_eq s
  obtain ⟨l, hd⟩ : ∃ l, s.data.toList = l := ⟨_, rfl⟩
  rw [hd] at hl
  rw [hd]
  clear hd
  by_cases hevents : l = [101, 118, 101, 110, 116, 115]
  · subst hevents
    go_enter Tryd.func21, Tryd.ntmps21
    go_wp2_with fail
    go_ret3
    exact ⟨rfl, rfl⟩
  by_cases hdeliver : l = [100, 101, 108, 105, 118, 101, 114]
  · subst hdeliver
    go_enter Tryd.func21, Tryd.ntmps21
    go_wp2_with fail
    go_ret3
    exact ⟨rfl, rfl⟩
  by_cases hlose : l = [108, 111, 115, 101]
  · subst hlose
    go_enter Tryd.func21, Tryd.ntmps21
    go_wp2_with fail
    go_ret3
    exact ⟨rfl, rfl⟩
  by_cases hdouble : l = [100, 111, 117, 98, 108, 101]
  · subst hdouble
    go_enter Tryd.func21, Tryd.ntmps21
    go_wp2_with fail
    go_ret3
    exact ⟨rfl, rfl⟩
  by_cases hstart : l = [115, 116, 97, 114, 116]
  · subst hstart
    go_enter Tryd.func21, Tryd.ntmps21
    go_wp2_with fail
    go_ret3
    exact ⟨rfl, rfl⟩
  by_cases hruin : l = [114, 117, 105, 110]
  · subst hruin
    go_enter Tryd.func21, Tryd.ntmps21
    go_wp2_with fail
    go_ret3
    exact ⟨rfl, rfl⟩
  by_cases hjoin : l = [106, 111, 105, 110]
  · subst hjoin
    go_enter Tryd.func21, Tryd.ntmps21
    go_wp2_with fail
    go_ret3
    exact ⟨rfl, rfl⟩
  by_cases hanew : l = [97, 110, 101, 119]
  · subst hanew
    go_enter Tryd.func21, Tryd.ntmps21
    go_wp2_with fail
    go_ret3
    exact ⟨rfl, rfl⟩
  by_cases hcalm : l = [99, 97, 108, 109]
  · subst hcalm
    go_enter Tryd.func21, Tryd.ntmps21
    go_wp2_with fail
    go_ret3
    exact ⟨rfl, rfl⟩
  by_cases hstate : l = [115, 116, 97, 116, 101]
  · subst hstate
    go_enter Tryd.func21, Tryd.ntmps21
    go_wp2_with fail
    go_ret3
    exact ⟨rfl, rfl⟩
  by_cases hask : l = [97, 115, 107]
  · subst hask
    go_enter Tryd.func21, Tryd.ntmps21
    go_wp2_with fail
    go_ret3
    exact ⟨rfl, rfl⟩
  by_cases hfuse : l = [102, 117, 115, 101]
  · subst hfuse
    go_enter Tryd.func21, Tryd.ntmps21
    go_wp2_with fail
    go_ret3
    exact ⟨rfl, rfl⟩
  by_cases hsend : l = [115, 101, 110, 100]
  · subst hsend
    go_enter Tryd.func21, Tryd.ntmps21
    go_wp2_with fail
    go_ret3
    exact ⟨rfl, rfl⟩
  by_cases hinject : l = [105, 110, 106, 101, 99, 116]
  · subst hinject
    go_enter Tryd.func21, Tryd.ntmps21
    go_wp2_with fail
    go_ret3
    exact ⟨rfl, rfl⟩
  by_cases htime : l = [116, 105, 109, 101]
  · subst htime
    go_enter Tryd.func21, Tryd.ntmps21
    go_wp2_with fail
    go_ret3
    exact ⟨rfl, rfl⟩
  by_cases hcrash : l = [99, 114, 97, 115, 104]
  · subst hcrash
    go_enter Tryd.func21, Tryd.ntmps21
    go_wp2_with fail
    go_ret3
    exact ⟨rfl, rfl⟩
  by_cases hchange : l = [99, 104, 97, 110, 103, 101]
  · subst hchange
    go_enter Tryd.func21, Tryd.ntmps21
    go_wp2_with fail
    go_ret3
    exact ⟨rfl, rfl⟩
  by_cases hworld : l = [119, 111, 114, 108, 100]
  · subst hworld
    go_enter Tryd.func21, Tryd.ntmps21
    go_wp2_with fail
    go_ret3
    exact ⟨rfl, rfl⟩
  by_cases hconfig : l = [99, 111, 110, 102, 105, 103]
  · subst hconfig
    go_enter Tryd.func21, Tryd.ntmps21
    go_wp2_with fail
    go_ret3
    exact ⟨rfl, rfl⟩
  have HB : Hid (boundsF l = (0, 0, false)) := Lib.hid (by
    unfold boundsF
    rw [if_neg (show l ≠ vEvents from hevents), if_neg (by simp [vOnes, vAsk, *]), if_neg (by simp [vTwos, vInject, *]), if_neg (by simp [vTens, *]), if_neg (show l ≠ vWorld from hworld), if_neg (show l ≠ vConfig from hconfig)])
  have eevents : (s.toList == [101, 118, 101, 110, 116, 115]) = false := by rw [hl]; exact beq_eq_false_iff_ne.2 hevents
  have edeliver : (s.toList == [100, 101, 108, 105, 118, 101, 114]) = false := by rw [hl]; exact beq_eq_false_iff_ne.2 hdeliver
  have elose : (s.toList == [108, 111, 115, 101]) = false := by rw [hl]; exact beq_eq_false_iff_ne.2 hlose
  have edouble : (s.toList == [100, 111, 117, 98, 108, 101]) = false := by rw [hl]; exact beq_eq_false_iff_ne.2 hdouble
  have estart : (s.toList == [115, 116, 97, 114, 116]) = false := by rw [hl]; exact beq_eq_false_iff_ne.2 hstart
  have eruin : (s.toList == [114, 117, 105, 110]) = false := by rw [hl]; exact beq_eq_false_iff_ne.2 hruin
  have ejoin : (s.toList == [106, 111, 105, 110]) = false := by rw [hl]; exact beq_eq_false_iff_ne.2 hjoin
  have eanew : (s.toList == [97, 110, 101, 119]) = false := by rw [hl]; exact beq_eq_false_iff_ne.2 hanew
  have ecalm : (s.toList == [99, 97, 108, 109]) = false := by rw [hl]; exact beq_eq_false_iff_ne.2 hcalm
  have estate : (s.toList == [115, 116, 97, 116, 101]) = false := by rw [hl]; exact beq_eq_false_iff_ne.2 hstate
  have eask : (s.toList == [97, 115, 107]) = false := by rw [hl]; exact beq_eq_false_iff_ne.2 hask
  have efuse : (s.toList == [102, 117, 115, 101]) = false := by rw [hl]; exact beq_eq_false_iff_ne.2 hfuse
  have esend : (s.toList == [115, 101, 110, 100]) = false := by rw [hl]; exact beq_eq_false_iff_ne.2 hsend
  have einject : (s.toList == [105, 110, 106, 101, 99, 116]) = false := by rw [hl]; exact beq_eq_false_iff_ne.2 hinject
  have etime : (s.toList == [116, 105, 109, 101]) = false := by rw [hl]; exact beq_eq_false_iff_ne.2 htime
  have ecrash : (s.toList == [99, 114, 97, 115, 104]) = false := by rw [hl]; exact beq_eq_false_iff_ne.2 hcrash
  have echange : (s.toList == [99, 104, 97, 110, 103, 101]) = false := by rw [hl]; exact beq_eq_false_iff_ne.2 hchange
  have eworld : (s.toList == [119, 111, 114, 108, 100]) = false := by rw [hl]; exact beq_eq_false_iff_ne.2 hworld
  have econfig : (s.toList == [99, 111, 110, 102, 105, 103]) = false := by rw [hl]; exact beq_eq_false_iff_ne.2 hconfig
  clear hl hevents hdeliver hlose hdouble hstart hruin hjoin hanew hcalm hstate hask hfuse hsend hinject htime hcrash hchange hworld hconfig
  rw [HB.out]
  go_enter Tryd.func21, Tryd.ntmps21
  go_wp2_with fail
  go_ret3
  exact ⟨rfl, rfl⟩

/-- What number answers: where it is none, the number is some number. -/
structure NumTo (l : List UInt8) (w : World) (e : Ending) (w' : World) : Prop where
  ex : Kp Noone w w'
  is : (∃ n, numF l = some n ∧ e = .returned (.tuple #[.int .i64 n, .bool true])) ∨ (numF l = none ∧ ∃ v, e = .returned (.tuple #[.int .i64 v, .bool false]))
set_option maxHeartbeats 4000000 in
theorem number_any (s : ByteArray) (w : World) (hs : s.size ≤ 281474976710656) (hL : Laid w) : Calls Tryd.prog 31 #[.string s] w fun e w' => NumTo s.data.toList w e w' := by
  have HL := Lib.hid hL
  clear hL
  go_enter Tryd.func31, Tryd.ntmps31
  go_wp2_with fail
  refine (atoi_any s _ (by omega) HL.out).mono ?_
  rintro e w1 hto
  obtain ⟨k1, ⟨n, hn, rfl⟩ | ⟨hno, v, te, pe, rfl⟩⟩ := hto.ex
  case inr =>
    have HQ : Hid (∀ e, e = .returned (.tuple #[.int .i64 v, .bool false]) → NumTo s.data.toList w e w1) := Lib.hid (fun e he => ⟨k1, Or.inr ⟨by
      unfold numF
      split
      · rename_i v hv
        exact (hno v hv).elim
      · rfl, v, he⟩⟩)
    clear hto hno k1
    go_wp2_with fail
    go_ret2
    exact HQ.out _ rfl
  case inl =>
    have HL1 := Lib.hid (HL.out.keep k1)
    have bd := atoi_bound hn
    have HK := Lib.hid k1
    have HN := Lib.hid hn
    clear hto k1 hn
    obtain ⟨B, hB⟩ : ∃ B, Hid (B = decide (Lib.itoa n = s.data.toList)) := ⟨_, Lib.hid rfl⟩
    have hq : ((⟨(Lib.itoa n).toArray⟩ : ByteArray).toList == s.toList) = B := by
      rw [ByteArray.toList_eq, ByteArray.toList_eq, hB.out]
      show ((Lib.itoa n).toArray.toList == s.data.toList) = _
      rw [List.toList_toArray]
      by_cases h : Lib.itoa n = s.data.toList
      · rw [decide_eq_true h, beq_iff_eq]; exact h
      · rw [decide_eq_false h, beq_eq_false_iff_ne]; exact h
    have HQ := Lib.hid hq
    clear hq
    go_wp2_with fail
    refine (itoa_any n bd.1 bd.2 _ HL1.out.pow).mono ?_
    rintro e w2 ⟨rfl, k2⟩
    have hq := HQ.out
    generalize (⟨(Lib.itoa n).toArray⟩ : ByteArray) = sx at *
    have HK2 := Lib.hid (HK.out.trans k2)
    clear k2 HQ HK
    cases B
    · go_wp2_with fail
      go_ret2
      refine ⟨HK2.out, Or.inr ⟨?_, n, rfl⟩⟩
      have := of_decide_eq_false hB.out.symm
      unfold numF
      rw [HN.out]
      simp only []
      rw [if_neg this]
    · go_wp2_with fail
      go_ret2
      refine ⟨HK2.out, Or.inl ⟨n, ?_, rfl⟩⟩
      have := of_decide_eq_true hB.out.symm
      unfold numF
      rw [HN.out]
      simp only []
      rw [if_pos this]

end Go.Proofs.YtfinbppmkffbhaaDoor
