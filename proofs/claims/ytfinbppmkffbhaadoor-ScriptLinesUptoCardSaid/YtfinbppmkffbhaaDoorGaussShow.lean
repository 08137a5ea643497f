/-
  THE WALK of Show at a right number.
-/
import Derived.Test.YtfinbppmkffbhaaDoorGaussTurn
import Derived.Test.YtfinbppmkffbhaaDoorShowPlain
import Derived.Test.YtfinbppmkffbhaaDoorItoa
import Derived.Test.YtfinbppmkffbhaaDoorBase2
import Derived.Lib.LaidTab
import Derived.Sort.Grow
namespace Go.Proofs.YtfinbppmkffbhaaDoor
open Go.RowKit Go.Sort

theorem gTab : Tryd.prog.globalNamed "internal/strconv.uint64pow10" = some 2 := by kernel_rfl
def PowTab (w : World) : Prop := Lib.TabIs Tryd.prog w "internal/strconv.uint64pow10" .u64 Lib.pow10Tab
theorem PowTab.keep {w w' : World} (h : PowTab w) (k : Kp Noone w w') : PowTab w' := by
  have hb : 2 < w.heap.size := World.block_lt_of_cell? w ⟨_, 0, none⟩ (h.cell gTab 0 (by decide))
  unfold PowTab Lib.TabIs World.var? at *
  simp only [gTab, Option.bind_some] at h ⊢
  rw [k.block _ hb id]
  exact h

theorem ba_append (a b : List UInt8) : (⟨a.toArray⟩ : ByteArray) ++ ⟨b.toArray⟩ = ⟨(a ++ b).toArray⟩ := by
  apply ByteArray.ext
  simp
theorem ba_size (a : List UInt8) : (⟨a.toArray⟩ : ByteArray).size = a.length := by simp [ByteArray.size]

theorem show_split (n m : Int) (sg : List UInt8) (h : sg = (if m < 0 then [] else [43])) : (⟨(showL n m).toArray⟩ : ByteArray) = ⟨(Lib.itoa n).toArray⟩ ++ ⟨sg.toArray⟩ ++ ⟨(Lib.itoa m).toArray⟩ ++ ⟨#[105]⟩ := by
  have e : showL n m = ((Lib.itoa n ++ sg) ++ Lib.itoa m) ++ [105] := by
    have := sgn_itoa m
    rw [← h] at this
    unfold showL
    rw [← this]
    simp only [List.append_assoc]
  rw [e, ← ba_append, ← ba_append, ← ba_append]

theorem kp_grow {w : World} (k : Nat) (os : Array Obj) : Kp Noone w (grow (w.drewN k) os) := by
  refine ⟨rfl, rfl, rfl, by simp [grow, World.drewN], fun i hi _ => ?_⟩
  show (w.heap ++ os)[i]? = _
  rw [Array.getElem?_append_left hi]

set_option maxHeartbeats 400000 in
theorem itoa_any (n : Int) (h0 : -9223372036854775808 ≤ n) (h1 : n ≤ 9223372036854775807) (w : World) (ht : PowTab w) :
    Calls Tryd.prog 22 #[.int .i64 n] w fun e w' => e = .returned (.string ⟨(Lib.itoa n).toArray⟩) ∧ Kp Noone w w' :=
  (Tryd.strconv_Itoa n h0 h1 w ht).mono fun e w' ⟨he, k, os, hw⟩ => ⟨he, by rw [hw]; exact kp_grow k os⟩

set_option maxHeartbeats 1000000 in
theorem show_ok (a b : Nat) (n m : Int) (w : World) (ha : FI a n) (hb : FI b m) (h1 : rB n m = true) (ht : PowTab w) :
    Calls Tryd.prog 29 #[.complex .f64 a b] w fun e w' => e = .returned (.tuple #[.string ⟨(showL n m).toArray⟩, .bool true]) ∧ Kp Noone w w' := by
  have b1 := rB_bound h1
  have H := Lib.hid h1
  clear h1
  go_enter Tryd.func29, Tryd.ntmps29
  go_wp2_with fail
  refine (parts_any a b n m _ ha hb (by omega) (by omega)).mono ?_
  rintro e w1 ⟨rfl, rfl⟩
  rw [partsT_in H.out]
  have hn1 := itoa_len n (by omega)
  have hm1 := itoa_len m (by omega)
  have hn2 : (⟨(Lib.itoa n).toArray⟩ : ByteArray).size ≤ 23 := by rw [ba_size]; exact hn1
  have hm2 : (⟨(Lib.itoa m).toArray⟩ : ByteArray).size ≤ 23 := by rw [ba_size]; exact hm1
  have HE := Lib.hid (show_split n m)
  clear hn1 hm1
  by_cases hm : m < 0
  · have HS := Lib.hid (HE.out [] (by rw [if_pos hm]))
    clear HE
    go_wp2_with fail
    refine (itoa_any n (by omega) (by omega) _ ht).mono ?_
    rintro e w1 ⟨rfl, k1⟩
    generalize (⟨(Lib.itoa n).toArray⟩ : ByteArray) = sn at *
    go_wp2_with fail
    refine (itoa_any m (by omega) (by omega) _ (ht.keep k1)).mono ?_
    rintro e w2 ⟨rfl, k2⟩
    generalize (⟨(Lib.itoa m).toArray⟩ : ByteArray) = sm at *
    go_wp2_with fail
    go_ret2
    exact ⟨ret_eq (by rw [HS.out]; rfl), k1.trans k2⟩
  · have HS := Lib.hid (HE.out [43] (by rw [if_neg hm]))
    clear HE
    go_wp2_with fail
    refine (itoa_any n (by omega) (by omega) _ ht).mono ?_
    rintro e w1 ⟨rfl, k1⟩
    generalize (⟨(Lib.itoa n).toArray⟩ : ByteArray) = sn at *
    go_wp2_with fail
    refine (itoa_any m (by omega) (by omega) _ (ht.keep k1)).mono ?_
    rintro e w2 ⟨rfl, k2⟩
    generalize (⟨(Lib.itoa m).toArray⟩ : ByteArray) = sm at *
    go_wp2_with fail
    go_ret2
    exact ⟨ret_eq (by rw [HS.out]; rfl), k1.trans k2⟩

end Go.Proofs.YtfinbppmkffbhaaDoor
