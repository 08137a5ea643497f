/-
  THE WALK of the document's Digits and Show: the decimal numeral of any int.
-/
import Derived.Test.YtfinbppmkffbhaaDoorGaussShow
import Derived.Test.YtfinbppmkffbhaaDoorGaussTurn
import Derived.IntWalk
import Derived.Sort.Grow
import Derived.Laws.IdiomStrings
import Derived.Deep.RegionHeld3
import Derived.Deep.DrawnRows
import Derived.Deep.Cut
import Derived.Deep.RegionLaw
namespace Go.Proofs.YtfinbppmkffbhaaDoor
open Go.RowKit Go.Sort

/-- One byte made a text, in any world in which its cell lies. -/
theorem conv_one (W : World) (g : Nat) (z : Int) (b : UInt8) (T : TypeId) (wr : Nat × Nat) (hz : (b.toNat : Int) = z) (h : W.heap[g]? = some (.cells #[.int .u8 z] T wr)) :
    (convert 25 9 (.slice (some ⟨g, 0, none⟩) 1 1)).run Tryd.prog W = .ok (.string ⟨#[b]⟩) W :=
  run_convert_bytes_back W 25 9 5 ⟨g, 0, none⟩ 1 [b] Tryd.underlying25 Tryd.underlying5 Tryd.underlying9 (fun j hj => by
    have hj0 : j = 0 := by simpa using hj
    subst hj0
    rw [Addr.add_lit, cell_of_row _ g _ _ _ _ h]
    simp [hz])
theorem tdiv_neg (n : Int) (h : n ≤ 0) : n.tdiv 10 = -((-n) / 10) := by
  rw [← Int.tdiv_eq_ediv_of_nonneg (by omega), Int.neg_tdiv, Int.neg_neg]
theorem tmod_neg (n : Int) (h : n ≤ 0) : n.tmod 10 = -((-n) % 10) := by
  rw [← Int.tmod_eq_emod_of_nonneg (by omega), Int.neg_tmod, Int.neg_neg]
theorem itoa_step_neg (n : Int) (h : n ≤ -10) : Lib.itoa n = Lib.itoa (n.tdiv 10) ++ [UInt8.ofNat (48 + n.natAbs % 10)] := by
  have e : (n.tdiv 10).natAbs = n.natAbs / 10 := by rw [Int.natAbs_tdiv]; rfl
  have hn : n.tdiv 10 < 0 := by rw [tdiv_neg n (by omega)]; omega
  unfold Lib.itoa
  rw [if_pos (by omega), if_pos hn, e, Lib.decDigits, dif_neg (by omega)]
  rfl
theorem itoa_step_pos (n : Int) (h : 10 ≤ n) : Lib.itoa n = Lib.itoa (n.tdiv 10) ++ [UInt8.ofNat (48 + n.natAbs % 10)] := by
  have e : n.tdiv 10 = n / 10 := Int.tdiv_eq_ediv_of_nonneg (by omega)
  unfold Lib.itoa
  rw [e, if_neg (by omega), if_neg (by omega), Lib.decDigits, dif_neg (by omega), show n.toNat / 10 = (n / 10).toNat by omega, show n.toNat % 10 = n.natAbs % 10 by omega]
theorem itoa_one_neg (n : Int) (h0 : n < 0) (h : -10 < n) : Lib.itoa n = [45, UInt8.ofNat (48 + n.natAbs)] := by
  unfold Lib.itoa
  rw [if_pos h0, Lib.decDigits_one (by omega)]
theorem itoa_one_pos (n : Int) (h0 : 0 ≤ n) (h : n < 10) : Lib.itoa n = [UInt8.ofNat (48 + n.natAbs)] := by
  unfold Lib.itoa
  rw [if_neg (by omega), Lib.decDigits_one (by omega), show n.toNat = n.natAbs by omega]
theorem byte_val (d : Nat) (h : d < 10) : ((UInt8.ofNat (48 + d)).toNat : Int) = 48 + d := by
  have : (UInt8.ofNat (48 + d)).toNat = 48 + d := by simp; omega
  omega
set_option maxHeartbeats 2000000 in
set_option maxRecDepth 100000 in
theorem digits_ref (k : Nat) : ∀ (n : Int) (w : World), n.natAbs < k → -9223372036854775808 ≤ n → n ≤ 9223372036854775807 →
    Calls Tryd.prog 20 #[.int .i64 n] w fun e w' => e = .returned (.string ⟨(Lib.itoa n).toArray⟩) ∧ Kp Noone w w' := by
  induction k with
  | zero => intro n w h; omega
  | succ k ih =>
    intro n w hk h0 h1
    by_cases hn : n < 0
    · by_cases ht : -10 < n
      · obtain ⟨b, hb⟩ : ∃ b, UInt8.ofNat (48 + n.natAbs) = b := ⟨_, rfl⟩
        have hbv := byte_val n.natAbs (by omega)
        rw [hb] at hbv
        have hi := itoa_one_neg n hn ht
        rw [hb] at hi
        have HI := Lib.hid hi
        have hz : (b.toNat : Int) = 48 - n := by omega
        have hcv := fun W : World => conv_one (W.alloc (.cells #[.int .u8 (48 - n)] 5)) W.heap.size (48 - n) b 5 _ hz (heap_alloc_new W _)
        have hwr : IntKind.u8.wrap (48 - n) = 48 - n := IntWalk.u8_in _ (by omega)
        have hwi : IntKind.i64.wrap (48 - n) = 48 - n := IntWalk.i64_in _ (by omega)
        have HK := Lib.hid (fun W : World => (Kp.refl Noone W).alloc (.cells #[.int .u8 (48 - n)] 5))
        clear hb hbv hi hz
        go_enter Tryd.func20, Tryd.ntmps20
        go_wp2_with fail
        go_ret
        exact ⟨ret_eq (by rw [HI.out]; rfl), HK.out w⟩
      · obtain ⟨b, hb⟩ : ∃ b, UInt8.ofNat (48 + n.natAbs % 10) = b := ⟨_, rfl⟩
        have hbv := byte_val (n.natAbs % 10) (by omega)
        rw [hb] at hbv
        have hi := itoa_step_neg n (by omega)
        rw [hb] at hi
        have HI := Lib.hid hi
        have hq0 := tdiv_neg n (by omega)
        have hr0 := tmod_neg n (by omega)
        obtain ⟨q, hq⟩ : ∃ q, n.tdiv 10 = q := ⟨_, rfl⟩
        obtain ⟨r, hr⟩ : ∃ r, n.tmod 10 = r := ⟨_, rfl⟩
        rw [hq] at hq0
        rw [hr] at hr0
        have hz : (b.toNat : Int) = 48 - r := by omega
        have HZ := Lib.hid hz
        have hcv := fun W : World => conv_one (W.alloc (.cells #[.int .u8 (48 - r)] 5)) W.heap.size (48 - r) b 5 _ hz (heap_alloc_new W _)
        have hcd := fun W : World => conv_one ((W.alloc (.cells #[.int .u8 (48 - r)] 5)).drew) W.heap.size (48 - r) b 5 _ hz (heap_alloc_new W _)
        have hwr : IntKind.u8.wrap (48 - r) = 48 - r := IntWalk.u8_in _ (by omega)
        have hwi : IntKind.i64.wrap (48 - r) = 48 - r := IntWalk.i64_in _ (by omega)
        have hwq : IntKind.i64.wrap q = q := IntWalk.i64_in _ (by omega)
        have hwm : IntKind.i64.wrap r = r := IntWalk.i64_in _ (by omega)
        have hih := fun W => ih q W (by omega) (by omega) (by omega)
        have hlen : (⟨(Lib.itoa q).toArray⟩ : ByteArray).size ≤ 23 := by rw [ba_size]; exact itoa_len q (by omega)
        have happ : (⟨(Lib.itoa q).toArray⟩ : ByteArray) ++ ⟨#[b]⟩ = ⟨(Lib.itoa n).toArray⟩ := by rw [HI.out, hq]; exact ba_append _ [b]
        have HAP := Lib.hid happ
        generalize (⟨(Lib.itoa q).toArray⟩ : ByteArray) = sq at *
        have hno : ¬ 9223372036854775807 < sq.size + 1 := by omega
        have k0 : Kp Noone w w.drew := (Kp.refl _ _).drew
        have HK0 := Lib.hid k0
        clear hb hbv hi hz hq0 hr0 HI happ ih k0
        go_enter Tryd.func20, Tryd.ntmps20
        go_upto_region 4 with fail
        go_region_law (first
          | (go_simp; go_at_call 20; refine (hih _).mono ?_; rintro e w4 ⟨rfl, k4⟩; (try have hc4 := conv_one w4 w.heap.size (48 - r) b 5 (0, 0) HZ.out (k4.heap (show ((w.alloc (.cells #[.int .u8 (48 - r)] 5)).drew).heap[w.heap.size]? = _ from heap_alloc_new w _) id)))
          | fail)
        all_goals (
          go_simp
          go_wp2_with fail
          go_ret
          first
            | exact ⟨ret_eq (by rw [← HAP.out]; rfl), ((HK0.out.trans k4).alloc _)⟩
            | exact ⟨ret_eq (by rw [← HAP.out]; rfl), (((Kp.refl Noone w).alloc _).drew.trans k4)⟩)
    · by_cases ht : n < 10
      · obtain ⟨b, hb⟩ : ∃ b, UInt8.ofNat (48 + n.natAbs) = b := ⟨_, rfl⟩
        have hbv := byte_val n.natAbs (by omega)
        rw [hb] at hbv
        have hi := itoa_one_pos n (by omega) ht
        rw [hb] at hi
        have HI := Lib.hid hi
        have hz : (b.toNat : Int) = 48 + n := by omega
        have hcv := fun W : World => conv_one (W.alloc (.cells #[.int .u8 (48 + n)] 5)) W.heap.size (48 + n) b 5 _ hz (heap_alloc_new W _)
        have hwr : IntKind.u8.wrap (48 + n) = 48 + n := IntWalk.u8_in _ (by omega)
        have hwi : IntKind.i64.wrap (48 + n) = 48 + n := IntWalk.i64_in _ (by omega)
        have HK := Lib.hid (fun W : World => (Kp.refl Noone W).alloc (.cells #[.int .u8 (48 + n)] 5))
        clear hb hbv hi hz
        go_enter Tryd.func20, Tryd.ntmps20
        go_wp2_with fail
        go_ret
        exact ⟨ret_eq (by rw [HI.out]; rfl), HK.out w⟩
      · obtain ⟨b, hb⟩ : ∃ b, UInt8.ofNat (48 + n.natAbs % 10) = b := ⟨_, rfl⟩
        have hbv := byte_val (n.natAbs % 10) (by omega)
        rw [hb] at hbv
        have hi := itoa_step_pos n (by omega)
        rw [hb] at hi
        have HI := Lib.hid hi
        have hq0 : n.tdiv 10 = n / 10 := Int.tdiv_eq_ediv_of_nonneg (by omega)
        have hr0 : n.tmod 10 = n % 10 := Int.tmod_eq_emod_of_nonneg (by omega)
        obtain ⟨q, hq⟩ : ∃ q, n.tdiv 10 = q := ⟨_, rfl⟩
        obtain ⟨r, hr⟩ : ∃ r, n.tmod 10 = r := ⟨_, rfl⟩
        rw [hq] at hq0
        rw [hr] at hr0
        have hz : (b.toNat : Int) = 48 + r := by omega
        have HZ := Lib.hid hz
        have hcv := fun W : World => conv_one (W.alloc (.cells #[.int .u8 (48 + r)] 5)) W.heap.size (48 + r) b 5 _ hz (heap_alloc_new W _)
        have hcd := fun W : World => conv_one ((W.alloc (.cells #[.int .u8 (48 + r)] 5)).drew) W.heap.size (48 + r) b 5 _ hz (heap_alloc_new W _)
        have hwr : IntKind.u8.wrap (48 + r) = 48 + r := IntWalk.u8_in _ (by omega)
        have hwi : IntKind.i64.wrap (48 + r) = 48 + r := IntWalk.i64_in _ (by omega)
        have hwq : IntKind.i64.wrap q = q := IntWalk.i64_in _ (by omega)
        have hwm : IntKind.i64.wrap r = r := IntWalk.i64_in _ (by omega)
        have hih := fun W => ih q W (by omega) (by omega) (by omega)
        have hlen : (⟨(Lib.itoa q).toArray⟩ : ByteArray).size ≤ 23 := by rw [ba_size]; exact itoa_len q (by omega)
        have happ : (⟨(Lib.itoa q).toArray⟩ : ByteArray) ++ ⟨#[b]⟩ = ⟨(Lib.itoa n).toArray⟩ := by rw [HI.out, hq]; exact ba_append _ [b]
        have HAP := Lib.hid happ
        generalize (⟨(Lib.itoa q).toArray⟩ : ByteArray) = sq at *
        have hno : ¬ 9223372036854775807 < sq.size + 1 := by omega
        have k0 : Kp Noone w w.drew := (Kp.refl _ _).drew
        have HK0 := Lib.hid k0
        clear hb hbv hi hz hq0 hr0 HI happ ih k0
        go_enter Tryd.func20, Tryd.ntmps20
        go_upto_region 7 with fail
        go_region_law (first
          | (go_simp; go_at_call 20; refine (hih _).mono ?_; rintro e w4 ⟨rfl, k4⟩; (try have hc4 := conv_one w4 w.heap.size (48 + r) b 5 (0, 0) HZ.out (k4.heap (show ((w.alloc (.cells #[.int .u8 (48 + r)] 5)).drew).heap[w.heap.size]? = _ from heap_alloc_new w _) id)))
          | fail)
        all_goals (
          go_simp
          go_wp2_with fail
          go_ret
          first
            | exact ⟨ret_eq (by rw [← HAP.out]; rfl), ((HK0.out.trans k4).alloc _)⟩
            | exact ⟨ret_eq (by rw [← HAP.out]; rfl), (((Kp.refl Noone w).alloc _).drew.trans k4)⟩)

theorem digits_any (n : Int) (w : World) (h0 : -9223372036854775808 ≤ n) (h1 : n ≤ 9223372036854775807) :
    Calls Tryd.prog 20 #[.int .i64 n] w fun e w' => e = .returned (.string ⟨(Lib.itoa n).toArray⟩) ∧ Kp Noone w w' :=
  digits_ref (n.natAbs + 1) n w (by omega) h0 h1
theorem show_neg (n m : Int) (h : m < 0) : (⟨(showL n m).toArray⟩ : ByteArray) = ⟨(Lib.itoa n).toArray⟩ ++ ⟨(Lib.itoa m).toArray⟩ ++ ⟨#[105]⟩ := by
  have e : showL n m = (Lib.itoa n ++ Lib.itoa m) ++ [105] := by
    have := sgn_itoa m
    rw [if_pos h, List.nil_append] at this
    unfold showL
    rw [← this]
  rw [e, ← ba_append, ← ba_append]
set_option maxHeartbeats 2000000 in
set_option maxRecDepth 100000 in
theorem refShow_any (n m : Int) (w : World) (n0 : -9223372036854775808 ≤ n) (n1 : n ≤ 9223372036854775807) (m0 : -9223372036854775808 ≤ m) (m1 : m ≤ 9223372036854775807) :
    Calls Tryd.prog 24 #[.int .i64 n, .int .i64 m] w fun e w' => e = .returned (.string ⟨(showL n m).toArray⟩) ∧ Kp Noone w w' := by
  have hn := digits_any n
  have hm := digits_any m
  have hn2 : (⟨(Lib.itoa n).toArray⟩ : ByteArray).size ≤ 23 := by rw [ba_size]; exact itoa_len n (by omega)
  have hm2 : (⟨(Lib.itoa m).toArray⟩ : ByteArray).size ≤ 23 := by rw [ba_size]; exact itoa_len m (by omega)
  by_cases h : m < 0
  · have HE := Lib.hid (show_neg n m h)
    generalize (⟨(Lib.itoa n).toArray⟩ : ByteArray) = sn at *
    generalize (⟨(Lib.itoa m).toArray⟩ : ByteArray) = sm at *
    go_enter Tryd.func24, Tryd.ntmps24
    go_wp2_with fail
    refine (hn _ n0 n1).mono ?_
    rintro e w1 ⟨rfl, k1⟩
    go_wp2_with fail
    refine (hm _ m0 m1).mono ?_
    rintro e w2 ⟨rfl, k2⟩
    go_wp2_with fail
    go_ret
    exact ⟨ret_eq (by rw [HE.out]; rfl), k1.trans k2⟩
  · have HE := Lib.hid (show_split n m [43] (by rw [if_neg h]))
    generalize (⟨(Lib.itoa n).toArray⟩ : ByteArray) = sn at *
    generalize (⟨(Lib.itoa m).toArray⟩ : ByteArray) = sm at *
    go_enter Tryd.func24, Tryd.ntmps24
    go_wp2_with fail
    refine (hn _ n0 n1).mono ?_
    rintro e w1 ⟨rfl, k1⟩
    go_wp2_with fail
    refine (hm _ m0 m1).mono ?_
    rintro e w2 ⟨rfl, k2⟩
    go_wp2_with fail
    go_ret
    exact ⟨ret_eq (by rw [HE.out]; rfl), k1.trans k2⟩

end Go.Proofs.YtfinbppmkffbhaaDoor
