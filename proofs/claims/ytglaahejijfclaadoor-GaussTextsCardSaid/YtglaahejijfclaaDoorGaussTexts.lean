/-
  GaussTexts: every Show, and every Read of any text: what is read is shown again; what is shown is read.
-/
import Derived.Test.YtglaahejijfclaaDoorGaussRead
import Derived.Test.YtglaahejijfclaaDoorDigits
import Derived.Test.YtglaahejijfclaaDoorReadI
import Derived.IntWalk
import Derived.Stop.LaidErr
import Derived.LaidMore
import Derived.Stop.Joined
import Derived.Lib.LaidU8T
import Derived.PinnedBridge
import Derived.ChangeMaps
namespace Go.Proofs.YtglaahejijfclaaDoor
open Go.RowKit

theorem four_three : (⟨(showL (-4) 3).toArray⟩ : ByteArray) = ⟨#[45, 52, 43, 51, 105]⟩ := by
  have h1 : Lib.itoa (-4) = [45, 52] := itoa_one_neg (-4) (by decide) (by decide)
  have h2 : Lib.decDigits (3 : Int).natAbs = [51] := Lib.decDigits_one (by decide)
  unfold showL
  rw [h1, h2]
  rfl
theorem show_len (n m : Int) (n0 : -9223372036854775808 ≤ n) (n1 : n ≤ 9223372036854775807) (m0 : -9223372036854775808 ≤ m) (m1 : m ≤ 9223372036854775807) : (⟨(showL n m).toArray⟩ : ByteArray).size ≤ 48 := by
  rw [ba_size]
  exact (pieces (showL n m) n m n0 n1 m0 m1 rfl).len
set_option maxHeartbeats 4000000 in
set_option maxRecDepth 1000000 in
theorem gaussTexts_walk (re im : Int) (s : ByteArray) (w : World) (n0 : -9223372036854775808 ≤ re) (n1 : re ≤ 9223372036854775807) (m0 : -9223372036854775808 ≤ im) (m1 : im ≤ 9223372036854775807) (hs : s.size ≤ 140737488351232) (hL : Laid w) :
    Calls Tryd.prog 5 #[.int .i64 re, .int .i64 im, .string s] w fun e w' => e = .returned (.bool true) ∧ Kp Noone w w' := by
  have f3 := fi_of 3 (by decide)
  have f4 := fi_of (-4) (by decide)
  have v3 : floatOfInt .f64 3 = 4613937818241073152 := by decide +kernel
  have v4 : floatOfInt .f64 (-4) = 13839561654909534208 := by decide +kernel
  rw [v3] at f3
  rw [v4] at f4
  have H43 := Lib.hid four_three
  have HL := Lib.hid hL
  have HSL := Lib.hid (show_len re im n0 n1 m0 m1)
  have e0 := fi_eq fi_zero fi_zero
  simp only [decide_true] at e0
  clear v3 v4 hL
  go_enter Tryd.func5, Tryd.ntmps5
  go_wp2_with fail
  refine (show_ok _ _ (-4) 3 _ f4 f3 (by decide) HL.out.pow).mono ?_
  rintro e w1 ⟨rfl, k1⟩
  rw [H43.out]
  clear f3 f4
  have HK1 := Lib.hid k1
  have HL1 := Lib.hid (HL.out.keep k1)
  clear k1 HL
  go_wp2_with fail
  refine (head3_any _).mono ?_
  rintro e w2 ⟨rfl, rfl⟩
  go_wp2_with fail
  refine (refRight_any re im _).mono ?_
  rintro e w2 ⟨rfl, rfl⟩
  cases hr : rB re im
  case' true =>
    have b1 := rB_bound hr
    have HR := Lib.hid hr
    have f1 := fi_of re (by omega)
    have f2 := fi_of im (by omega)
    clear hr
    go_wp2_with fail
    refine (show_ok _ _ re im _ f1 f2 HR.out HL1.out.pow).mono ?_
    rintro e w3 ⟨rfl, k3⟩
    have HK3 := Lib.hid (HK1.out.trans k3)
    have HL3 := Lib.hid (HL1.out.keep k3)
    clear k3 HK1 HL1
    go_wp2_with fail
    refine (read_any _ _ (Nat.le_trans HSL.out (by decide)) HL3.out).mono ?_
    rintro e w4 hto
    obtain ⟨k4, -⟩ := hto.ex
    have he := hto.shown re im n0 n1 m0 m1 rfl
    rw [if_pos HR.out] at he
    subst he
    have HK4 := Lib.hid (HK3.out.trans k4)
    have HL4 := Lib.hid (HL3.out.keep k4)
    clear k4 HK3 HL3 hto
    have hsh := refShow_any re im
    generalize (⟨(showL re im).toArray⟩ : ByteArray) = sx at *
    go_wp2_with fail
    refine (hsh _ n0 n1 m0 m1).mono ?_
    rintro e w5 ⟨rfl, k5⟩
    have HK5 := Lib.hid (HK4.out.trans k5)
    have HL5 := Lib.hid (HL4.out.keep k5)
    clear k5 HK4 HL4 hsh
    go_wp2_with fail
    refine (is_in re im _ HR.out).mono ?_
    rintro e w6 ⟨rfl, rfl⟩
    clear f1 f2 b1 HR
    go_wp2_with fail
  case' false =>
    have HR := Lib.hid hr
    clear hr
    go_wp2_with fail
    refine (refShow_any re im _ n0 n1 m0 m1).mono ?_
    rintro e w3 ⟨rfl, k3⟩
    have HK3 := Lib.hid (HK1.out.trans k3)
    have HL3 := Lib.hid (HL1.out.keep k3)
    clear k3 HK1 HL1
    go_wp2_with fail
    refine (read_any _ _ (Nat.le_trans HSL.out (by decide)) HL3.out).mono ?_
    rintro e w5 hto
    obtain ⟨k5, -⟩ := hto.ex
    have he := hto.shown re im n0 n1 m0 m1 rfl
    rw [if_neg (by rw [HR.out]; decide)] at he
    subst he
    have HK5 := Lib.hid (HK3.out.trans k5)
    have HL5 := Lib.hid (HL3.out.keep k5)
    clear k5 HK3 HL3 hto HR
    generalize (⟨(showL re im).toArray⟩ : ByteArray) = sx at *
    go_wp2_with fail
  all_goals (
    refine (read_any s _ (by omega) HL5.out).mono ?_
    rintro e w6 hto
    obtain ⟨k6, ⟨n, m, hr, hs, rfl⟩ | ⟨c, hc, rfl⟩⟩ := hto.ex
    · have b1 := rB_bound hr
      have HR := Lib.hid hr
      have f1 := fi_of n (by omega)
      have f2 := fi_of m (by omega)
      have HK6 := Lib.hid (HK5.out.trans k6)
      have HL6 := Lib.hid (HL5.out.keep k6)
      have HS := Lib.hid hs
      clear hr hto k6 HK5 HL5 hs
      go_wp2_with fail
      refine (show_ok _ _ n m _ f1 f2 HR.out HL6.out.pow).mono ?_
      rintro e w7 ⟨rfl, k7⟩
      have HK7 := Lib.hid (HK6.out.trans k7)
      clear k7 HK6 HL6 f1 f2 HR
      rw [← HS.out]
      clear HS
      go_wp2_with fail
      go_ret
      exact ⟨rfl, HK7.out⟩
    · have HK6 := Lib.hid (HK5.out.trans k6)
      clear hto k6 HK5 HL5
      rcases hc with rfl | rfl
      · go_wp2_with fail
        go_ret
        exact ⟨rfl, HK6.out⟩
      · go_wp2_with fail
        go_ret
        exact ⟨rfl, HK6.out⟩)

/-! ### What the row lays -/
def ren : Go.Shelf.Ren := ⟨fun x => x, fun x => if x = 5 then 5 else if x = 119 then 100 else if x = 138 then 102 else 103, fun x => if x = 3 then 5 else 6⟩
theorem u8types : U8Types Tryd.prog ren := ⟨by kernel_rfl, by kernel_rfl, by kernel_rfl, by kernel_rfl⟩
theorem u8extra : U8Extra Tryd.prog ren := ⟨by kernel_rfl, by kernel_rfl, by kernel_rfl, by kernel_rfl, by kernel_rfl, by kernel_rfl, by kernel_rfl⟩
theorem accept_eq : (Rows.laid_unicode_utf8_acceptRanges : DataW Unit) = Lib.acceptData := by kernel_rfl
theorem starE : "*" ++ "errors.errorString" = "*errors.errorString" := by decide
theorem rowE (u : TypeId) (h : Tryd.prog.typeName? 3 u = some "*errors.errorString") : u = 107 :=
  typeName_ptr_named (nm := "errors.errorString") (by rw [starE]; kernel_rfl) (by kernel_rfl) (by decide) u (by rw [starE]; exact h)
theorem laid_of {W : World} (h : laidMetH Tryd.prog Rows.gaussTextsRow.laid W) : Laid W := by
  rw [MakeChecks.laidMetH_plain _ _ _ (by kernel_rfl)] at h
  have h2 : laidMet Tryd.prog (("internal/strconv.uint64pow10", Rows.laid_internal_strconv_uint64pow10) :: [("unicode/utf8.acceptRanges", Rows.laid_unicode_utf8_acceptRanges), ("strconv.ErrRange", Rows.laid_strconv_ErrRange), ("strconv.ErrSyntax", Rows.laid_strconv_ErrSyntax), ("unicode/utf8.first", Rows.laid_unicode_utf8_first)]) W := h.tail.tail
  have h3 : laidMet Tryd.prog (("strconv.ErrRange", Rows.laid_strconv_ErrRange) :: [("strconv.ErrSyntax", Rows.laid_strconv_ErrSyntax), ("unicode/utf8.first", Rows.laid_unicode_utf8_first)]) W := h2.tail.tail
  have h4 : laidMet Tryd.prog (("strconv.ErrSyntax", Rows.laid_strconv_ErrSyntax) :: [("unicode/utf8.first", Rows.laid_unicode_utf8_first)]) W := h3.tail
  have r1 : Lib.VarReads Tryd.prog W "unicode/utf8.first" Lib.firstData := by
    rw [← Pinned.utf8First_eq]
    exact Lib.laidMet.reads h4 (List.mem_cons_of_mem _ (List.mem_cons_self ..))
  have r2 : Lib.VarReads Tryd.prog W "unicode/utf8.acceptRanges" Lib.acceptData := by
    rw [← accept_eq]
    exact Lib.laidMet.reads h2 (List.mem_cons_of_mem _ (List.mem_cons_self ..))
  obtain ⟨a1, s1, v1, -⟩ := laid_sentinel (g := 3) (ti := 52) (tp := 107) (te := 109) (ts := 9) h3 (by kernel_rfl) (by kernel_rfl) Tryd.underlying52 rowE Tryd.underlying107 Tryd.underlying109 rfl rfl Tryd.underlying9 (by kernel_rfl) (by kernel_rfl)
  obtain ⟨a2, s2, v2, -⟩ := laid_sentinel (g := 2) (ti := 52) (tp := 107) (te := 109) (ts := 9) h4 (by kernel_rfl) (by kernel_rfl) Tryd.underlying52 rowE Tryd.underlying107 Tryd.underlying109 rfl rfl Tryd.underlying9 (by kernel_rfl) (by kernel_rfl)
  exact ⟨Lib.tabIs_of_head (t := 96) (e := 69) (n := 20) gTab (by kernel_rfl) (by kernel_rfl) (by kernel_rfl) (by kernel_rfl) (by kernel_rfl) h2, utf8Tabs_of_readsT u8types u8extra r1 r2, ⟨_, _, v2⟩, ⟨_, _, v1⟩⟩

set_option maxRecDepth 100000 in
theorem gaussTexts_core {H : Type} {enc : TypeId × Value → H} (W : World) (base : Nat) (v0 : Value) (d0 : DataW H) (p0 : List MemPlace) (v1 : Value) (d1 : DataW H) (p1 : List MemPlace) (v2 : Value) (d2 : DataW H) (p2 : List MemPlace)
    (h0 : DataW.Trod enc Tryd.prog W 0 (fun _ => true) true 3 v0 d0 p0) (h1 : DataW.Trod enc Tryd.prog W 0 (fun _ => true) true 3 v1 d1 p1) (h2 : DataW.Trod enc Tryd.prog W 0 (fun _ => true) true 9 v2 d2 p2)
    (g0 : Value.okWide Tryd.prog W .any base 3 v0) (g1 : Value.okWide Tryd.prog W .any base 3 v1) (g2 : Value.okWide Tryd.prog W .any base 9 v2)
    (_w0 : ∀ n ∈ d0.weights Tryd.prog 3, n ≤ reachBytes) (_w1 : ∀ n ∈ d1.weights Tryd.prog 3, n ≤ reachBytes) (w2 : ∀ n ∈ d2.weights Tryd.prog 9, n ≤ reachBytes)
    (hL : laidMetH Tryd.prog Rows.gaussTextsRow.laid W) :
    Calls Tryd.prog 5 #[v0, v1, v2] W fun e w' => e = .returned (.bool true) ∧ Kp Noone W w' := by
  obtain ⟨k0, rfl, a0, b0⟩ := arg_i64 h0 g0
  obtain ⟨k1, rfl, a1, b1⟩ := arg_i64 h1 g1
  obtain ⟨s, rfl, rfl, rfl, hs⟩ := Go.ChangeMaps.open_string Tryd.underlying9 g2 h2
  have hz := w2 s.data.toList.length (by simp [DataW.weights])
  have hz2 : s.data.toList.length = s.size := by rw [Array.length_toList]; rfl
  have hr : reachBytes = 140737488351232 := rfl
  exact gaussTexts_walk k0 k1 s W a0 b0 a1 b1 (by omega) (laid_of hL)

end Go.Proofs.YtglaahejijfclaaDoor
