/-
  WALK of ScriptOps: a right operation comes back from its words; words that are read are what would be written.
-/
import Derived.Test.YtfinbppmkffbhaaDoorRefSplit
import Derived.Test.YtfinbppmkffbhaaDoorScriptI
import Derived.Laws.MakeOwn
import Derived.Laws.OwnMore
import Derived.Laws.IdiomStrings
namespace Go.Proofs.YtfinbppmkffbhaaDoor
open Go.RowKit Go.Sort

theorem joinF_snoc (c : UInt8) (l : List (List UInt8)) (a : List UInt8) (h : l ≠ []) : joinF c (l ++ [a]) = joinF c l ++ c :: a := by
  induction l with
  | nil => exact (h rfl).elim
  | cons b r ih =>
    by_cases hr : r = []
    · subst hr
      rw [List.singleton_append, joinF_cons _ _ _ (by simp), joinF_one, joinF_one]
    · rw [List.cons_append, joinF_cons _ _ _ (by simp), joinF_cons _ _ _ hr, ih hr]
      simp
theorem wordsW_ne (o : OpV) : wordsW o ≠ [] := by unfold wordsW; simp
theorem words_split (o : OpV) : splitF 32 (wordsL o) = wordsW o := split_join 32 _ (wordsW_ne o) (fun w h => (wordsW_no o w h).1)
/-- The words so far, as the law joins them. -/
def allTo (ws : List (List UInt8)) (j : Nat) : List UInt8 := joinF 32 (ws.take j)
theorem take_getW2 (ws : List (List UInt8)) (j : Nat) (h : j < ws.length) : ws.take (j + 1) = ws.take j ++ [getW ws j] := by
  rw [List.take_succ_eq_append_getElem h]
  unfold getW
  rw [List.getD_eq_getElem?_getD, List.getElem?_eq_getElem h]
  rfl
theorem allTo_zero (ws : List (List UInt8)) (h : 0 < ws.length) : allTo ws 1 = getW ws 0 := by
  unfold allTo
  rw [take_getW2 ws 0 h]
  rfl
theorem allTo_step (ws : List (List UInt8)) (j : Nat) (h0 : 0 < j) (h : j < ws.length) : allTo ws (j + 1) = allTo ws j ++ 32 :: getW ws j := by
  unfold allTo
  rw [take_getW2 ws j h]
  refine joinF_snoc _ _ _ (fun e => ?_)
  have := congrArg List.length e
  rw [List.length_take, List.length_nil] at this
  omega
theorem opV_eq (o p : OpV) (h : o = p) : opV o = opV p := by rw [h]
theorem row_op {w : World} (o : OpV) : (w.alloc (.cells (opCs o) 24)).heap[w.heap.size]? = some (.cells (opCs o) 24 (0, 0)) := heap_alloc_new w _
set_option maxHeartbeats 8000000 in
set_option maxRecDepth 100000 in
theorem ops_walk (o : OpV) (ao : Option Addr) (n cap : Nat) (ws : List (List UInt8)) (w : World) (hA : SS w ao n cap ws) (hn : n ≤ 1048576) (hb : ∀ l ∈ ws, l.length ≤ 1048576) (hL : LaidS w) :
    Calls Tryd.prog 5 #[opV o, .slice ao n cap] w fun e w' => e = .returned (.bool true) ∧ Kp Noone w w' := by
  have HL := Lib.hid hL
  have HA := Lib.hid hA
  have HB := Lib.hid hb
  have hnl : ws.length = n := hA.len
  have hcap : n ≤ cap := hA.le
  have HNL := Lib.hid hnl
  clear hL hA hb hnl
  have hwa := fun W hW => words_any o W hW
  have HK0 : Hid (Kp Noone w (w.alloc (.cells (opCs o) 24))) := Lib.hid ((Kp.refl _ _).alloc _)
  obtain ⟨i0, hi, hz0, hz1, hz2⟩ := info_parts (P := Tryd.prog) (e := 9) (z := .string .empty) (size := 1) (bytes := 16) (by kernel_rfl)
  have hbox := row_op (w := w) o
  obtain ⟨k, r, t, a, b⟩ := o
  unfold opV at hwa ⊢
  unfold opCs at HK0 hbox
  simp only [] at hwa HK0 hbox ⊢
  go_enter Tryd.func5, Tryd.ntmps5
  go_upto_region 1 with fail
  have HBX := Lib.hid hbox
  clear hbox
  generalize w.alloc (.cells #[.int .i64 k, .int .i64 r, .int .i64 t, .int .i64 a, .int .i64 b] 24) = w0 at *
  generalize hgs : w.heap.size = g at *
  have HGS := Lib.hid hgs
  clear hgs
  go_wp2_with fail
  refine (head_any _ (HL.out.keep HK0.out)).mono ?_
  rintro e w1 ⟨rfl, k1⟩
  have HK1 := Lib.hid (HK0.out.trans k1)
  have hb1 := k1.heap HBX.out id
  have HBX1 := Lib.hid hb1
  clear k1 HBX hb1
  go_upto_region 3 with fail
  obtain ⟨z0, z1, z2, z3, z4, -⟩ := cells_5f HBX1.out
  go_wp2_with fail
  clear z0 z1 z2 z3 z4
  refine (hwa _ (HL.out.keep HK1.out).laid).mono ?_
  clear hwa
  rintro e w2 ⟨rfl, k2⟩
  have HK2 := Lib.hid (HK1.out.trans k2)
  have HBX2 := Lib.hid (k2.heap HBX1.out id)
  clear k2 HBX1
  cases hok : okOp ⟨k, r, t, a, b⟩
  case' false =>
    have hwv : wordsV ⟨k, r, t, a, b⟩ = .tuple #[.string ⟨#[]⟩, .int .i64 22] := by unfold wordsV wordsF; rw [hok]; rfl
    rw [hwv]
    clear hok hwv HBX2
    go_upto_region 10 with fail
  case' true =>
    have hwv : wordsV ⟨k, r, t, a, b⟩ = .tuple #[.string ⟨(wordsL ⟨k, r, t, a, b⟩).toArray⟩, .int .i64 0] := by unfold wordsV wordsF strV; rw [hok]; rfl
    rw [hwv]
    have hsl : (⟨(wordsL ⟨k, r, t, a, b⟩).toArray⟩ : ByteArray).size ≤ 200 := by rw [ba_size]; exact wordsL_len _ hok
    have HWD : Hid ((⟨(wordsL ⟨k, r, t, a, b⟩).toArray⟩ : ByteArray).data.toList = wordsL ⟨k, r, t, a, b⟩) := Lib.hid (by simp)
    have HOPW := Lib.hid (opF_words ⟨k, r, t, a, b⟩ hok)
    have HWSP := Lib.hid (words_split ⟨k, r, t, a, b⟩)
    have HWLN : Hid (∀ x ∈ wordsW ⟨k, r, t, a, b⟩, x.length ≤ 1048576) := Lib.hid (fun x hx => by
      rw [← words_split] at hx
      have h1 := split_sub 32 _ x hx
      have h2 := wordsL_len _ hok
      omega)
    clear hwv hok
    generalize (⟨(wordsL ⟨k, r, t, a, b⟩).toArray⟩ : ByteArray) = s at *
    have hsr : ∀ W, Calls Tryd.prog 16 #[.string s, .int .u8 32] W fun e w' => SplitO s.data.toList 32 W e w' := fun W => split_ref s 32 W (by omega)
    rw [HWD.out] at hsr
    go_wp2_with fail
    refine (hsr _).mono ?_
    clear hsr
    rintro e w3 ⟨k3, ao3, cap3, rfl, hss⟩
    rw [HWSP.out] at hss ⊢
    have HS3 := Lib.hid hss
    have HK3 := Lib.hid (HK2.out.trans k3)
    have HBX3 := Lib.hid (k3.heap HBX2.out id)
    clear k3 HBX2 hss
    have hoa := fun W hS hL => op_any ao3 (wordsW ⟨k, r, t, a, b⟩).length cap3 (wordsW ⟨k, r, t, a, b⟩) W hS HWLN.out hL
    generalize (wordsW ⟨k, r, t, a, b⟩).length = m3 at *
    go_wp2_with fail
    refine (hoa _ HS3.out (HL.out.keep HK3.out).laid).mono ?_
    clear hoa
    rintro e w4 ⟨hto, k4⟩
    rw [HOPW.out] at hto
    have hto2 : e = .returned (.tuple #[.agg #[.int .i64 k, .int .i64 r, .int .i64 t, .int .i64 a, .int .i64 b], .int .i64 0]) := hto
    subst hto2
    have HK4 := Lib.hid (HK3.out.trans k4)
    have hb4 := k4.heap HBX3.out id
    clear hto k4 HBX3
    have hbn := row_op (w := w4) ⟨k, r, t, a, b⟩
    have hb5 := ((Kp.refl Noone w4).alloc (.cells (opCs ⟨k, r, t, a, b⟩) 24)).heap hb4 id
    have HK5 : Hid (Kp Noone w4 (w4.alloc (.cells (opCs ⟨k, r, t, a, b⟩) 24))) := Lib.hid ((Kp.refl _ _).alloc _)
    unfold opCs at hbn hb5 HK5
    simp only [] at hbn hb5 HK5
    clear hb4
    go_upto_region 6 with fail
    obtain ⟨z0, z1, z2, z3, z4, -⟩ := cells_5f hbn
    obtain ⟨y0, y1, y2, y3, y4, -⟩ := cells_5f hb5
    clear hbn hb5
    generalize w4.alloc (.cells #[.int .i64 k, .int .i64 r, .int .i64 t, .int .i64 a, .int .i64 b] 24) = w2 at *
    generalize hgs : w4.heap.size = g4 at *
    clear hgs
    go_upto_region 10 with fail
    have HK2 := Lib.hid (HK4.out.trans HK5.out)
    clear z0 z1 z2 z3 z4 y0 y1 y2 y3 y4
  all_goals (
    have HKB : Hid (Kp Noone w2 (w2.alloc (.cells #[] 9))) := Lib.hid ((Kp.refl _ _).alloc _)
    have hsvl : (sv ws).length = n * 1 := by unfold sv; rw [List.length_map, HNL.out, Nat.mul_one]
    have HROW := Lib.hid (HA.out.keep (HK2.out.trans HKB.out)).row
    go_wp2_with (at_builtin; refine wpList_append_gen _ rfl (.tmp 45) (.tmp 46) 41 rfl 9 i0 (.string .empty) 1 16 Tryd.underlying41 hi hz0 hz1 hz2 rfl _ 0 0 rfl ao n cap rfl Noone [] (Own.nil _ _ _ _ _) (sv ws) hsvl HROW.out (sv_one _) (by omega) (by unfold maxLen; omega) ?_)
    intro ao6 cap6 w6 ho6 hk6
    have HS6 : Hid (SS w6 ao6 n cap6 ws) := Lib.hid ho6.ss
    have HK6 : Hid (Kp Noone w w6) := Lib.hid (HK2.out.trans (HKB.out.trans hk6))
    clear ho6 hk6 hsvl HROW
    have hop := fun W hS hL => op_any ao6 n cap6 ws W hS HB.out hL
    go_wp2_with fail
    refine (hop _ HS6.out (HL.out.keep HK6.out).laid).mono ?_
    clear hop
    rintro e w7 ⟨hto, k7⟩
    have HK7 := Lib.hid (HK6.out.trans k7)
    clear k7
    obtain ⟨⟨p, f⟩, hpf⟩ : ∃ x, opF ws = x := ⟨_, rfl⟩
    rw [hpf] at hto
    have hbad := opF_bad (ws := ws)
    rw [hpf] at hbad
    simp only [] at hbad hto
    by_cases hf : f = 0
    case neg =>
      obtain ⟨rfl, hcode⟩ := hbad hf
      have hto2 : e = .returned (.tuple #[.agg #[.int .i64 0, .int .i64 0, .int .i64 0, .int .i64 0, .int .i64 0], .int .i64 f]) := hto
      subst hto2
      have hbn := row_op (w := w7) op0
      have HK8 : Hid (Kp Noone w7 (w7.alloc (.cells (opCs op0) 24))) := Lib.hid ((Kp.refl _ _).alloc _)
      unfold opCs op0 at hbn HK8
      simp only [] at hbn HK8
      clear hto hpf hbad
      go_upto_region 11 with fail
      obtain ⟨z0, z1, z2, z3, z4, -⟩ := cells_5f hbn
      clear hbn
      generalize w7.alloc (.cells #[.int .i64 0, .int .i64 0, .int .i64 0, .int .i64 0, .int .i64 0] 24) = w8 at *
      generalize hgs : w7.heap.size = g7 at *
      clear hgs
      rcases hcode with rfl | rfl | rfl | rfl
      all_goals (
        clear hf
        go_wp2_with fail
        go_ret
        exact ⟨rfl, HK7.out.trans HK8.out⟩)
    case pos =>
      subst hf
      obtain ⟨hok2, hws⟩ := words_opF hpf
      have hwv2 : wordsV p = .tuple #[.string ⟨(wordsL p).toArray⟩, .int .i64 0] := by unfold wordsV wordsF strV; rw [hok2]; rfl
      have HWL : Hid ((⟨(wordsL p).toArray⟩ : ByteArray).data.toList = allTo ws n) := Lib.hid (by
        unfold allTo
        rw [← HNL.out, List.take_length, ← hws]
        simp [wordsL])
      have hwb := fun W hW => words_any p W hW
      rw [hwv2] at hwb
      have HK8 : Hid (Kp Noone w7 (w7.alloc (.cells (opCs p) 24))) := Lib.hid ((Kp.refl _ _).alloc _)
      have hbn := row_op (w := w7) p
      clear hwv2 hpf hbad hok2 hws
      generalize (⟨(wordsL p).toArray⟩ : ByteArray) = tt at *
      obtain ⟨k', r', t', a', b'⟩ := p
      unfold opV at hwb hto
      unfold opCs at HK8 hbn
      simp only [] at hwb hto HK8 hbn
      subst hto
      go_upto_region 11 with fail
      obtain ⟨z0, z1, z2, z3, z4, -⟩ := cells_5f hbn
      clear hbn
      generalize w7.alloc (.cells #[.int .i64 k', .int .i64 r', .int .i64 t', .int .i64 a', .int .i64 b'] 24) = w8 at *
      generalize hgs : w7.heap.size = g7 at *
      clear hgs
      go_wp2_with fail
      refine (hwb _ (HL.out.keep (HK7.out.trans HK8.out)).laid).mono ?_
      clear hwb
      rintro e w9 ⟨rfl, k9⟩
      have HK9 := Lib.hid ((HK7.out.trans HK8.out).trans k9)
      clear k9 z0 z1 z2 z3 z4
      go_wp2_with fail
      go_loopw [79, 13] (fun v79 v13 wx => ∃ (j : Nat) (sx : ByteArray), v79 = .int .i64 (j : Int) ∧ j ≤ n ∧ v13 = .string sx ∧ Hid (sx.data.toList = allTo ws j) ∧ sx.size ≤ j * 1048577 ∧ wx = w9) (fun v79 _ _ => (1048577 - intOf v79).toNat)
      case atStart => exact ⟨0, ⟨#[]⟩, rfl, Nat.zero_le _, rfl, Lib.hid rfl, Nat.zero_le _, rfl⟩
      case round =>
        obtain ⟨j, sx, rfl, hj, rfl, hsx, hsz, rfl⟩ := hrel
        by_cases hlt : j < n
        · have hltz : (j : Int) < (n : Int) := by omega
          have hwj : IntKind.i64.wrap ((j : Int) + 1) = (j : Int) + 1 := IntWalk.i64_in _ (by omega)
          obtain ⟨bk, off, rfl, -, hc0⟩ := (HA.out.keep HK9.out).at hlt
          have hgl : (getW ws j).length ≤ 1048576 := HB.out _ (by
            rw [show getW ws j = ws[j]'(by rw [HNL.out]; exact hlt) by unfold getW; rw [List.getD_eq_getElem?_getD, List.getElem?_eq_getElem (by rw [HNL.out]; exact hlt)]; rfl]
            exact List.getElem_mem _)
          have hls : (⟨(getW ws j).toArray⟩ : ByteArray).size = (getW ws j).length := ba_size _
          have HLD : Hid ((⟨(getW ws j).toArray⟩ : ByteArray).data.toList = getW ws j) := Lib.hid (by simp)
          unfold strV at hc0
          generalize (⟨(getW ws j).toArray⟩ : ByteArray) = s at *
          have hs1 : s.size ≤ 1048576 := by omega
          have HSS := Lib.hid (And.intro hs1 hsz)
          have hs2 : sx.size ≤ 1099512676352 := by omega
          clear hgl hls hsz
          have h32 : (⟨#[32]⟩ : ByteArray).size = 1 := rfl
          by_cases h0 : j = 0
          · have h0z : ¬ (0 : Int) < (j : Int) := by omega
            have HN : Hid ((sx ++ s).data.toList = allTo ws (j + 1)) := Lib.hid (by
              rw [ba_app, hsx.out, HLD.out, h0, Nat.zero_add, allTo_zero ws (by rw [HNL.out]; omega)]
              rfl)
            have HSZ : Hid ((sx ++ s).size ≤ (j + 1) * 1048577) := Lib.hid (by
              rw [ByteArray.size_append]
              have := HSS.out
              omega)
            clear h0
            go_wp2_with fail
            go_roundw
            case rel => exact ⟨j + 1, _, rfl, hlt, rfl, HN, HSZ.out, trivial⟩
            case measure => exact meas_down j n hlt hn
          · have h0z : (0 : Int) < (j : Int) := by omega
            have HN : Hid (((sx ++ ⟨#[32]⟩) ++ s).data.toList = allTo ws (j + 1)) := Lib.hid (by
              rw [ba_app, ba_app, hsx.out, HLD.out, allTo_step ws j (by omega) (by rw [HNL.out]; exact hlt)]
              simp)
            have HSZ : Hid (((sx ++ ⟨#[32]⟩) ++ s).size ≤ (j + 1) * 1048577) := Lib.hid (by
              rw [ByteArray.size_append, ByteArray.size_append, h32]
              have := HSS.out
              omega)
            clear h0
            go_wp2_with fail
            go_roundw
            case rel => exact ⟨j + 1, _, rfl, hlt, rfl, HN, HSZ.out, trivial⟩
            case measure => exact meas_down j n hlt hn
        · obtain rfl : j = n := by omega
          have hltz : ¬ (j : Int) < (j : Int) := by omega
          have hst : sx = tt := by
            apply ByteArray.ext
            apply Array.ext'
            rw [hsx.out, HWL.out]
          subst hst
          clear hlt hsx hsz HWL
          go_wp2_with fail
          go_ret
          exact ⟨rfl, HK9.out⟩)

end Go.Proofs.YtfinbppmkffbhaaDoor
