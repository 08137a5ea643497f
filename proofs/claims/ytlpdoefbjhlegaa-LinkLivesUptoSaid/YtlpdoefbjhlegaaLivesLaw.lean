/-
  THE WALK of the law 'LinkLives'.
-/
import Derived.Test.YtlpdoefbjhlegaaLinkHead
import Derived.Test.YtlpdoefbjhlegaaRead
namespace Go.Proofs.Ytlpdoefbjhlegaa
open Go.RowKit

attribute [local irreducible] parse numL emitF inF sendF newLS moveF

/-- After k sendings of an end whose blocks have the colours i + 1 .. i + 5; the other ends lie as they did. -/
structure LivesR (W : World) (i j1 j2 p p1 p2 : Nat) (s1 s2 : LS) (boot : Int) (k : Nat) (cnt : Int) (wr : World) : Prop where
  ex : ∃ col s, Lk col i wr p s ∧ Lk col j1 wr p1 s1 ∧ Lk col j2 wr p2 s2 ∧ Ext W.heap.size (fun c => c ≠ 0) (fun _ => 0) W col wr ∧ Unsent s boot 5 ∧ s.next ≤ k + 1 ∧ (s.out.length : Int) = cnt
structure LivesC (W : World) (i j1 j2 p p1 p2 : Nat) (s1 s2 : LS) (boot : Int) (cnt v : Value) (n : Nat) (wr : World) : Prop where
  ex : ∃ (k : Nat) (c : Int), v = .int .i64 (k : Int) ∧ k ≤ n ∧ k ≤ 20 ∧ cnt = .int .i64 c ∧ LivesR W i j1 j2 p p1 p2 s1 s2 boot k c wr
structure LivesA (W : World) (i j1 j2 p p1 p2 : Nat) (s1 s2 : LS) (boot : Int) (v : Value) (n : Nat) (wr : World) : Prop where
  ex : ∃ (k : Nat) (c : Int), v = .int .i64 (k : Int) ∧ k ≤ n ∧ k ≤ 20 ∧ LivesR W i j1 j2 p p1 p2 s1 s2 boot k c wr

theorem LivesR.send {W : World} {i j1 j2 p p1 p2 : Nat} {s1 s2 : LS} {boot : Int} {k : Nat} {cnt : Int} {wr : World} (h : LivesR W i j1 j2 p p1 p2 s1 s2 boot k cnt wr) (hk : k ≤ 20) (h1 : ∀ c, S5 j1 c → ¬ S5 i c) (h2 : ∀ c, S5 j2 c → ¬ S5 i c) (hi : ∀ c, S5 i c → c ≠ 0)
    {w : World} (hw : Kp Noone wr w) (fo : Option Addr) (n cap : Nat) (d : List UInt8) (hb : BS w fo n cap d) :
    Calls Try.prog 13 #[.pointer (some ⟨p, 0, none⟩), .slice fo n cap] w fun e w' => ∃ er : Nat, e = .returned (.int .i64 (er : Int)) ∧ er < 100 ∧ LivesR W i j1 j2 p p1 p2 s1 s2 boot (k + 1) (cnt + if er = 0 then 1 else 0) w' := by
  obtain ⟨col, s, a, b, c, X, hu, hn, hc⟩ := h.ex
  have hX := X.trans (Ext.quiet X.cols hw)
  refine (send_lk W.heap.size col i p s fo n cap d w (a.keep hw) hX.cols hX.size hb (by omega)).mono ?_
  rintro e w1 ⟨col', rfl, x, a'⟩
  have e1 := congrArg List.length (sendF_out s d)
  have e2 := sendF_next s d
  refine ⟨_, rfl, sendF_lt s d, ⟨col', _, a', (b.keep hw).ext x h1, (c.keep hw).ext x h2, hX.trans (x.mono hi), hu.send d, by omega, ?_⟩⟩
  rw [List.length_append, List.length_map, List.length_map] at e1
  split at e1 <;> rename_i q <;> simp only [q, if_true, if_false, List.length_cons, List.length_nil] at e1 ⊢ <;> omega

set_option maxHeartbeats 2000000 in
set_option maxRecDepth 100000 in
theorem linkLives_walk (ao : Option Addr) (n cap : Nat) (ls : List (List UInt8)) (bo : Option Addr) (m bcap : Nat) (ms : List (List UInt8)) (W : World) (hb : BSS W ao n cap ls) (hb2 : BSS W bo m bcap ms)
    (hn : n ≤ 1048576) (hT : ls.flatten.length ≤ 1048576) (hm : m ≤ 1048576) (hT2 : ms.flatten.length ≤ 1048576) :
    Calls Try.prog 5 #[.slice ao n cap, .slice bo m bcap] W fun e w' => e = .returned (.bool true) ∧ Kp Noone W w' := by
  have HB := Lib.hid hb
  have HB2 := Lib.hid hb2
  have hnl : n ≤ 9223372036854775807 := by omega
  have hml : m ≤ 9223372036854775807 := by omega
  clear hb hb2
  go_enter Try.func5, Try.ntmps5
  go_wp2_with fail
  refine (head_any _).mono ?_
  rintro e w0 ⟨rfl, k0⟩
  go_wp2_with fail
  have X0 := Ext.quiet (S := fun c => c ≠ 0) (Cols.zero W.heap.size W) k0
  refine (new_lk W.heap.size _ 0 4 5 _ X0.cols X0.size).mono ?_
  rintro e w1 ⟨pa, c1, rfl, x1, a1⟩
  have X1 := X0.trans (x1.mono (T := fun c => c ≠ 0) (fun c h => by unfold S5 at h; omega))
  clear x1 X0 k0
  go_wp2_with fail
  refine (new_lk W.heap.size c1 5 9 5 _ X1.cols X1.size).mono ?_
  rintro e w2 ⟨pc, c2, rfl, x2, d2⟩
  have a2 := a1.ext x2 (fun c h d => by unfold S5 at h d; omega)
  have X2 := X1.trans (x2.mono (fun c h => by unfold S5 at h; omega))
  clear x2 X1 a1
  go_wp2_with fail
  refine (new_lk W.heap.size c2 10 1 5 _ X2.cols X2.size).mono ?_
  rintro e w3 ⟨pb, c3, rfl, x3, b3⟩
  have a3 := a2.ext x3 (fun c h d => by unfold S5 at h d; omega)
  have d3 := d2.ext x3 (fun c h d => by unfold S5 at h d; omega)
  have X3 := X2.trans (x3.mono (fun c h => by unfold S5 at h; omega))
  have R3 := Lib.hid (LivesR.mk (W := W) (i := 0) (j1 := 5) (j2 := 10) (boot := 4) (k := 0) (cnt := 0) ⟨c3, _, a3, d3, b3, X3, lives_unsent4, by rw [lives_next]; omega, by rw [lives_none]; rfl⟩)
  clear x3 X2 X3 a2 d2 a3 d3 b3
  go_wp2_with fail
  go_loopw [9] (fun v wr => LivesA W 0 5 10 pa pc pb (newLS 9 5) (newLS 1 5) 4 v n wr) (fun v _ => n - (intOf v).toNat)
  case atStart => exact LivesA.mk ⟨0, 0, by rfl, by omega, by omega, R3.out⟩
  case round =>
    obtain ⟨k, c, rfl, hk, hk2, hr⟩ := hrel.ex
    clear R3
    by_cases hgo : k < n ∧ k < 20
    · obtain ⟨hlt, h20⟩ := hgo
      obtain ⟨b, off, xo, xm, xc, hl, rfl, hbl, hcellW, hbs⟩ := HB.out.at hlt
      obtain ⟨col, s, -, -, -, X, -, -, -⟩ := hr.ex
      have kr : Kp Noone W wr := X.kp.mono (fun j _ c => absurd rfl c)
      have hcell := kr.cell hcellW id
      have hbs' := hbs.keep kr
      have hxm : xm ≤ 1048576 := by have h1 := hbs.len; have h2 := getElem_le_flatten ls k hl; omega
      have hwk : IntKind.i64.wrap ((k : Int) + 1) = (k : Int) + 1 := IntWalk.i64_in _ (by omega)
      have HL := Lib.hid hbs.len
      clear hcellW hbs X
      go_wp2_with fail
      refine (copy_exact xo xm xc _ _ hbs' (by omega)).mono ?_
      rintro e w5 ⟨rfl, hw5⟩
      obtain ⟨hb5, k5⟩ := copied2 hw5 HL.out (by unfold maxLen; omega)
      clear hw5
      go_wp2_with fail
      refine (hr.send hk2 (fun c h d => by unfold S5 at h d; omega) (fun c h d => by unfold S5 at h d; omega) (fun c h => by unfold S5 at h; omega) k5 _ _ _ _ hb5).mono ?_
      rintro e w6 ⟨er, rfl, her, hr6⟩
      have R6 := Lib.hid hr6
      clear hr hr6 hb5 k5 hbs' hcell her
      go_wp2_with fail
      go_roundw
      case rel => exact LivesA.mk ⟨k + 1, _, by rfl, by omega, by omega, R6.out⟩
      case measure => simp [intOf]; omega
    · obtain ⟨col, sa, a3, d3, b3, X3, hu, -, -⟩ := hr.ex
      have hse : k = n ∨ (k < n ∧ k = 20) := by omega
      have UA := Lib.hid hu
      have R4 := Lib.hid (LivesR.mk (W := W) (i := 5) (j1 := 0) (j2 := 10) (boot := 9) (k := 0) (cnt := 0) ⟨col, _, d3, a3, b3, X3, lives_unsent9, by rw [lives_next]; omega, by rw [lives_none]; rfl⟩)
      clear hr a3 d3 b3 X3 hu hgo
      rcases hse with rfl | ⟨hse, rfl⟩
      all_goals (
        go_wp2_with fail
        go_loopw [8, 10] (fun cnt v wr => LivesC W 5 0 10 pc pa pb sa (newLS 1 5) 9 cnt v m wr) (fun _ v _ => m - (intOf v).toNat)
        case atStart => exact LivesC.mk ⟨0, 0, by rfl, by omega, by omega, by rfl, R4.out⟩
        case round =>
          obtain ⟨j, c2, rfl, hj, hj2, rfl, hr⟩ := hrel.ex
          clear R4
          by_cases hgo : j < m ∧ j < 20
          · obtain ⟨hlt, h20⟩ := hgo
            obtain ⟨b, off, xo, xm, xc, hl, rfl, hbl, hcellW, hbs⟩ := HB2.out.at hlt
            obtain ⟨col, s, -, -, -, X, -, -, hcn⟩ := hr.ex
            have kr : Kp Noone W wr := X.kp.mono (fun j _ c => absurd rfl c)
            have hcell := kr.cell hcellW id
            have hbs' := hbs.keep kr
            have hxm : xm ≤ 1048576 := by have h1 := hbs.len; have h2 := getElem_le_flatten ms j hl; omega
            have hwk : IntKind.i64.wrap ((j : Int) + 1) = (j : Int) + 1 := IntWalk.i64_in _ (by omega)
            have HL := Lib.hid hbs.len
            clear hcellW hbs X
            go_wp2_with fail
            refine (copy_exact xo xm xc _ _ hbs' (by omega)).mono ?_
            rintro e w5 ⟨rfl, hw5⟩
            obtain ⟨hb5, k5⟩ := copied2 hw5 HL.out (by unfold maxLen; omega)
            clear hw5
            go_wp2_with fail
            refine (hr.send hj2 (fun c h d => by unfold S5 at h d; omega) (fun c h d => by unfold S5 at h d; omega) (fun c h => by unfold S5 at h; omega) k5 _ _ _ _ hb5).mono ?_
            rintro e w6 ⟨er, rfl, her, hr6⟩
            clear hr hb5 k5 hbs' hcell
            by_cases her0 : er = 0
            · subst her0
              rw [if_pos rfl] at hr6
              have R6 := Lib.hid hr6
              have hc20 : 0 ≤ c2 ∧ c2 ≤ 1048576 := by
                have := hcn
                have := hr6.ex
                obtain ⟨_, s6, h6, -, -, -, -, h7, h8⟩ := this
                have := h6.2.outL
                omega
              have hwc : IntKind.i64.wrap (c2 + 1) = c2 + 1 := IntWalk.i64_in _ (by omega)
              clear hr6 hcn her
              go_wp2_with fail
              go_roundw
              case rel => exact LivesC.mk ⟨j + 1, _, by rfl, by omega, by omega, by rfl, R6.out⟩
              case measure => simp [intOf]; omega
            · have e0 : ((er : Int) == 0) = false := by simpa using her0
              rw [if_neg her0] at hr6
              have R6 := Lib.hid hr6
              clear hr6 hcn her her0
              go_wp2_with fail
              go_roundw
              case rel => exact LivesC.mk ⟨j + 1, _, by rfl, by omega, by omega, by rw [Int.add_zero], R6.out⟩
              case measure => simp [intOf]; omega
          · obtain ⟨col, s, d3, a3, b3, X3, hu, -, rfl⟩ := hr.ex
            have hse : j = m ∨ (j < m ∧ j = 20) := by omega
            have US := Lib.hid hu
            clear hr hgo hu
            rcases hse with rfl | ⟨hse, rfl⟩
            all_goals (
              go_wp2_with fail
              refine (out_lk W.heap.size col 5 pc s 0 _ d3 X3.cols X3.size (by omega)).mono ?_
              rintro e w4 ⟨fo, fcap, rfl, hfr, x4, d4⟩
              have a4 := a3.ext x4 (fun c h d => by unfold S5 at h d; omega)
              have b4 := b3.ext x4 (fun c h d => by unfold S5 at h d; omega)
              have X4 := X3.trans (x4.mono (fun c h => by unfold S5 at h; omega))
              have I3 := Lib.hid d3.2
              have J3 := Lib.hid a3.2
              clear x4 a3 b3 d3 X3
              go_wp2_with fail
              refine (move_lk W.heap.size col 10 16 pb (newLS 1 5) fo _ fcap _ none 0 0 [] _ b4 X4.cols X4.size hfr (emitF_short I3.out 0) (GotAt.nil _ _ _ _) (by omega) (by have := emitF_len (s := s) 0; have := I3.out.outL; have := I3.out.acksL; simp; omega)).mono ?_
              rintro e w5 ⟨go, gcap, c5, rfl, x5, b5, -⟩
              have a5 := a4.ext x5 (fun c h d => by unfold S5 at h d; omega)
              have d5 := d4.ext x5 (fun c h d => by unfold S5 at h d; omega)
              have X5 := X4.trans (x5.mono (fun c h => by unfold S5 at h; omega))
              obtain ⟨q1, q2⟩ := lives_new I3.out US.out 1 5
              have q3 := congrArg List.length q1
              rw [List.length_map] at q3
              rw [List.nil_append, q3]
              have BI := Lib.hid b5.2
              clear x5 a4 b4 d4 X4 hfr q1 q3
              have hol := I3.out.outL
              by_cases h0 : s.out.length = 0
              · have e0 : ((s.out.length : Int) == 0) = true := by simpa using h0
                go_wp2_with fail
                go_ret
                exact ⟨rfl, X5.kp.mono (fun j _ c => absurd rfl c)⟩
              · have e0 : ((s.out.length : Int) == 0) = false := by simpa using h0
                have hne : s.out ≠ [] := fun c => h0 (by rw [c]; rfl)
                obtain ⟨q4, q5⟩ := q2 hne
                have Q4 := Lib.hid q4
                have Q5 := Lib.hid q5
                clear q2 q4 q5 h0 hne
                go_wp2_with fail
                refine (out_lk W.heap.size c5 0 pa sa 0 _ a5 X5.cols X5.size (by omega)).mono ?_
                rintro e w6 ⟨fo6, fcap6, rfl, hfr6, x6, a6⟩
                have b6 := b5.ext x6 (fun c h d => by unfold S5 at h d; omega)
                have d6 := d5.ext x6 (fun c h d => by unfold S5 at h d; omega)
                have X6 := X5.trans (x6.mono (fun c h => by unfold S5 at h; omega))
                clear x6 a5 b5 d5 X5 a6
                go_wp2_with fail
                refine (move_lk W.heap.size c5 10 16 pb _ fo6 _ fcap6 _ none 0 0 [] _ b6 X6.cols X6.size hfr6 (emitF_short J3.out 0) (GotAt.nil _ _ _ _) (by omega) (by have := emitF_len (s := sa) 0; have := J3.out.outL; have := J3.out.acksL; simp; omega)).mono ?_
                rw [lives_old J3.out UA.out Q4.out]
                rintro e w7 ⟨go7, gcap7, c7, rfl, x7, b7, -⟩
                have d7 := d6.ext x7 (fun c h d => by unfold S5 at h d; omega)
                have X7 := X6.trans (x7.mono (fun c h => by unfold S5 at h; omega))
                clear x7 b6 d6 X6 hfr6
                go_wp2_with fail
                refine (out_lk W.heap.size c7 5 pc _ 9 _ d7 X7.cols X7.size (by omega)).mono ?_
                rintro e w8 ⟨fo8, fcap8, rfl, hfr8, x8, d8⟩
                have b8 := b7.ext x8 (fun c h d => by unfold S5 at h d; omega)
                have X8 := X7.trans (x8.mono (fun c h => by unfold S5 at h; omega))
                have I7 := Lib.hid d7.2
                clear x8 b7 d7 X7 d8
                go_wp2_with fail
                refine (move_lk W.heap.size c7 10 16 pb _ fo8 _ fcap8 _ none 0 0 [] _ b8 X8.cols X8.size hfr8 (emitF_short I7.out 9) (GotAt.nil _ _ _ _) (by omega) (by have := emitF_len (s := (emitF s 0).1) 9; have := I7.out.outL; have := I7.out.acksL; simp; omega)).mono ?_
                rw [lives_again I3.out US.out BI.out Q4.out Q5.out]
                rintro e w9 ⟨go9, gcap9, c9, rfl, x9, b9, -⟩
                have X9 := X8.trans (x9.mono (fun c h => by unfold S5 at h; omega))
                clear x9 X8 b9 hfr8
                go_wp2_with fail
                go_ret
                exact ⟨rfl, X9.kp.mono (fun j _ c => absurd rfl c)⟩))

/-- The law. -/
theorem linkLives_core {H : Type} {enc : TypeId × Value → H} (W : World) (base : Nat) (v0 : Value) (d0 : DataW H) (p0 : List MemPlace) (v1 : Value) (d1 : DataW H) (p1 : List MemPlace)
    (h0 : DataW.Trod enc Try.prog W 0 (fun _ => true) true 39 v0 d0 p0) (h1 : DataW.Trod enc Try.prog W 0 (fun _ => true) true 39 v1 d1 p1)
    (g0 : Value.okWide Try.prog W .any base 39 v0) (g1 : Value.okWide Try.prog W .any base 39 v1) (hk : Rows.uptoBulkAll [d0, d1] ≤ 1048576) :
    Calls Try.prog 5 #[v0, v1] W fun e w' => e = .returned (.bool true) ∧ Kp Noone W w' := by
  obtain ⟨ao, n, cap, ls, rfl, hb, hc⟩ := arg_bss h0 g0
  obtain ⟨bo, m, bcap, ms, rfl, hb2, hc2⟩ := arg_bss h1 g1
  simp only [Rows.uptoBulkAll] at hk
  exact linkLives_walk ao n cap ls bo m bcap ms W hb hb2 (by omega) (by omega) (by omega) (by omega)

end Go.Proofs.Ytlpdoefbjhlegaa
