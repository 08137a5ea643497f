/-
  SealOpens: for every input the law returns true, and nothing that was there has changed.
-/
import Derived.Test.YtgbfbhkpjmgipaaTell
import Derived.Test.YtgbfbhkpjmgipaaRead
namespace Go.Proofs.Ytgbfbhkpjmgipaa
open Go.RowKit Go.WideShapes

theorem ok_sealed (l : List UInt8) : okSeal (l ++ eightL (sumN l)) = true := by
  rw [okSeal_iff (m := l.length) (by rw [List.length_append, length_eightL]), List.take_left' rfl, List.drop_left' rfl]
  simp
theorem openE_sealed (l : List UInt8) : openE (l ++ eightL (sumN l)) = 0 := by unfold openE; rw [ok_sealed]; rfl
theorem openL_sealed (l : List UInt8) : openL (l ++ eightL (sumN l)) = l := by
  unfold openL
  rw [ok_sealed, if_pos rfl, List.length_append, length_eightL, Nat.add_sub_cancel, List.take_left' rfl]

set_option maxHeartbeats 2000000 in
theorem sealOpens_walk (ao : Option Addr) (n cap : Nat) (l : List UInt8) (W : World) (hb : BS W ao n cap l) (hn : n ≤ 140737488351232) :
    Calls Try.prog 7 #[.slice ao n cap] W fun e w' => e = .returned (.bool true) ∧ Kp Noone W w' := by
  have HL := Lib.hid hb.len
  have HM := Lib.hid (openL_length l)
  go_enter Try.func7, Try.ntmps7
  go_wp2_with fail
  refine (head2_any _).mono ?_
  rintro e w1 ⟨rfl, k01⟩
  go_wp2_with fail
  refine (copy_exact _ _ _ l _ (hb.keep k01) (by omega)).mono ?_
  rintro e w2 ⟨rfl, hw2⟩
  have k02 : Kp Noone W w2 := by rw [hw2]; exact k01.alloc _
  have hm2 : BS w2 (some ⟨w1.heap.size, 0, none⟩) n n l := BS.ofHeap (fr := (0, 0)) (e := 5) (by rw [hw2]; exact heap_alloc_new w1 _) HL.out (by unfold maxLen; omega)
  clear hw2
  go_wp2_with fail
  refine (seal_any _ _ _ l _ hm2 (by omega)).mono ?_
  rintro e w3 ⟨so, sc, rfl, hs3, k23⟩
  go_wp2_with fail
  refine (seal_any _ _ _ l _ (hm2.keep k23) (by omega)).mono ?_
  rintro e w4 ⟨to, tc, rfl, ht4, k34⟩
  go_wp2_with fail
  refine (refSeal_any _ _ _ l _ (hb.keep ((k02.trans k23).trans k34)) (by omega)).mono ?_
  rintro e w5 ⟨ro, rc, rfl, hr5, k45⟩
  go_wp2_with fail
  refine (same_any _ _ _ _ _ _ _ _ _ ((hs3.keep k34).keep k45).bs hr5.bs (by omega)).mono ?_
  rintro e w5' ⟨rfl, q5, hq5⟩
  have k55 : Kp Noone w5 w5' := by rw [hq5]; exact (Kp.refl _ _).drewN _
  have k35 := k34.trans (k45.trans k55)
  clear hq5
  rw [beq_self_eq_true]
  go_wp2_with fail
  refine (same_any _ _ _ _ _ _ _ _ _ (hm2.keep (k23.trans k35)) (hb.keep ((k02.trans k23).trans k35)) (by omega)).mono ?_
  rintro e w6 ⟨rfl, q6, hq6⟩
  have k36 : Kp Noone w3 w6 := by rw [hq6]; exact k35.drewN _
  have k46 : Kp Noone w4 w6 := by rw [hq6]; exact (k45.trans k55).drewN _
  clear hq6 k55 k35 k45 hr5
  rw [beq_self_eq_true]
  go_wp2_with fail
  refine (refOpen_any _ _ _ l _ (hb.keep ((k02.trans k23).trans k36)) (by omega)).mono ?_
  rintro e w7 ⟨xo, xm, xc, rfl, hx7, k67⟩
  go_wp2_with fail
  refine (open_any _ _ _ l _ (hm2.keep (k23.trans (k36.trans k67))) (by omega)).mono ?_
  rintro e w8 ⟨yo, ym, yc, rfl, hy8, k78⟩
  go_wp2_with fail
  refine (open_any _ _ _ l _ (hm2.keep (k23.trans (k36.trans (k67.trans k78)))) (by omega)).mono ?_
  rintro e w9 ⟨zo, zm, zc, rfl, hz9, k89⟩
  have hxm : xm = (openL l).length := by have := hx7.1; rw [length_bv] at this; omega
  have hym : ym = (openL l).length := by have := hy8.1; rw [length_bv] at this; omega
  have hzm : zm = (openL l).length := by have := hz9.1; rw [length_bv] at this; omega
  have hbm : (openL l).length ≤ n := by rw [← HL.out]; exact HM.out
  generalize (openL l).length = om at *
  subst hxm hym hzm
  go_wp2_with fail
  refine (same_any _ _ _ _ _ _ _ _ _ (hx7.keep (k78.trans k89)).bs (hy8.keep k89).bs (by omega)).mono ?_
  rintro e w10 ⟨rfl, q10, hq10⟩
  have k9a : Kp Noone w9 w10 := by rw [hq10]; exact (Kp.refl _ _).drewN _
  clear hq10
  rw [beq_self_eq_true]
  go_wp2_with fail
  have s12 := k02.size
  have s23 := k23.size
  have s34 := k34.size
  have s36 := k36.size
  have s46 := k46.size
  have s67 := k67.size
  have s78 := k78.size
  have s89 := k89.size
  have s9a := k9a.size
  have k6a : Kp Noone w6 w10 := ((k67.trans k78).trans k89).trans k9a
  have hsA := hs3.keep (k36.trans k6a)
  have htA := ht4.keep (k46.trans k6a)
  have hyA := hy8.keep (k89.trans k9a)
  have hzA := hz9.keep k9a
  have hxA := hx7.keep ((k78.trans k89).trans k9a)
  have k0a := ((k02.trans k23).trans k36).trans k6a
  clear hs3 ht4 hy8 hz9 hx7 hm2 k01 k23 k34 k36 k46 k67 k78 k89 k9a k6a
  go_loopw [61] (fun i wr => ∃ (k : Nat) (xs : List UInt8), k ≤ n + 8 ∧ i = .int .i64 k ∧ Own (Ex Noone w2 w3) wr 5 1 so (n + 8) sc (bv xs) ∧ Kp (Ex Noone w2 w3) w10 wr) (fun i _ => n + 8 - (intOf i).toNat)
  case atStart => exact ⟨0, _, by omega, rfl, hsA, Kp.refl _ _⟩
  case round =>
    obtain ⟨k, xs, hk, rfl, hsr, kr⟩ := hrel
    by_cases hlt : k < n + 8
    · obtain ⟨g, off, hkl, rfl, hF, hg, hc, hf, hset⟩ := hsr.byte hlt
      have hfl := Lib.hid (flip_val xs[k])
      have hst := Lib.hid (hset (xs[k] ^^^ 255))
      have hfn := hF.none
      generalize xs[k] = x at *
      clear hset hb hsA htA hyA hzA hxA hsr
      go_wp2
      go_roundw
      case rel => exact ⟨k + 1, _, by omega, by go_num, by rw [hfl.out]; exact hst.out, kr.setCell (fun _ => hF) _⟩
      case measure => simp [intOf]; omega
    · have k0b : Kp Noone W wr := Kp.fin k0a kr (fun j h => Or.inr (by have := h.none; omega))
      have htB := htA.kp kr (fun j h h' => by have := h.none; have := h'.none; omega)
      have hyB := hyA.kp kr (fun j h h' => by have := h.none; have := h'.none; omega)
      have hzB := hzA.kp kr (fun j h h' => by have := h.none; have := h'.none; omega)
      have hxB := hxA.kp kr (fun j h h' => by have := h.none; have := h'.none; omega)
      clear hsA htA hyA hzA hxA hsr kr
      obtain ⟨wb, hwb⟩ : ∃ wb, wb = wr := ⟨_, rfl⟩
      subst hwb
      go_wp2
      go_loopw [73] (fun i wr => ∃ (k : Nat) (xs : List UInt8), k ≤ zm ∧ i = .int .i64 k ∧ Own (Ex Noone w7 w8) wr 5 1 yo zm yc (bv xs) ∧ Kp (Ex Noone w7 w8) wb wr) (fun i _ => zm - (intOf i).toNat)
      case atStart => exact ⟨0, _, by omega, rfl, hyB, Kp.refl _ _⟩
      case round =>
        obtain ⟨k, xs, hk, rfl, hsr, kr⟩ := hrel
        by_cases hlt : k < zm
        · obtain ⟨g, off, hkl, rfl, hF, hg, hc, hf, hset⟩ := hsr.byte hlt
          have hfl := Lib.hid (flip_val xs[k])
          have hst := Lib.hid (hset (xs[k] ^^^ 255))
          generalize xs[k] = x at *
          clear hset hb htB hyB hzB hxB hsr
          go_wp2
          go_roundw
          case rel => exact ⟨k + 1, _, by omega, by go_num, by rw [hfl.out]; exact hst.out, kr.setCell (fun _ => hF) _⟩
          case measure => simp [intOf]; omega
        · have k0c : Kp Noone W wr := Kp.fin k0b kr (fun j h => Or.inr (by have := h.none; omega))
          have htC := htB.kp kr (fun j h h' => by have := h.none; have := h'.none; omega)
          have hzC := hzB.kp kr (fun j h h' => by have := h.none; have := h'.none; omega)
          have hxC := hxB.kp kr (fun j h h' => by have := h.none; have := h'.none; omega)
          clear htB hyB hzB hxB hsr kr
          go_wp2_with fail
          refine (open_any _ _ _ _ _ htC.bs (by omega)).mono ?_
          rintro e w11 ⟨bo, bm, bc, rfl, hb11, kcb⟩
          rw [openL_sealed] at hb11
          rw [openE_sealed]
          have hbm : bm = n := by have := hb11.1; rw [length_bv, HL.out] at this; omega
          subst hbm
          go_wp2_with fail
          refine (same_any _ _ _ _ _ _ _ _ _ (hzC.keep kcb).bs (hxC.keep kcb).bs (by omega)).mono ?_
          rintro e w12 ⟨rfl, q12, hq12⟩
          have kbd : Kp Noone w11 w12 := by rw [hq12]; exact (Kp.refl _ _).drewN _
          clear hq12
          rw [beq_self_eq_true]
          go_wp2_with fail
          refine (same_any _ _ _ _ _ _ _ _ _ (hb11.keep kbd).bs (hb.keep ((k0c.trans kcb).trans kbd)) (by omega)).mono ?_
          rintro e w13 ⟨rfl, q13, hq13⟩
          have kde : Kp Noone w12 w13 := by rw [hq13]; exact (Kp.refl _ _).drewN _
          clear hq13
          rw [beq_self_eq_true]
          go_wp2
          go_ret
          exact ⟨rfl, ((k0c.trans kcb).trans kbd).trans kde⟩

theorem sealOpens_core {H : Type} {enc : TypeId × Value → H} (W : World) (base : Nat) (v0 : Value) (d0 : DataW H) (p0 : List MemPlace)
    (h0 : DataW.Trod enc Try.prog W 0 (fun _ => true) true 24 v0 d0 p0) (g0 : Value.okWide Try.prog W .any base 24 v0)
    (w0 : ∀ n ∈ d0.weights Try.prog 24, n ≤ reachBytes) :
    Calls Try.prog 7 #[v0] W fun e w' => e = .returned (.bool true) ∧ Kp Noone W w' := by
  obtain ⟨ao, n, cap, l, rfl, hb, hc⟩ := arg_bytesR h0 g0 w0
  have := hb.le
  exact sealOpens_walk ao n cap l W hb (by omega)

end Go.Proofs.Ytgbfbhkpjmgipaa
