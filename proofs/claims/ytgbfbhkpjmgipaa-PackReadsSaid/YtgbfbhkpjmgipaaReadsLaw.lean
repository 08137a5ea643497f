/-
  PackReads: whatever is read of any bytes is the document's.
-/
import Derived.Test.YtgbfbhkpjmgipaaOneLaw
import Derived.Test.YtgbfbhkpjmgipaaReadS
namespace Go.Proofs.Ytgbfbhkpjmgipaa
open Go.RowKit

theorem rtext_bad_le (left : List UInt8) (bad : Nat) (most : Int) (h : bad ≤ 13) : (rtext left bad most).1.2 ≤ 13 := by
  unfold rtext
  split
  · exact rcount_bad_le left bad most h
  · split <;> simp
theorem rtext_len (left : List UInt8) (bad : Nat) (most : Int) : (rtext left bad most).1.1.length ≤ left.length ∧ (rtext left bad most).2.length ≤ left.length := by
  have h := rcount_len left bad most
  unfold rtext
  split
  · exact ⟨h, by simp⟩
  · split
    · exact ⟨h, by simp⟩
    · simp only [List.length_drop, List.length_take]
      omega

theorem kp_two (w : World) (g : Nat) (a b : Value) : Kp (fun j => j = g) w ((w.setCell ⟨g, 0, none⟩ a).setCell ⟨g, 1, none⟩ b) :=
  Kp.setCell (S := fun j => j = g) (p := ⟨g, 1, none⟩) (Kp.setCell (S := fun j => j = g) (p := ⟨g, 0, none⟩) (Kp.refl _ _) (fun _ => rfl) a) (fun _ => rfl) b

set_option maxHeartbeats 2000000 in
set_option maxRecDepth 100000 in
theorem packReads_walk (ao : Option Addr) (n cap : Nat) (l : List UInt8) (to : Option Addr) (tn tcap : Nat) (ts : List (Int × Int)) (W : World) (hb : BS W ao n cap l) (ht : TS W to tn tcap ts) (hn : n ≤ 140737488353000) :
    Calls Try.prog 11 #[.slice ao n cap, .slice to tn tcap] W fun e w' => e = .returned (.bool true) ∧ Kp Noone W w' := by
  have HL := Lib.hid hb.len
  have HTL := Lib.hid ht.len
  have htn : tn ≤ 9223372036854775807 := by have h1 := ht.le; have h2 := ht.max; unfold maxLen at h2; omega
  go_enter Try.func11, Try.ntmps11
  go_wp2_with fail
  refine (head_any _).mono ?_
  rintro e w1 ⟨rfl, k1⟩
  go_wp2_with fail
  refine (copy_exact ao n cap l _ (hb.keep k1) (by omega)).mono ?_
  rintro e w2 ⟨rfl, hw2⟩
  have hO2 : Own (fun k => k = w1.heap.size) w2 5 1 (some ⟨w1.heap.size, 0, none⟩) n n (bv l) := Own.fresh rfl (by rw [hw2]; exact heap_alloc_new _ _) (by rw [length_bv, HL.out, Nat.mul_one]) (by unfold maxLen; omega)
  have hlt1 : w1.heap.size < w2.heap.size := by rw [hw2]; simp
  obtain ⟨hb2, k2⟩ := copied2 hw2 hb.len (by unfold maxLen; omega)
  clear hw2
  go_wp2_with fail
  refine (newReader_any _ n n l _ hb2 (by omega)).mono ?_
  rintro e w3 ⟨r, rfl, hr3, k3, hr⟩
  have hO3 := hO2.keep k3
  have K3 := (k1.trans k2).trans k3
  have hs2 := (k1.trans k2).size
  have hs1 := k1.size
  have hG : Hid (∀ k, Ex Noone w2 w3 k → W.heap.size ≤ k ∧ k < w3.heap.size ∧ k ≠ w1.heap.size) := Lib.hid (fun k hk => by have := Ex.none hk; omega)
  generalize Ex Noone w2 w3 = G at *
  clear k1 k2 k3 hb2 hO2
  go_wp2_with fail
  generalize w1.heap.size = g1 at *
  clear hlt1 hs2
  go_loopw [29, 7] (fun i _ wr => ∃ (k : Nat) (xs : List UInt8), k ≤ n ∧ i = .int .i64 k ∧ Own (fun k => k = g1) wr 5 1 (some ⟨g1, 0, none⟩) n n (bv xs) ∧ Kp (fun k => k = g1) w3 wr) (fun i _ _ => n - (intOf i).toNat)
  case atStart => exact ⟨0, l, Nat.zero_le _, rfl, hO3, Kp.refl _ _⟩
  case round =>
    obtain ⟨k, xs, hk, rfl, hor, kr⟩ := hrel
    by_cases hlt : k < n
    · obtain ⟨g, off, hkl, hgo, hF, hg, hc, hf, hset⟩ := hor.byte hlt
      cases hgo
      have hfl := Lib.hid (flip_val5 xs[k])
      have hst := Lib.hid (hset (xs[k] ^^^ 85))
      generalize xs[k] = x at *
      clear hset hb hor hr3 ht hO3
      rw [Nat.zero_add] at hc hf hst
      go_wp2_with fail
      go_roundw
      case rel => exact ⟨k + 1, _, by omega, by go_num, by rw [hfl.out]; exact hst.out, Kp.setCell (S := fun k => k = g1) (p := ⟨g1, k, none⟩) kr (fun _ => rfl) _⟩
      case measure => simp [intOf]; omega
    · have hr4 := hr3.kp kr (fun j hj c => (hG.out j hj).2.2 c)
      have K4 := K3.fin kr (fun j c => Or.inr (by omega))
      have hs4 := kr.size
      clear hr3 hO3 hor kr K3
      obtain ⟨w4, hw4⟩ : ∃ w4, w4 = wr := ⟨_, rfl⟩
      subst hw4
      go_wp2_with fail
      have kA : ∀ o : Obj, Kp Noone w4 (w4.alloc o) := fun o => (Kp.refl _ _).alloc o
      obtain ⟨w5, hw5⟩ : ∃ w5, w5 = w4.alloc (.cells #[.slice ao n cap, .int .i64 0] 60) := ⟨_, rfl⟩
      have hM5 : w5.heap[w4.heap.size]? = some (.cells #[.slice ao n cap, .int .i64 ((0 : Nat) : Int)] 60 (0, 0)) := by rw [hw5]; exact heap_alloc_new _ _
      have hr5 : Rd G w5 r l 0 := by rw [hw5]; exact hr4.keep (kA _)
      have K5 : Kp Noone W w5 := by rw [hw5]; exact K4.trans (kA _)
      have hs5 : w4.heap.size < w5.heap.size := by rw [hw5]; simp
      have hWg8 := K4.size
      have hGr := hr4.mem
      have hGW : Hid (∀ j, G j → W.heap.size ≤ j) := Lib.hid (fun j hj => (hG.out j hj).1)
      have hG8 : Hid (∀ j, G j → j < w4.heap.size) := Lib.hid (fun j hj => by have := hG.out j hj; omega)
      rw [← hw5]
      clear hr4 K4 kA hw5 hs4 hG
      generalize w4.heap.size = g8 at *
      go_loopw [43] (fun i wr => ∃ (k : Nat) (left : List UInt8) (bad : Nat) (ao' : Option Addr) (n' cap' : Nat), k ≤ tn ∧ i = .int .i64 (k : Int) ∧ bad ≤ 13 ∧ Hid (∀ W', BS W' ao n cap l → BS W' ao' n' cap' left) ∧ wr.heap[g8]? = some (.cells #[.slice ao' n' cap', .int .i64 (bad : Int)] 60 (0, 0)) ∧ Rd G wr r left bad ∧ Kp Noone W wr ∧ Hid (left.length ≤ n)) (fun i _ => tn - (intOf i).toNat)
      case atStart => exact ⟨0, l, 0, ao, n, cap, Nat.zero_le _, rfl, by omega, Lib.hid (fun _ h => h), hM5, hr5, K5, Lib.hid (by rw [HL.out]; exact Nat.le_refl _)⟩
      case round =>
        obtain ⟨k, left, bad, ao', n', cap', hk, rfl, hbad, hbs, hM, hrd, kr, hln⟩ := hrel
        by_cases hkt : k < tn
        · obtain ⟨i1, i2, tb, toff, rfl, htb, htc0, htc1⟩ := (ht.keep kr).get k (by rw [HTL.out]; exact hkt)
          generalize ts[k]'(by rw [HTL.out]; exact hkt) = t at *
          obtain ⟨K, most⟩ := t
          simp only [] at i1 i2 htc0 htc1
          have hMo := fun o : Obj => cells_two (((Kp.refl Noone wr).alloc o).heap hM id)
          have hMo0 := fun o => (hMo o).1
          have hMo1 := fun o => (hMo o).2.1
          have hro := fun o : Obj => hrd.keep ((Kp.refl Noone wr).alloc o)
          have hbo := fun o : Obj => hb.keep (kr.alloc o)
          have hsr := kr.size
          clear hMo ht
          by_cases cK0 : K = 0
          · subst cK0
            go_wp2_with fail
            refine (refReadNum_any ao' n' cap' left bad _ (hbs.out _ (hbo _)) hbad).mono ?_
            rintro e w6 ⟨ao2, n2, cap2, rfl, hb2, k6⟩
            have hM6 := k6.heap (((Kp.refl Noone wr).alloc _).heap hM id) id
            have hr6 := (hro _).keep k6
            have K6 := (kr.alloc _).trans k6
            have hMo6 := fun o : Obj => cells_two (((Kp.refl Noone w6).alloc o).heap hM6 id)
            have hMo60 := fun o => (hMo6 o).1
            have hMo61 := fun o => (hMo6 o).2.1
            have hMo62 := fun o => (hMo6 o).2.2.1
            have hMo63 := fun o => (hMo6 o).2.2.2
            have hgw : g8 < wr.heap.size := (Array.getElem?_eq_some_iff.1 hM).1
            have hT6 := k6.heap (heap_alloc_new wr (.cells #[.int .i64 0, .int .i64 most] 62)) id
            have hT := fun (o : Obj) a b => cells_two (set_off (set_off (((Kp.refl Noone w6).alloc o).heap hT6 id) (g := g8) (by omega) 0 a) (g := g8) (by omega) 1 b)
            have hT0 := fun o a b => (hT o a b).1
            have hr7 := fun (o : Obj) a b => (hr6.keep ((Kp.refl Noone w6).alloc o)).kp (kp_two _ g8 a b) (fun j hj c => by have := hG8.out j hj; omega)
            have HM7 := Lib.hid (fun (o : Obj) a b => set_two1 (set_two0 (((Kp.refl Noone w6).alloc o).heap hM6 id) a) b)
            have HK7 := Lib.hid (fun (o : Obj) a b => kp_new (kp_new (K6.alloc o) (g := g8) hWg8 0 a) (g := g8) hWg8 1 b)
            clear hT hT6 hMo6 hMo0 hMo1 hro hbo k6 hM hrd kr hr6 hM6
            unfold rdV
            go_wp2_with fail
            have hrlt : r < g8 := hG8.out r (hr7 (.cells #[] 0) .nilFunc .nilFunc).mem
            refine (readerNum_any r left bad _ (hr7 _ _ _)).mono ?_
            rintro e w8 ⟨rfl, hr8, k8⟩
            have hM8 := k8.heap (HM7.out _ _ _) (fun c => by omega)
            have hT8 := k8.cell (hT0 _ _ _) (fun c => by have c' : wr.heap.size = r := c; omega)
            have K8 := (HK7.out _ _ _).fin k8 (fun j c => Or.inr (by subst c; exact hGW.out _ hGr))
            obtain ⟨hm80, hm81, -, -⟩ := cells_two hM8
            have hble := rnum_bad_le left bad hbad
            have hlen2 := rnum_len left bad
            clear hr7 hT0 hMo60 hMo61 hMo62 hMo63 k8
            generalize rnum left bad = R at *
            obtain ⟨⟨left', bad'⟩, u⟩ := R
            simp only [] at *
            have hb3 := Lib.hid (fun W' h => hb2 W' (hbs.out W' h))
            have hln' : Hid (left'.length ≤ n) := Lib.hid (by have := hln.out; omega)
            clear hb2 hbs hln hlen2
            go_wp2_with fail
            go_quiet ((go_at_call 36; exact Calls.quiet_of_same ((readerErr_any r left' bad' _ (hr8.keep ((Kp.refl _ _).drewN _))).mono (fun e w' h => ⟨h.1, h.2.symm⟩))))
            go_wp2_with fail
            exact ⟨⟨k + 1, left', bad', ao2, n2, cap2, by omega, by go_num, hble, hb3, hM8, hr8.keep ((Kp.refl _ _).drewN _), K8.drewN _, hln'⟩, by simp [intOf]; omega⟩
          · by_cases cK1 : K = 1
            · subst cK1
              clear cK0
              go_wp2_with fail
              refine (refReadNum_any ao' n' cap' left bad _ (hbs.out _ (hbo _)) hbad).mono ?_
              rintro e w6 ⟨ao2, n2, cap2, rfl, hb2, k6⟩
              have hM6 := k6.heap (((Kp.refl Noone wr).alloc _).heap hM id) id
              have hr6 := (hro _).keep k6
              have K6 := (kr.alloc _).trans k6
              have hMo6 := fun o : Obj => cells_two (((Kp.refl Noone w6).alloc o).heap hM6 id)
              have hMo60 := fun o => (hMo6 o).1
              have hMo61 := fun o => (hMo6 o).2.1
              have hMo62 := fun o => (hMo6 o).2.2.1
              have hMo63 := fun o => (hMo6 o).2.2.2
              have hgw : g8 < wr.heap.size := (Array.getElem?_eq_some_iff.1 hM).1
              have hT6 := k6.heap (heap_alloc_new wr (.cells #[.int .i64 1, .int .i64 most] 62)) id
              have hT := fun (o : Obj) a b => cells_two (set_off (set_off (((Kp.refl Noone w6).alloc o).heap hT6 id) (g := g8) (by omega) 0 a) (g := g8) (by omega) 1 b)
              have hT0 := fun o a b => (hT o a b).1
              have hr7 := fun (o : Obj) a b => (hr6.keep ((Kp.refl Noone w6).alloc o)).kp (kp_two _ g8 a b) (fun j hj c => by have := hG8.out j hj; omega)
              have HM7 := Lib.hid (fun (o : Obj) a b => set_two1 (set_two0 (((Kp.refl Noone w6).alloc o).heap hM6 id) a) b)
              have HK7 := Lib.hid (fun (o : Obj) a b => kp_new (kp_new (K6.alloc o) (g := g8) hWg8 0 a) (g := g8) hWg8 1 b)
              clear hT hT6 hMo6 hMo0 hMo1 hro hbo k6 hM hrd kr hr6 hM6
              unfold rdV
              go_wp2_with fail
              have hrlt : r < g8 := hG8.out r (hr7 (.cells #[] 0) .nilFunc .nilFunc).mem
              have hu64 := rnum_lt left bad
              refine (readerInt_any r left bad _ (hr7 _ _ _)).mono ?_
              rintro e w8 ⟨rfl, hr8, k8⟩
              have hM8 := k8.heap (HM7.out _ _ _) (fun c => by omega)
              have hT8 := k8.cell (hT0 _ _ _) (fun c => by have c' : wr.heap.size = r := c; omega)
              have K8 := (HK7.out _ _ _).fin k8 (fun j c => Or.inr (by subst c; exact hGW.out _ hGr))
              obtain ⟨hm80, hm81, -, -⟩ := cells_two hM8
              have hble := rnum_bad_le left bad hbad
              have hlen2 := rnum_len left bad
              clear hr7 hT0 hMo60 hMo61 hMo62 hMo63 k8
              generalize rnum left bad = R at *
              obtain ⟨⟨left', bad'⟩, u⟩ := R
              simp only [] at *
              have hb3 := Lib.hid (fun W' h => hb2 W' (hbs.out W' h))
              have hln' : Hid (left'.length ≤ n) := Lib.hid (by have := hln.out; omega)
              clear hb2 hbs hln hlen2
              go_wp2_with fail
              refine (refUnfold_any u hu64 _).mono ?_
              rintro e w9 ⟨rfl, rfl⟩
              go_wp2_with fail
              go_quiet ((go_at_call 36; exact Calls.quiet_of_same ((readerErr_any r left' bad' _ (hr8.keep ((Kp.refl _ _).drewN _))).mono (fun e w' h => ⟨h.1, h.2.symm⟩))))
              go_wp2_with fail
              exact ⟨⟨k + 1, left', bad', ao2, n2, cap2, by omega, by go_num, hble, hb3, hM8, hr8.keep ((Kp.refl _ _).drewN _), K8.drewN _, hln'⟩, by simp [intOf]; omega⟩
            · by_cases cK2 : K = 2
              · subst cK2
                clear cK0 cK1
                obtain ⟨i2a, i2b⟩ := i2
                go_wp2_with fail
                refine (refReadCount_any ao' n' cap' left bad most _ (hbs.out _ (hbo _)) hbad i2a i2b).mono ?_
                rintro e w6 ⟨ao2, n2, cap2, rfl, hb2, k6⟩
                have hM6 := k6.heap (((Kp.refl Noone wr).alloc _).heap hM id) id
                have hr6 := (hro _).keep k6
                have K6 := (kr.alloc _).trans k6
                have hMo6 := fun o : Obj => cells_two (((Kp.refl Noone w6).alloc o).heap hM6 id)
                have hMo60 := fun o => (hMo6 o).1
                have hMo61 := fun o => (hMo6 o).2.1
                have hMo62 := fun o => (hMo6 o).2.2.1
                have hMo63 := fun o => (hMo6 o).2.2.2
                have hgw : g8 < wr.heap.size := (Array.getElem?_eq_some_iff.1 hM).1
                have hT6 := k6.heap (heap_alloc_new wr (.cells #[.int .i64 2, .int .i64 most] 62)) id
                have hT := fun (o : Obj) a b => cells_two (set_off (set_off (((Kp.refl Noone w6).alloc o).heap hT6 id) (g := g8) (by omega) 0 a) (g := g8) (by omega) 1 b)
                have hT0 := fun o a b => (hT o a b).1
                have hT1 := fun o a b => (hT o a b).2.1
                have hr7 := fun (o : Obj) a b => (hr6.keep ((Kp.refl Noone w6).alloc o)).kp (kp_two _ g8 a b) (fun j hj c => by have := hG8.out j hj; omega)
                have HM7 := Lib.hid (fun (o : Obj) a b => set_two1 (set_two0 (((Kp.refl Noone w6).alloc o).heap hM6 id) a) b)
                have HK7 := Lib.hid (fun (o : Obj) a b => kp_new (kp_new (K6.alloc o) (g := g8) hWg8 0 a) (g := g8) hWg8 1 b)
                clear hT hT6 hMo6 hMo0 hMo1 hro hbo k6 hM hrd kr hr6 hM6
                unfold rdV
                go_wp2_with fail
                have hrlt : r < g8 := hG8.out r (hr7 (.cells #[] 0) .nilFunc .nilFunc).mem
                refine (readerCount_any r left bad most _ (hr7 _ _ _) i2a i2b).mono ?_
                rintro e w8 ⟨rfl, hr8, k8⟩
                have hM8 := k8.heap (HM7.out _ _ _) (fun c => by omega)
                have hT8 := k8.cell (hT0 _ _ _) (fun c => by have c' : wr.heap.size = r := c; omega)
                have K8 := (HK7.out _ _ _).fin k8 (fun j c => Or.inr (by subst c; exact hGW.out _ hGr))
                obtain ⟨hm80, hm81, -, -⟩ := cells_two hM8
                have hble := rcount_bad_le left bad most hbad
                have hlen2 := rcount_len left bad most
                clear hr7 hT0 hT1 hMo60 hMo61 hMo62 hMo63 k8
                generalize rcount left bad most = R at *
                obtain ⟨⟨left', bad'⟩, u⟩ := R
                simp only [] at *
                have hb3 := Lib.hid (fun W' h => hb2 W' (hbs.out W' h))
                have hln' : Hid (left'.length ≤ n) := Lib.hid (by have := hln.out; omega)
                clear hb2 hbs hln hlen2
                go_wp2_with fail
                go_quiet ((go_at_call 36; exact Calls.quiet_of_same ((readerErr_any r left' bad' _ (hr8.keep ((Kp.refl _ _).drewN _))).mono (fun e w' h => ⟨h.1, h.2.symm⟩))))
                go_wp2_with fail
                exact ⟨⟨k + 1, left', bad', ao2, n2, cap2, by omega, by go_num, hble, hb3, hM8, hr8.keep ((Kp.refl _ _).drewN _), K8.drewN _, hln'⟩, by simp [intOf]; omega⟩
              · by_cases cK3 : K = 3
                · subst cK3
                  clear cK0 cK1 cK2
                  obtain ⟨i2a, i2b⟩ := i2
                  go_wp2_with fail
                  refine (refReadText_any ao' n' cap' left bad most _ (hbs.out _ (hbo _)) hbad i2a i2b (by have := hln.out; omega)).mono ?_
                  rintro e w6 ⟨ao2, n2, cap2, xo, xc, rfl, hb2, hx6, k6, hxn⟩
                  have hM6 := k6.heap (((Kp.refl Noone wr).alloc _).heap hM id) id
                  have hr6 := (hro _).keep k6
                  have hs6 : wr.heap.size ≤ w6.heap.size := Nat.le_trans ((Kp.refl Noone wr).alloc _).size k6.size
                  have K6 := (kr.alloc _).trans k6
                  have hMo6 := fun o : Obj => cells_two (((Kp.refl Noone w6).alloc o).heap hM6 id)
                  have hMo60 := fun o => (hMo6 o).1
                  have hMo61 := fun o => (hMo6 o).2.1
                  have hMo62 := fun o => (hMo6 o).2.2.1
                  have hMo63 := fun o => (hMo6 o).2.2.2
                  have hgw : g8 < wr.heap.size := (Array.getElem?_eq_some_iff.1 hM).1
                  have hxg : ∀ a, xo = some a → g8 < a.block := fun a h => by have := hxn a h; simp at this; omega
                  have hT6 := k6.heap (heap_alloc_new wr (.cells #[.int .i64 3, .int .i64 most] 62)) id
                  have hT := fun (o : Obj) a b => cells_two (set_off (set_off (((Kp.refl Noone w6).alloc o).heap hT6 id) (g := g8) (by omega) 0 a) (g := g8) (by omega) 1 b)
                  have hT0 := fun o a b => (hT o a b).1
                  have hT1 := fun o a b => (hT o a b).2.1
                  have hr7 := fun (o : Obj) a b => (hr6.keep ((Kp.refl Noone w6).alloc o)).kp (kp_two _ g8 a b) (fun j hj c => by have := hG8.out j hj; omega)
                  have hx7 := fun (o : Obj) a b => (hx6.keep ((Kp.refl Noone w6).alloc o)).kp (kp_two _ g8 a b) (fun c hc h => by have := hxg c hc; omega)
                  have HM7 := Lib.hid (fun (o : Obj) a b => set_two1 (set_two0 (((Kp.refl Noone w6).alloc o).heap hM6 id) a) b)
                  have HK7 := Lib.hid (fun (o : Obj) a b => kp_new (kp_new (K6.alloc o) (g := g8) hWg8 0 a) (g := g8) hWg8 1 b)
                  clear hT hT6 hMo6 hMo0 hMo1 hro hbo k6 hM hrd kr hr6 hM6 hx6 hxn K6
                  unfold rdV
                  go_wp2_with fail
                  have hrlt : r < g8 := hG8.out r hGr
                  refine (readerText_any r left bad most _ (hr7 _ _ _) i2a i2b (by have := hln.out; omega)).mono ?_
                  rintro e w8 ⟨yo, yc, rfl, hy8, hr8, k8⟩
                  have hM8 := k8.heap (HM7.out _ _ _) (fun c => by omega)
                  have hx8 := (hx7 _ _ _).kp k8 (fun c hc h => by have := hxg c hc; omega)
                  have K8 := (HK7.out _ _ _).fin k8 (fun j c => Or.inr (by subst c; exact hGW.out _ hGr))
                  have hble := rtext_bad_le left bad most hbad
                  have hlen2 := rtext_len left bad most
                  obtain ⟨F, hyF, HF⟩ : ∃ F : Nat → Prop, Own F w8 5 1 yo (rtext left bad most).2.length yc (bv (rtext left bad most).2) ∧ Hid (∀ j, F j → g8 < j ∧ W.heap.size ≤ j) := ⟨_, hy8, Lib.hid (fun j h => by have h1 : w6.heap.size ≤ j := Nat.le_trans (Nat.le_trans ((Kp.refl Noone w6).alloc _).size (kp_two _ g8 _ _).size) (Ex.none h).1; omega)⟩
                  clear hy8 hr7 hx7 hT0 hT1 hMo60 hMo61 hMo62 hMo63 k8 hxg
                  generalize rtext left bad most = R at *
                  obtain ⟨⟨left', bad'⟩, t⟩ := R
                  simp only [] at *
                  have hb3 := Lib.hid (fun W' h => hb2 W' (hbs.out W' h))
                  have hln' : Hid (left'.length ≤ n) := Lib.hid (by have := hln.out; omega)
                  have htl : t.length ≤ 140737488353000 := by have := hln.out; omega
                  clear hb2 hbs hln hlen2
                  go_wp2_with fail
                  refine (same_any _ _ _ _ _ _ t t _ hx8 hyF.bs (by omega)).mono ?_
                  rintro e w9 ⟨rfl, q, rfl⟩
                  rw [show (t == t) = true by simp]
                  have hyF9 := hyF.keep ((Kp.refl Noone w8).drewN q)
                  have hM9 := ((Kp.refl Noone w8).drewN q).heap hM8 id
                  have hr9 := hr8.keep ((Kp.refl Noone w8).drewN q)
                  have K9 := K8.drewN q
                  generalize w8.drewN q = w9 at *
                  clear hyF hM8 hr8 K8 hx8
                  generalize t.length = tl at *
                  go_wp2_with fail
                  go_loopw [115, 18] (fun i _ wq => ∃ (j : Nat) (xs : List UInt8), j ≤ tl ∧ i = .int .i64 (j : Int) ∧ Own F wq 5 1 yo tl yc (bv xs) ∧ Kp F w9 wq) (fun i _ _ => tl - (intOf i).toNat)
                  case atStart => exact ⟨0, _, Nat.zero_le _, rfl, hyF9, Kp.refl _ _⟩
                  case round =>
                    obtain ⟨j, xs, hj, rfl, hor, kq⟩ := hrel
                    by_cases hlt : j < tl
                    · obtain ⟨g, off, hkl, rfl, hFg, hg, hc, hf, hset⟩ := hor.byte hlt
                      have hfl := Lib.hid (flip_val xs[j])
                      have hst := Lib.hid (hset (xs[j] ^^^ 255))
                      generalize xs[j] = x at *
                      clear hset hb hor hyF9 hM9 hr9
                      go_wp2_with fail
                      go_roundw
                      case rel => exact ⟨j + 1, _, by omega, by go_num, by rw [hfl.out]; exact hst.out, kq.setCell (fun _ => hFg) _⟩
                      case measure => simp [intOf]; omega
                    · have hMq := kq.heap hM9 (fun c => by have := (HF.out _ c).1; omega)
                      have hrq := hr9.kp kq (fun i hi c => by have := (HF.out _ c).1; have := hG8.out i hi; omega)
                      have Kq := K9.fin kq (fun i c => Or.inr (HF.out _ c).2)
                      obtain ⟨hm80, hm81, -, -⟩ := cells_two hMq
                      clear hyF9 hM9 hr9 hor kq K9
                      go_wp2_with fail
                      go_quiet ((go_at_call 36; exact Calls.quiet_of_same ((readerErr_any r left' bad' _ (hrq.keep ((Kp.refl _ _).drewN _))).mono (fun e w' h => ⟨h.1, h.2.symm⟩))))
                      go_wp2_with fail
                      exact ⟨⟨k + 1, left', bad', ao2, n2, cap2, by omega, by go_num, hble, hb3, hMq, hrq.keep ((Kp.refl _ _).drewN _), Kq.drewN _, hln'⟩, by simp [intOf]; omega⟩
                · by_cases cK4 : K = 4
                  · subst cK4
                    clear cK0 cK1 cK2 cK3
                    go_wp2_with fail
                    refine (refDone_any ao' n' cap' left bad _ (hbs.out _ (hbo _))).mono ?_
                    rintro e w6 ⟨rfl, k6⟩
                    have hM6 := k6.heap (((Kp.refl Noone wr).alloc _).heap hM id) id
                    have hr6 := (hro _).keep k6
                    have K6 := (kr.alloc _).trans k6
                    obtain ⟨hm60, hm61, hm62, hm63⟩ := cells_two hM6
                    have hgw : g8 < wr.heap.size := (Array.getElem?_eq_some_iff.1 hM).1
                    have hr7 := fun a b => hr6.kp (kp_two w6 g8 a b) (fun j hj c => by have := hG8.out j hj; omega)
                    have hM7 := fun a b => set_two1 (set_two0 hM6 a) b
                    have HK7 := Lib.hid (fun a b => kp_new (kp_new K6 (g := g8) hWg8 0 a) (g := g8) hWg8 1 b)
                    have hrlt : r < g8 := hG8.out r hGr
                    have hble : rdone left bad ≤ 13 := by unfold rdone; split <;> omega
                    clear hMo0 hMo1 hro hbo k6 hM hrd kr hr6 hM6 K6
                    unfold rdV
                    generalize hdn : rdone left bad = bad' at *
                    have HDN := Lib.hid hdn
                    clear hdn
                    go_wp2_with fail
                    go_region_law (go_simp; go_at_call 37; refine (readerDone_any r left bad _ ((hr7 _ _).keep ((Kp.refl _ _).drew))).mono ?_; rw [HDN.out]; rintro e w8 ⟨rfl, hr8, k8⟩; have hM8 := k8.heap (((Kp.refl Noone _).drew).heap (hM7 _ _) id) (fun c => by omega); obtain ⟨hm80, hm81, -, -⟩ := cells_two hM8)
                    all_goals (
                      have K8 := ((HK7.out _ _).drew).fin k8 (fun j c => Or.inr (by subst c; exact hGW.out _ hGr))
                      clear hr7 hM7 hm60 hm61 hm62 hm63 k8
                      go_simp
                      rename_i hkk
                      refine hkk _ _ ?_
                      clear hkk
                      go_wp2_with fail
                      go_quiet ((go_at_call 36; exact Calls.quiet_of_same ((readerErr_any r left bad' _ (hr8.keep ((Kp.refl _ _).drewN _))).mono (fun e w' h => ⟨h.1, h.2.symm⟩))))
                      go_wp2_with fail
                      exact ⟨⟨k + 1, left, bad', ao', n', cap', by omega, by go_num, hble, hbs, hM8, hr8.keep ((Kp.refl _ _).drewN _), K8.drewN _, hln⟩, by simp [intOf]; omega⟩)
                  · have e0 : (K == 0) = false := by simpa using cK0
                    have e1 : (K == 1) = false := by simpa using cK1
                    have e2 : (K == 2) = false := by simpa using cK2
                    have e3 : (K == 3) = false := by simpa using cK3
                    have e4 : (K == 4) = false := by simpa using cK4
                    have hM9 := fun o : Obj => ((Kp.refl Noone wr).alloc o).heap hM id
                    have K9 := fun o : Obj => kr.alloc o
                    clear cK0 cK1 cK2 cK3 cK4 hM hrd kr hbo
                    go_wp2_with fail
                    go_quiet ((go_at_call 36; exact Calls.quiet_of_same ((readerErr_any r left bad _ ((hro _).keep ((Kp.refl _ _).drewN _))).mono (fun e w' h => ⟨h.1, h.2.symm⟩))))
                    go_wp2_with fail
                    exact ⟨⟨k + 1, left, bad, ao', n', cap', by omega, by go_num, hbad, hbs, hM9 _, (hro _).keep ((Kp.refl _ _).drewN _), (K9 _).drewN _, hln⟩, by simp [intOf]; omega⟩
        · go_wp2_with fail
          go_ret
          exact ⟨rfl, kr⟩

theorem packReads_core {H : Type} {enc : TypeId × Value → H} (W : World) (base : Nat) (v0 : Value) (d0 : DataW H) (p0 : List MemPlace) (v1 : Value) (d1 : DataW H) (p1 : List MemPlace)
    (h0 : DataW.Trod enc Try.prog W 0 (fun _ => true) true 24 v0 d0 p0) (h1 : DataW.Trod enc Try.prog W 0 (fun _ => true) true 58 v1 d1 p1)
    (g0 : Value.okWide Try.prog W .any base 24 v0) (g1 : Value.okWide Try.prog W .any base 58 v1) (w0 : ∀ n ∈ d0.weights Try.prog 24, n ≤ reachBytes) (_w1 : ∀ n ∈ d1.weights Try.prog 58, n ≤ reachBytes) :
    Calls Try.prog 11 #[v0, v1] W fun e w' => e = .returned (.bool true) ∧ Kp Noone W w' := by
  obtain ⟨ao, n, cap, l, rfl, hb, hc⟩ := arg_bytesR h0 g0 w0
  obtain ⟨to, tn, tcap, ts, rfl, ht⟩ := arg_take h1 g1
  have := hb.le
  exact packReads_walk ao n cap l to tn tcap ts W hb ht (by omega)

end Go.Proofs.Ytgbfbhkpjmgipaa
