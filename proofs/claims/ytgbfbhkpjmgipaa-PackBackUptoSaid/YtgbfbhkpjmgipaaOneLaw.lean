/-
  PackOneForm: what is read as numbers to its end is what would be written.
-/
import Derived.Test.YtgbfbhkpjmgipaaHead
import Derived.Test.YtgbfbhkpjmgipaaRead
namespace Go.Proofs.Ytgbfbhkpjmgipaa
open Go.RowKit

/-- What is read without an error is what would be written. -/
theorem rnum_back (left : List UInt8) (h : (rnum left 0).1.2 = 0) : left = numL (rnum left 0).2 ++ (rnum left 0).1.1 := by
  cases left with
  | nil => simp [rnum] at h
  | cons c r =>
    rw [rnum_cons] at *
    by_cases h1 : 8 < c.toNat
    · rw [if_pos h1] at h; simp at h
    · rw [if_neg h1] at *
      by_cases h2 : r.length < c.toNat
      · rw [if_pos h2] at h; simp at h
      · rw [if_neg h2] at *
        by_cases h3 : 0 < c.toNat ∧ r[0]? = some 0
        · rw [if_pos h3] at h; simp at h
        · rw [if_neg h3] at *
          have hs : sizeN (ofBE (r.take c.toNat)) = c.toNat := by rw [sizeN_read r c.toNat (by omega) (by omega)]; exact h3
          have hl : (r.take c.toNat).length = c.toNat := by rw [List.length_take]; omega
          have hb := beN_ofBE (r.take c.toNat)
          rw [hl] at hb
          simp only [numL, hs, hb, List.cons_append, List.take_append_drop]
          congr 1
          apply UInt8.toNat_inj.1
          simp

theorem Rd.mem {G : Nat → Prop} {w : World} {p : Nat} {left : List UInt8} {bad : Nat} (h : Rd G w p left bad) : G p := by
  obtain ⟨ao, n, cap, l, k, -, -, hoff, -⟩ := h
  exact hoff.1

set_option maxHeartbeats 2000000 in
theorem packOneForm_walk (ao : Option Addr) (n cap : Nat) (l : List UInt8) (W : World) (hb : BS W ao n cap l) (hn : n ≤ 140737488353000) :
    Calls Try.prog 10 #[.slice ao n cap] W fun e w' => e = .returned (.bool true) ∧ Kp Noone W w' := by
  have hlen := hb.len
  have HL := Lib.hid hlen
  clear hlen
  go_enter Try.func10, Try.ntmps10
  go_wp2_with fail
  refine (head_any _).mono ?_
  rintro e w1 ⟨rfl, k1⟩
  go_wp2_with fail
  refine (copy_exact ao n cap l _ (hb.keep k1) (by omega)).mono ?_
  rintro e w2 ⟨rfl, hw2⟩
  obtain ⟨hb2, k2⟩ := copied2 hw2 hb.len (by unfold maxLen; omega)
  clear hw2
  go_wp2_with fail
  refine (newReader_any _ n n l _ hb2 (by omega)).mono ?_
  rintro e w3 ⟨r, rfl, hr3, k3, hr⟩
  go_wp2_with fail
  refine (newWriter_any _).mono ?_
  rintro e w4 ⟨p, rfl, hw4, k4, hp⟩
  have hr4 := hr3.keep k4
  have K3 := (k1.trans k2).trans k3
  have K4 := K3.trans k4
  have hG : Hid (∀ k, Ex Noone w2 w3 k → W.heap.size ≤ k ∧ k < w3.heap.size) := Lib.hid (fun k hk => by have := Ex.none hk; have := (k1.trans k2).size; omega)
  have hs3 := K3.size
  have hs4 := k4.size
  generalize Ex Noone w2 w3 = G at *
  have hF4 : ∀ k, Ex Noone w3 w4 k → W.heap.size ≤ k ∧ ¬ G k := fun k hk => ⟨by have := Ex.none hk; omega, fun c => by have := Ex.none hk; have := hG.out k c; omega⟩
  clear k1 k2 k3 k4 hb2 hr3
  go_wp2_with fail
  go_loopw [5, 6] (fun i _ wr => ∃ (k : Nat) (ws ls : List UInt8) (F : Nat → Prop), k ≤ n ∧ i = .int .i64 (k : Int) ∧ Hid (ws ++ ls = l) ∧ Hid (k ≤ ws.length) ∧ Hid (ws.length < n ∨ n = 0) ∧ Rd G wr r ls 0 ∧ Wr F wr p ws ∧ Kp Noone W wr ∧ w4.heap.size ≤ wr.heap.size ∧ Hid (∀ k, F k → W.heap.size ≤ k ∧ ¬ G k)) (fun i _ _ => n - (intOf i).toNat)
  case atStart => exact ⟨0, [], l, _, Nat.zero_le _, rfl, Lib.hid rfl, Lib.hid (Nat.zero_le _), Lib.hid (by simp; omega), hr4, hw4, K4, Nat.le_refl _, Lib.hid hF4⟩
  case round =>
    obtain ⟨k, ws, ls, F, hk, rfl, hcat, hks, hwn, hrd, hwr, kr, hsz, hF⟩ := hrel
    clear hr4 hw4 hF4
    have hclen := congrArg List.length hcat.out
    rw [List.length_append, HL.out] at hclen
    have HCL := Lib.hid hclen
    clear hclen
    by_cases hkn : k < n
    · go_wp2_with fail
      refine (readerNum_any r ls 0 _ hrd).mono ?_
      rintro e w5 ⟨rfl, hrd5, k5⟩
      have hback := rnum_back ls
      have hbz := rnum_bad ls 0
      have hu64 := rnum_lt ls 0
      have hGr := hrd.mem
      have hwr5 := hwr.kp k5 (fun j hj c => by subst c; exact (hF.out _ hj).2 hGr)
      have K5 := kr.fin k5 (fun j c => Or.inr (by subst c; exact (hG.out _ hGr).1))
      have hsz5 := k5.size
      clear hrd hwr kr k5
      generalize hRR : rnum ls 0 = RR at *
      obtain ⟨⟨ls', bad'⟩, u⟩ := RR
      simp only [] at *
      clear hRR
      have HB := Lib.hid hback
      have HZ := Lib.hid hbz
      clear hback hbz
      go_wp2_with fail
      refine (readerErr_any r _ _ _ hrd5).mono ?_
      rintro e w6 ⟨rfl, rfl⟩
      by_cases hb0 : bad' = 0
      · subst hb0
        rw [Int.natCast_zero]
        have hls := HB.out rfl
        have HLS := Lib.hid hls
        clear hls HB HZ
        have hl5 : ws.length ≤ 140737488355000 := by have := hwn.out; omega
        go_wp2_with fail
        refine (writerNum_any F p ws u _ hwr5 hu64 hl5).mono ?_
        rintro e w6 ⟨rfl, hwr6, k6⟩
        have hrd6 := hrd5.kp k6 (fun j hj c => (hF.out _ c).2 hj)
        have K6 := K5.fin k6 (fun j c => Or.inr (hF.out _ c).1)
        have hs6 := k6.size
        have hF6 : Hid (∀ k, Ex F w5 w6 k → W.heap.size ≤ k ∧ ¬ G k) := Lib.hid (fun j hj => by
          rcases hj with hj | hj
          · exact hF.out j hj
          · exact ⟨by omega, fun c => by have := hG.out j c; omega⟩)
        have hcat6 : Hid ((ws ++ numL u) ++ ls' = l) := Lib.hid (by rw [List.append_assoc, ← HLS.out]; exact hcat.out)
        have hlen6 : (ws ++ numL u).length ≤ n ∧ k + 1 ≤ (ws ++ numL u).length := by
          have h1 := congrArg List.length hcat6.out
          rw [List.length_append, HL.out] at h1
          have h2 := hks.out
          rw [List.length_append, length_numL] at *
          omega
        have hcl6 : (ws ++ numL u).length + ls'.length = n := by
          have h1 := congrArg List.length hcat6.out
          rw [List.length_append, HL.out] at h1
          exact h1
        clear hwr5 hrd5 k6 hl5 HLS hcat hks
        generalize ws ++ numL u = ws6 at *
        go_wp2_with fail
        refine (writerBytes_any _ p ws6 _ hwr6 (by omega)).mono ?_
        rintro e w7 ⟨bo, c7, rfl, ho7, k7⟩
        have hrd7 := hrd6.keep k7
        have hwr7 := hwr6.keep k7
        have K7 := K6.trans k7
        have hs7 := k7.size
        by_cases hfull : n ≤ ws6.length
        · obtain rfl : ls' = [] := List.eq_nil_of_length_eq_zero (by omega)
          have hd0 : rdone [] 0 = 0 := rfl
          have hl6 : Hid (ws6 = l) := Lib.hid (by have := hcat6.out; rwa [List.append_nil] at this)
          go_wp2_with fail
          refine (readerDone_any r [] 0 _ hrd7).mono ?_
          rw [hd0]
          rintro e w8 ⟨rfl, hrd8, k8⟩
          have hwr8 := hwr7.kp k8 (fun j hj c => by subst c; exact (hF6.out _ hj).2 hGr)
          have K8 := K7.fin k8 (fun j c => Or.inr (by subst c; exact (hG.out _ hGr).1))
          go_wp2_with fail
          refine (writerBytes_any _ p ws6 _ hwr8 (by omega)).mono ?_
          rintro e w9 ⟨bo9, c9, rfl, ho9, k9⟩
          have K9 := K8.trans k9
          have hb9 := hb.keep K9
          go_wp2_with fail
          refine (same_any _ _ _ _ _ _ ws6 l _ ho9.bs hb9 (by omega)).mono ?_
          rintro e w10 ⟨rfl, q, rfl⟩
          rw [hl6.out]
          go_wp2_with fail
          go_ret
          exact ⟨by simp, K9.drewN q⟩
        · go_wp2_with fail
          refine ⟨⟨k + 1, ws6, ls', _, by omega, by go_num, hcat6, Lib.hid hlen6.2, Lib.hid (Or.inl (by omega)), hrd7, hwr7, K7, by omega, hF6⟩, by simp [intOf]; omega⟩
      · have hu0 := HZ.out hb0
        have hd : ((bad' : Int) != 0) = true := by simp; omega
        subst hu0
        have hdn : rdone ls' bad' = bad' := by unfold rdone; rw [if_neg (fun c => hb0 c.1)]
        go_wp2_with fail
        refine (readerDone_any r ls' bad' _ hrd5).mono ?_
        rw [hdn]
        rintro e w8 ⟨rfl, hrd8, k8⟩
        have K8 := K5.fin k8 (fun j c => Or.inr (by subst c; exact (hG.out _ hGr).1))
        go_wp2_with fail
        go_ret
        exact ⟨rfl, K8⟩
    · have hn0 : n = 0 := by have := hwn.out; have := hks.out; omega
      have hl0 : ls = [] := List.eq_nil_of_length_eq_zero (by have := HCL.out; omega)
      subst hn0
      subst hl0
      have hd0 : rdone [] 0 = 0 := rfl
      have hGr := hrd.mem
      go_wp2_with fail
      refine (readerDone_any r [] 0 _ hrd).mono ?_
      rw [hd0]
      rintro e w8 ⟨rfl, hrd8, k8⟩
      have K8 := kr.fin k8 (fun j c => Or.inr (by subst c; exact (hG.out _ hGr).1))
      go_wp2_with fail
      go_ret
      exact ⟨rfl, K8⟩

theorem packOneForm_core {H : Type} {enc : TypeId × Value → H} (W : World) (base : Nat) (v0 : Value) (d0 : DataW H) (p0 : List MemPlace)
    (h0 : DataW.Trod enc Try.prog W 0 (fun _ => true) true 24 v0 d0 p0)
    (g0 : Value.okWide Try.prog W .any base 24 v0) (w0 : ∀ n ∈ d0.weights Try.prog 24, n ≤ reachBytes) :
    Calls Try.prog 10 #[v0] W fun e w' => e = .returned (.bool true) ∧ Kp Noone W w' := by
  obtain ⟨ao, n, cap, l, rfl, hb, hc⟩ := arg_bytesR h0 g0 w0
  have := hb.le
  exact packOneForm_walk ao n cap l W hb (by omega)

end Go.Proofs.Ytgbfbhkpjmgipaa
