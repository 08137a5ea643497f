/-
  WALK of bytes: an x and pairs of hexadecimal digits.
-/
import Derived.Test.YtfinbppmkffbhaaDoorScriptE0
import Derived.BigQuiet
import Derived.Deep.Cut
import Derived.OwnWalk
import Derived.Sort.Grow
import Derived.Deep.LoopGhost
namespace Go.Proofs.YtfinbppmkffbhaaDoor
open Go.RowKit Go.Sort

def hexLs : List UInt8 := [48, 49, 50, 51, 52, 53, 54, 55, 56, 57, 97, 98, 99, 100, 101, 102]
theorem index_hex (c : UInt8) : Lib.indexByte hexLs c = hexV c := by
  have h : ∀ n, n < 256 → Lib.indexByte hexLs (UInt8.ofNat n) = hexV (UInt8.ofNat n) := by decide +kernel
  have := h c.toNat c.toNat_lt
  simpa using this
/-- What is left of the pairs behind j of them. -/
theorem pairs_step (r : List UInt8) (j : Nat) (a b : UInt8) (t : List UInt8) (h : r.drop (2 * j) = a :: b :: t) :
    r.drop (2 * (j + 1)) = t := by
  have : r.drop (2 * (j + 1)) = (r.drop (2 * j)).drop 2 := by rw [List.drop_drop, show 2 * (j + 1) = 2 * j + 2 by omega]
  rw [this, h]
  rfl
theorem bits_or : ∀ a : Nat, a < 16 → ∀ b : Nat, b < 16 → bits BinOp.or IntKind.i64 ((a : Int) * 16) (b : Int) = ((a * 16 + b : Nat) : Int) := by decide +kernel
theorem meas_two (p n : Nat) (h : p < n) (hn : n ≤ 4194304) : (4194305 - ((p : Int) + 2)).toNat < (4194305 - (p : Int)).toNat := by omega
/-- What bytes answers. -/
structure BytesTo (l : List UInt8) (w : World) (e : Ending) (w' : World) : Prop where
  kp : Kp Noone w w'
  is : (bytesF l = none ∧ e = .returned (.tuple #[.slice none 0 0, .int .i64 21])) ∨ (∃ d bo bc, bytesF l = some d ∧ e = .returned (.tuple #[.slice bo d.length bc, .int .i64 0]) ∧ Own (fun k => w.heap.size ≤ k) w' 5 1 bo d.length bc (bv d))
set_option maxHeartbeats 4000000 in
set_option maxRecDepth 100000 in
theorem bytes_any (s : ByteArray) (w : World) (hs : s.size ≤ 4194304) :
    Calls Tryd.prog 32 #[.string s] w fun e w' => BytesTo s.data.toList w e w' := by
  have hsl := ba_len s
  obtain ⟨l, hl⟩ : ∃ l, s.data.toList = l := ⟨_, rfl⟩
  have hget : ∀ i (h : i < s.size), l.getD i 0 = s[i]'h := fun i h => by
    have h1 := Lib.data_getElem? s i h
    rw [← hl, List.getD_eq_getElem?_getD, h1]
    rfl
  rw [hl] at hsl ⊢
  have HSL := Lib.hid hsl
  have HG := Lib.hid hget
  clear hsl hget hl
  have hrem : (s.size : Int).tmod 2 = ((s.size % 2 : Nat) : Int) := by
    rw [Int.tmod_eq_emod_of_nonneg (by omega)]
    omega
  by_cases hodd : s.size % 2 = 1
  case neg =>
    have HB : Hid (bytesF l = none) := Lib.hid (by
      unfold bytesF
      cases l with
      | nil => rfl
      | cons c r => simp only []; rw [if_pos (Or.inl (by rw [HSL.out]; exact hodd))])
    have he : s.size % 2 = 0 := by omega
    rw [he] at hrem
    clear hodd he
    go_enter Tryd.func32, Tryd.ntmps32
    go_wp2_with fail
    go_ret2
    exact ⟨Kp.refl _ _, Or.inl ⟨HB.out, rfl⟩⟩
  have h0 : 0 < s.size := by omega
  have h0z : (0 : Int) < (s.size : Int) := by omega
  obtain ⟨x, hx⟩ : ∃ x, s[0]'h0 = x := ⟨_, rfl⟩
  obtain ⟨c, r, hcr⟩ : ∃ c r, l = c :: r := by
    cases l with
    | nil => have := HSL.out; simp at this; omega
    | cons c r => exact ⟨c, r, rfl⟩
  have hcx : c = x := by
    have := HG.out 0 h0
    rw [hcr, hx] at this
    exact this
  rw [hodd] at hrem
  have HBF : Hid (bytesF l = if x ≠ 120 then none else pairsF r) := Lib.hid (by
    unfold bytesF
    rw [hcr]
    simp only []
    have hl2 : (c :: r).length % 2 = 1 := by rw [← hcr, HSL.out]; exact hodd
    rw [hl2, hcx]
    simp)
  have HRL : Hid (r.length + 1 = s.size) := Lib.hid (by have := HSL.out; rw [hcr] at this; simpa using this)
  have HRG : Hid (∀ i (h : i + 1 < s.size), r.getD i 0 = s[i + 1]'h) := Lib.hid (fun i h => by
    have := HG.out (i + 1) h
    rw [hcr] at this
    simpa using this)
  have HOD := Lib.hid hodd
  clear hcr hcx HSL HG hodd
  by_cases h120 : x = 120
  case neg =>
    have HB : Hid (bytesF l = none) := Lib.hid (by rw [HBF.out, if_pos h120])
    have hne : ((x.toNat : Int) == 120) = false := by
      rw [beq_eq_false_iff_ne]
      intro e
      exact h120 (UInt8.toNat_inj.1 (by have : x.toNat = 120 := by omega
                                        rw [this]; rfl))
    have hxm := x.toNat_lt
    clear h120
    have hx2 : (s[0]'h0).toNat = x.toNat := by rw [hx]
    clear hx
    generalize x.toNat = xm at *
    go_enter Tryd.func32, Tryd.ntmps32
    go_wp2_with fail
    go_ret2
    exact ⟨Kp.refl _ _, Or.inl ⟨HB.out, rfl⟩⟩
  have hx2 : (s[0]'h0).toNat = 120 := by rw [hx, h120]; rfl
  have HB : Hid (bytesF l = pairsF r) := Lib.hid (by rw [HBF.out, if_neg (fun h => h h120)])
  clear hx HBF h120
  obtain ⟨i0, hi, hz0, hz1, hz2⟩ := info_parts (P := Tryd.prog) (e := 5) (z := .int .u8 0) (size := 1) (bytes := 1) (by kernel_rfl)
  go_enter Tryd.func32, Tryd.ntmps32
  go_wp2_with fail
  clear hx2 hrem
  have hib : ∀ (m : Nat) (W : World), m < 256 → Calls Tryd.prog 41 #[.string ⟨#[48, 49, 50, 51, 52, 53, 54, 55, 56, 57, 97, 98, 99, 100, 101, 102]⟩, .int .u8 (m : Int)] W fun e w' => e = .returned (.int .i64 (hexV (UInt8.ofNat m))) ∧ w' = W := fun m W hm => by
    have h1 := Tryd.strings_IndexByte ⟨#[48, 49, 50, 51, 52, 53, 54, 55, 56, 57, 97, 98, 99, 100, 101, 102]⟩ (m : Int) W
    have h2 := index_hex (UInt8.ofNat m)
    have h3 : ((m : Int).toNat.toUInt8) = UInt8.ofNat m := rfl
    rw [h3] at h1
    rw [← h2]
    exact h1
  have HIB := Lib.hid hib
  clear hib
  go_loopw [4, 5] (fun v4 v5 wx => ∃ (p j : Nat) (done : List UInt8) (bo : Option Addr) (bc : Nat), v5 = .int .i64 (p : Int) ∧ Hid (p = 1 + 2 * j) ∧ p ≤ s.size ∧ v4 = .slice bo j bc ∧ Hid (pairsF r = (pairsF (r.drop (2 * j))).map (done ++ ·)) ∧ Hid (Own (fun k => w.heap.size ≤ k) wx 5 1 bo j bc (bv done)) ∧ Hid (Kp Noone w wx)) (fun _ v5 _ => (4194305 - intOf v5).toNat)
  case atStart => exact ⟨1, 0, [], none, 0, rfl, Lib.hid rfl, by omega, rfl, Lib.hid (by simp), Lib.hid (Own.nil _ _ _ _ _), Lib.hid (Kp.refl _ _)⟩
  case round =>
    obtain ⟨p, j, done, bo, bc, rfl, hpj, hj, rfl, hp, ho, hk⟩ := hrel
    by_cases hlt : p < s.size
    · have hlt2 : p + 1 < s.size := by have := HOD.out; have := hpj.out; omega
      have hltz : (p : Int) < (s.size : Int) := by omega
      have hltz2 : (p : Int) + 1 < (s.size : Int) := by omega
      have hp0 : (0 : Int) ≤ (p : Int) := by omega
      have hwp : IntKind.i64.wrap ((p : Int) + 1) = (p : Int) + 1 := IntWalk.i64_in _ (by omega)
      have hwp2 : IntKind.i64.wrap ((p : Int) + 2) = (p : Int) + 2 := IntWalk.i64_in _ (by omega)
      obtain ⟨a, ha⟩ : ∃ a, s[p]'hlt = a := ⟨_, rfl⟩
      obtain ⟨b, hb⟩ : ∃ b, s[p + 1]'hlt2 = b := ⟨_, rfl⟩
      have hdr : r.drop (2 * j) = a :: b :: r.drop (2 * (j + 1)) := by
        have e1 := hpj.out
        subst e1
        have g1 := HRG.out (2 * j) (by omega)
        have g2 := HRG.out (2 * j + 1) (by omega)
        have l1 : 2 * j < r.length := by have := HRL.out; omega
        have l2 : 2 * j + 1 < r.length := by have := HRL.out; omega
        rw [List.getD_eq_getElem?_getD, List.getElem?_eq_getElem l1] at g1
        rw [List.getD_eq_getElem?_getD, List.getElem?_eq_getElem l2] at g2
        rw [List.drop_eq_getElem_cons l1, List.drop_eq_getElem_cons l2]
        have e2 : r[2 * j] = a := by rw [← ha]; simpa [Nat.add_comm] using g1
        have e3 : r[2 * j + 1] = b := by rw [← hb]; simpa [Nat.add_comm, Nat.add_left_comm] using g2
        rw [e2, e3, show 2 * (j + 1) = 2 * j + 1 + 1 by omega]
      have HPR : Hid (pairsF r = (if hexV a < 0 ∨ hexV b < 0 then none else match pairsF (r.drop (2 * (j + 1))) with
        | none => none
        | some t => some (UInt8.ofNat (hexV a * 16 + hexV b).toNat :: t)).map (done ++ ·)) := Lib.hid (by rw [hp.out, hdr]; rfl)
      have hna : (s[p]'hlt).toNat = a.toNat := by rw [ha]
      have hnb : (s[p + 1]'hlt2).toNat = b.toNat := by rw [hb]
      have hia := fun W => HIB.out a.toNat W a.toNat_lt
      have hibb := fun W => HIB.out b.toNat W b.toNat_lt
      have ea : UInt8.ofNat a.toNat = a := by simp
      have eb : UInt8.ofNat b.toNat = b := by simp
      rw [ea] at hia
      rw [eb] at hibb
      have hma := a.toNat_lt
      have hmb := b.toNat_lt
      have va : -1 ≤ hexV a ∧ hexV a ≤ 15 := by unfold hexV; split <;> (try split) <;> omega
      have vb : -1 ≤ hexV b ∧ hexV b ≤ 15 := by unfold hexV; split <;> (try split) <;> omega
      clear hdr ha hb ea eb hp
      generalize a.toNat = ma at *
      generalize b.toNat = mb at *
      generalize hexV a = xa at *
      generalize hexV b = xb at *
      go_upto_region 7 with fail
      go_quiet (first
        | (go_at_call 41; exact Calls.quiet_of_same (hia _))
        | (go_at_call 41; exact Calls.quiet_of_same (hibb _)))
      by_cases ha0 : xa < 0
      · have HN : Hid (pairsF r = none) := Lib.hid (by rw [HPR.out, if_pos (Or.inl ha0)]; rfl)
        go_wp2_with fail
        go_ret2
        exact ⟨hk.out.drewN _, Or.inl ⟨by rw [HB.out, HN.out], rfl⟩⟩
      by_cases hb0 : xb < 0
      · have HN : Hid (pairsF r = none) := Lib.hid (by rw [HPR.out, if_pos (Or.inr hb0)]; rfl)
        have ha1 : 0 ≤ xa := by omega
        go_wp2_with fail
        go_ret2
        exact ⟨hk.out.drewN _, Or.inl ⟨by rw [HB.out, HN.out], rfl⟩⟩
      obtain ⟨na, rfl⟩ := Int.eq_ofNat_of_zero_le (show 0 ≤ xa by omega)
      obtain ⟨nb, rfl⟩ := Int.eq_ofNat_of_zero_le (show 0 ≤ xb by omega)
      have va2 : na ≤ 15 := by omega
      have vb2 : nb ≤ 15 := by omega
      have HPS : Hid (pairsF r = (pairsF (r.drop (2 * (j + 1)))).map ((done ++ [UInt8.ofNat (na * 16 + nb)]) ++ ·)) := Lib.hid (by
        rw [HPR.out, if_neg (by omega)]
        have e : ((na : Int) * 16 + (nb : Int)).toNat = na * 16 + nb := by omega
        rw [e]
        cases pairsF (r.drop (2 * (j + 1))) <;> simp)
      clear va vb HPR
      have hbits := bits_or na (by omega) nb (by omega)
      obtain ⟨nn, hnn⟩ : ∃ nn, na * 16 + nb = nn := ⟨_, rfl⟩
      have hn255 : nn ≤ 255 := by omega
      rw [hnn] at hbits
      have HPS2 : Hid (pairsF r = (pairsF (r.drop (2 * (j + 1)))).map ((done ++ [UInt8.ofNat nn]) ++ ·)) := Lib.hid (by rw [HPS.out, hnn])
      have hmod : (nn : Int) % 256 = (nn : Int) := by omega
      have HY : Hid ((UInt8.ofNat nn).toNat = nn) := Lib.hid (by simp; omega)
      have HRow : Hid (∀ W : World, Row (W.alloc (.cells #[.int .u8 (nn : Int)] 5)) (some ⟨W.heap.size, 0, none⟩) (bv [UInt8.ofNat nn])) := Lib.hid (fun W => by
        have e : bv [UInt8.ofNat nn] = [.int .u8 (nn : Int)] := by unfold bv U8; simp only [List.map_cons, List.map_nil]; rw [HY.out]
        rw [e]
        exact Row.ofHeap (heap_alloc_new W _))
      have hjm : j ≤ 4194304 := by have := hpj.out; omega
      have KW : Hid (Kp Noone w (wr.drewN nq)) := Lib.hid (hk.out.drewN _)
      clear hnn HPS
      go_upto_region 10 with fail
      go_wp2_with (at_builtin; refine wpList_append_gen _ rfl (.tmp 38) (.tmp 44) 25 rfl 5 i0 (.int .u8 0) 1 1 Tryd.underlying25 hi hz0 hz1 hz2 rfl bo j bc rfl _ 1 1 rfl _ (bv done) (ho.out.keep (((Kp.refl _ _).drewN _).alloc _)) (bv [UInt8.ofNat nn]) rfl (HRow.out _) (bv_one _) (by omega) (by unfold maxLen; omega) ?_)
      intro bo' c' w2 ho2 hk2
      have HO2 : Hid (Own (fun k => w.heap.size ≤ k) w2 5 1 bo' (j + 1) c' (bv (done ++ [UInt8.ofNat nn])) ∧ Kp Noone w w2) := Lib.hid ⟨by
        rw [← bv_append]
        refine ho2.mono (fun x hx h => ?_)
        rcases h with h | h
        · exact h
        · have s1 := KW.out.size
          have s2 : ((wr.drewN nq).alloc (.cells #[.int .u8 (nn : Int)] 5)).heap.size = (wr.drewN nq).heap.size + 1 := by simp
          omega, Kp.fin (KW.out.alloc _) hk2 (fun x h => Or.inr h)⟩
      clear ho2 hk2
      go_wp2_with fail
      go_roundw
      case rel => exact ⟨p + 2, j + 1, _, bo', c', rfl, Lib.hid (by have := hpj.out; omega), by omega, rfl, Lib.hid HPS2.out, Lib.hid HO2.out.1, Lib.hid HO2.out.2⟩
      case measure => exact meas_two p s.size hlt hs
    · have HE : Hid (pairsF r = some done) := Lib.hid (by
        rw [hp.out, List.drop_eq_nil_of_le (by have := HRL.out; have := hpj.out; omega)]
        simp [pairsF])
      have hdl : done.length = j := by have := ho.out.1; rw [length_bv] at this; omega
      have HDL := Lib.hid hdl
      have hltz : ¬ (p : Int) < (s.size : Int) := by omega
      clear hlt hdl
      go_wp2_with fail
      go_ret2
      exact ⟨hk.out, Or.inr ⟨done, bo, bc, by rw [HB.out, HE.out], by rw [HDL.out]; rfl, by rw [HDL.out]; exact ho.out⟩⟩

end Go.Proofs.YtfinbppmkffbhaaDoor
