/-
  WALK of ScriptTexts: a text of given lines is what it was made of, and each command's line is its line.
-/
import Derived.Test.YtfinbppmkffbhaaDoorTexts0
import Derived.Deep.MidRow
namespace Go.Proofs.YtfinbppmkffbhaaDoor
open Go.RowKit Go.Sort

set_option maxHeartbeats 8000000 in
set_option maxRecDepth 100000 in
theorem texts_walk (ao : Option Addr) (n cap : Nat) (ls : List (List UInt8)) (ended : Bool) (w : World) (hA : SS w ao n cap ls) (hnm : n ≤ 140737488351232) (hb : ∀ l ∈ ls, l.length ≤ 140737488351232) (hL : LaidS w) :
    Calls Tryd.prog 6 #[.slice ao n cap, .bool ended] w fun e w' => e = .returned (.bool true) ∧ Kp Noone w w' := by
  have HL := Lib.hid hL
  have HA := Lib.hid hA
  have HB := Lib.hid hb
  have hnl : ls.length = n := hA.len
  have HNL := Lib.hid hnl
  clear hL hA hb hnl
  go_enter Tryd.func6, Tryd.ntmps6
  go_wp2_with fail
  refine (head_any _ HL.out).mono ?_
  rintro e w1 ⟨rfl, k1⟩
  have HT0 : Hid (TSt w ls 0 ⟨#[]⟩ w1) := Lib.hid ⟨rfl, fun i h => by omega, k1⟩
  clear k1
  go_wp2_with fail
  go_loopw [23, 5, 6, 7] (fun v23 v5 v6 v7 wx => ∃ (j b : Nat) (c : Int) (t : ByteArray), v23 = .int .i64 (j : Int) ∧ j ≤ n ∧ v5 = .string t ∧ t.size ≤ 65536 ∧ v6 = .int .i64 (b : Int) ∧ v7 = .int .i64 c ∧ Hid (bwS ls j = (b, c)) ∧ Hid (TSt w ls j t wx)) (fun v23 _ _ _ _ => (1048577 - intOf v23).toNat)
  case atStart => exact ⟨0, 0, 0, ⟨#[]⟩, rfl, Nat.zero_le _, rfl, by decide, rfl, rfl, Lib.hid rfl, HT0⟩
  case round =>
    clear HT0
    obtain ⟨j, b, c, t, rfl, hj, rfl, ht, rfl, rfl, hbw, hst⟩ := hrel
    have HJT : Hid (j ≤ t.size) := Lib.hid (hst.out.len (by rw [HNL.out]; exact hj))
    by_cases hlt : j < n
    · have hltz : (j : Int) < (n : Int) := by omega
      have hj6 : j ≤ 65536 := by have := HJT.out; omega
      have hwj : IntKind.i64.wrap ((j : Int) + 1) = (j : Int) + 1 := IntWalk.i64_in _ (by omega)
      obtain ⟨bk, off, rfl, -, hc0⟩ := (HA.out.keep hst.out.kp).at hlt
      have hgm : getW ls j ∈ ls := by
        rw [getW_at ls j (by rw [HNL.out]; exact hlt)]
        exact List.getElem_mem _
      have hln : (getW ls j).length ≤ 140737488351232 := HB.out _ hgm
      unfold strV at hc0
      have hls : (⟨(getW ls j).toArray⟩ : ByteArray).size = (getW ls j).length := ba_size _
      have HLD : Hid ((⟨(getW ls j).toArray⟩ : ByteArray).data.toList = getW ls j) := Lib.hid (by simp)
      generalize (⟨(getW ls j).toArray⟩ : ByteArray) = s at *
      have hsm : s.size ≤ 140737488351232 := by omega
      have hw1 : IntKind.i64.wrap ((t.size : Int) + (s.size : Int)) = (t.size : Int) + (s.size : Int) := IntWalk.i64_in _ (by omega)
      have hw2 : IntKind.i64.wrap ((t.size : Int) + (s.size : Int) + 1) = (t.size : Int) + (s.size : Int) + 1 := IntWalk.i64_in _ (by omega)
      clear hln hgm hls
      by_cases hbig : 65536 < t.size + s.size + 1
      · have hbz : (65536 : Int) < (t.size : Int) + (s.size : Int) + 1 := by omega
        have HK := Lib.hid hst.out.kp
        clear hbig
        go_wp2_with fail
        go_ret
        exact ⟨rfl, HK.out⟩
      have hbz : ¬ (65536 : Int) < (t.size : Int) + (s.size : Int) + 1 := by omega
      have hs6 : s.size ≤ 65535 := by omega
      have HTS : Hid (t.size + s.size + 1 ≤ 65536) := Lib.hid (by omega)
      have HLT := Lib.hid hlt
      clear hbig hlt
      go_wp2_with fail
      clear hw1 hw2 hbz
      go_loopw [10] (fun v wx => ∃ q : Nat, v = .int .i64 (q : Int) ∧ q ≤ s.size ∧ Hid (∀ i (h : i < s.size), i < q → s[i] ≠ 10) ∧ wx = wr) (fun v _ => (1048577 - intOf v).toNat)
      case atStart => exact ⟨0, rfl, Nat.zero_le _, Lib.hid (fun i h h2 => by omega), rfl⟩
      case round =>
        obtain ⟨q, rfl, hq, hno, rfl⟩ := hrel
        by_cases hql : q < s.size
        · have hqz : (q : Int) < (s.size : Int) := by omega
          have hwq : IntKind.i64.wrap ((q : Int) + 1) = (q : Int) + 1 := IntWalk.i64_in _ (by omega)
          obtain ⟨x, hx⟩ : ∃ x, s[q]'hql = x := ⟨_, rfl⟩
          have hxn : (s[q]'hql).toNat = x.toNat := by rw [hx]
          by_cases h10 : x = 10
          · have hxm : (s[q]'hql).toNat = 10 := by rw [hxn, h10]; rfl
            have HK := Lib.hid hst.out.kp
            clear hxn hx
            go_wp2_with fail
            go_ret
            exact ⟨rfl, HK.out⟩
          · have hne : ((x.toNat : Int) == 10) = false := by
              rw [beq_eq_false_iff_ne]
              intro e
              exact h10 (UInt8.toNat_inj.1 (by have : x.toNat = 10 := by omega
                                               rw [this]; rfl))
            have HNO : Hid (∀ i (h : i < s.size), i < q + 1 → s[i] ≠ 10) := Lib.hid (fun i h h2 => by
              by_cases e : i = q
              · subst e; rw [hx]; exact h10
              · exact hno.out i h (by omega))
            have HSM := Lib.hid hs6
            clear hx h10
            generalize x.toNat = xm at *
            go_wp2_with fail
            go_roundw
            case rel => exact ⟨q + 1, rfl, hql, HNO, trivial⟩
            case measure => exact meas_down q s.size hql (by have := HSM.out; omega)
        · obtain rfl : q = s.size := by omega
          have hqz : ¬ (s.size : Int) < (s.size : Int) := by omega
          have HN10 : Hid ((10 : UInt8) ∉ getW ls j) := Lib.hid (by
            rw [← HLD.out]
            intro hm
            obtain ⟨i, hi, e⟩ := List.getElem_of_mem hm
            rw [ba_len] at hi
            exact hno.out i hi hi (by rw [← e]; rfl))
          clear hql hno hq
          have hrd := fun W hW => readL_any s W (by omega) hW
          rw [HLD.out] at hrd
          go_wp2_with fail
          refine (hrd _ (HL.out.keep hst.out.kp)).mono ?_
          clear hrd
          rintro e w2 ⟨k2, lc, hto, -⟩
          obtain ⟨ec, hec⟩ : ∃ ec, (readF (getW ls j)).2 = ec := ⟨_, rfl⟩
          rw [hec] at hto
          have hstep := bwS_step ls j b c ec hbw.out hec
          have HSTEP := Lib.hid hstep
          have HK2 := Lib.hid k2
          clear hec hstep k2
          have hto2 : e = .returned (.tuple #[.agg #[.string ⟨(readF (getW ls j)).1.verb.toArray⟩, .slice lc.no (readF (getW ls j)).1.nums.length lc.nc, .int .i64 (readF (getW ls j)).1.op.kind, .int .i64 (readF (getW ls j)).1.op.reg, .int .i64 (readF (getW ls j)).1.op.to, .int .i64 (readF (getW ls j)).1.op.re, .int .i64 (readF (getW ls j)).1.op.im, .slice lc.bo (readF (getW ls j)).1.data.length lc.bc], .int .i64 ec]) := hto
          subst hto2
          clear hto
          generalize (⟨(readF (getW ls j)).1.verb.toArray⟩ : ByteArray) = e0
          generalize (readF (getW ls j)).1.nums.length = e1
          generalize (readF (getW ls j)).1.data.length = e2
          generalize (readF (getW ls j)).1.op.kind = o0
          generalize (readF (getW ls j)).1.op.reg = o1
          generalize (readF (getW ls j)).1.op.to = o2
          generalize (readF (getW ls j)).1.op.re = o3
          generalize (readF (getW ls j)).1.op.im = o4
          have HKO : Hid (Kp Noone w2 (w2.alloc (.cells #[.string e0, .slice lc.no e1 lc.nc, .int .i64 o0, .int .i64 o1, .int .i64 o2, .int .i64 o3, .int .i64 o4, .slice lc.bo e2 lc.bc] 27))) := Lib.hid ((Kp.refl _ _).alloc _)
          have hba : ∀ x y : ByteArray, (x ++ y).data.toList = x.data.toList ++ y.data.toList := fun x y => ba_app x y
          have HN : Hid (TSt w ls (j + 1) (t ++ (s ++ ⟨#[10]⟩)) (w2.alloc (.cells #[.string e0, .slice lc.no e1 lc.nc, .int .i64 o0, .int .i64 o1, .int .i64 o2, .int .i64 o3, .int .i64 o4, .slice lc.bo e2 lc.bc] 27))) := Lib.hid (by
            refine hst.out.snoc (HK2.out.trans HKO.out) (by rw [HNL.out]; exact HLT.out) HN10.out ?_
            rw [hba, hba, HLD.out])
          have HSZ : Hid ((t ++ (s ++ (⟨#[10]⟩ : ByteArray))).size ≤ 65536) := Lib.hid (by
            rw [ByteArray.size_append, ByteArray.size_append]
            have : (⟨#[10]⟩ : ByteArray).size = 1 := rfl
            have := HTS.out
            omega)
          clear hba hst
          have HM := Lib.hid hj6
          by_cases hb0 : b = 0
          case neg =>
            have hbz : ¬ (b : Int) = 0 := by omega
            have HE : Hid (bwS ls (j + 1) = (b, c)) := Lib.hid (by rw [HSTEP.out, if_neg (fun h => hb0 h.1)])
            clear HSTEP hb0
            go_wp2_with fail
            go_roundw
            case rel => exact ⟨j + 1, b, c, _, rfl, HLT.out, rfl, HSZ.out, rfl, rfl, HE, HN⟩
            case measure => exact meas_down j (j + 1) (by omega) (by have := HM.out; omega)
          subst hb0
          by_cases h6 : 600 ≤ j
          · have h6z : (600 : Int) ≤ (j : Int) := by omega
            have HE : Hid (bwS ls (j + 1) = (j + 1, 91)) := Lib.hid (by rw [HSTEP.out, if_pos ⟨rfl, Or.inr h6⟩, if_pos h6])
            clear HSTEP h6
            go_wp2_with fail
            all_goals (
              go_roundw
              case rel => exact ⟨j + 1, j + 1, 91, _, rfl, HLT.out, rfl, HSZ.out, by simp, rfl, HE, HN⟩
              case measure => exact meas_down j (j + 1) (by omega) (by have := HM.out; omega))
          · have h6z : ¬ (600 : Int) ≤ (j : Int) := by omega
            by_cases he : ec = 0
            · subst he
              have HE : Hid (bwS ls (j + 1) = (0, c)) := Lib.hid (by rw [HSTEP.out, if_neg (fun h => h.2.elim (fun h => h rfl) h6)])
              clear HSTEP h6
              go_wp2_with fail
              go_roundw
              case rel => exact ⟨j + 1, 0, c, _, rfl, HLT.out, rfl, HSZ.out, rfl, rfl, HE, HN⟩
              case measure => exact meas_down j (j + 1) (by omega) (by have := HM.out; omega)
            · have HE : Hid (bwS ls (j + 1) = (j + 1, ec)) := Lib.hid (by rw [HSTEP.out, if_pos ⟨rfl, Or.inl he⟩, if_neg h6])
              clear HSTEP h6
              go_wp2_with fail
              go_roundw
              case rel => exact ⟨j + 1, j + 1, ec, _, rfl, HLT.out, rfl, HSZ.out, by simp, rfl, HE, HN⟩
              case measure => exact meas_down j (j + 1) (by omega) (by have := HM.out; omega)
    · obtain rfl : j = n := by omega
      have hltz : ¬ (j : Int) < (j : Int) := by omega
      have hj6 : j ≤ 65536 := by have := HJT.out; omega
      clear hlt
      have HTX : Hid (t.data.toList = linesL ls) := Lib.hid (by
        have := hst.out.txt
        rwa [← HNL.out, List.take_length] at this)
      have HNO : Hid (∀ l ∈ ls, (10 : UInt8) ∉ l) := Lib.hid (fun l hl => by
        obtain ⟨i, hi, e⟩ := List.getElem_of_mem hl
        have := hst.out.no i (by rw [← HNL.out]; exact hi)
        rw [getW_at ls i hi, e] at this
        exact this)
      have HK := Lib.hid hst.out.kp
      have HTS := Lib.hid ht
      clear hst
      go_upto_region 24 with fail
      obtain ⟨B, hB⟩ : ∃ B, Hid ((!ended && decide (0 < j)) = B) := ⟨_, Lib.hid rfl⟩
      go_cut [0, 1, 76] from 31 (fun v0 v1 v76 wx => v0 = .slice ao j cap ∧ v1 = .bool ended ∧ v76 = .bool B ∧ wx = wr)
      case first =>
        cases ended
        case true =>
          go_wp2_with fail
          go_meet
          case rel => exact ⟨rfl, rfl, by rw [← hB.out]; rfl, rfl⟩
        case false =>
          by_cases hj0 : 0 < j
          · have hjz : (0 : Int) < (j : Int) := by omega
            have hBt : B = true := by rw [← hB.out]; simp [hj0]
            have HJ0 := Lib.hid hj0
            clear hj0
            go_wp2_with fail
            go_meet
            case rel => exact ⟨rfl, rfl, by rw [hBt]; simp [HJ0.out], rfl⟩
          · have hjz : ¬ (0 : Int) < (j : Int) := by omega
            have hBt : B = false := by rw [← hB.out]; simp; omega
            have HJ0 := Lib.hid hj0
            clear hj0
            go_wp2_with fail
            go_meet
            case rel => exact ⟨rfl, rfl, by rw [hBt, decide_eq_false HJ0.out], rfl⟩
      obtain ⟨rfl, rfl, rfl, rfl⟩ := hcut
      go_step
      go_cut [0, 1, 5, 6, 7] from 31 (fun v0 v1 v5 v6 v7 wx => v0 = .slice ao j cap ∧ v1 = .bool ended ∧ (∃ t2 : ByteArray, v5 = .string t2 ∧ t2.size ≤ 65536 ∧ Hid (t2.data.toList = textF ls ended)) ∧ v6 = .int .i64 ((wantF ls ended).1 : Int) ∧ v7 = .int .i64 (wantF ls ended).2 ∧ Hid (ended = false → 0 < ls.length → getW ls (ls.length - 1) ≠ []) ∧ wx = wc)
      case first =>
        cases B
        case false =>
          have HOR : Hid (ended = true ∨ j = 0) := Lib.hid (by
            have := hB.out
            cases ended
            · right; simp at this; omega
            · left; rfl)
          have HW : Hid (wantF ls ended = (b, c)) := Lib.hid (by
            rw [← hbw.out, ← HNL.out]
            unfold wantF
            rw [if_neg]
            intro h
            rcases HOR.out with h2 | h2
            · rw [h2] at h; cases h.1
            · have := HNL.out; omega)
          have HLST : Hid (ended = false → 0 < ls.length → getW ls (ls.length - 1) ≠ []) := Lib.hid (fun h1 h2 => by
            rcases HOR.out with h3 | h3
            · rw [h1] at h3; cases h3
            · have := HNL.out; omega)
          have HTF : Hid (t.data.toList = textF ls ended) := Lib.hid (by
            rw [HTX.out]
            unfold textF
            rw [if_pos]
            rcases HOR.out with h3 | h3
            · exact Or.inl h3
            · exact Or.inr (by rw [HNL.out]; exact h3))
          go_wp2_with fail
          go_meet
          case rel => exact ⟨rfl, rfl, ⟨t, rfl, HTS.out, HTF⟩, by simp [HW.out], by simp [HW.out], HLST, rfl⟩
        case true =>
          obtain rfl : ended = false := by
            have := hB.out
            cases ended
            · rfl
            · cases this
          have hj0 : ¬ j = 0 := by
            have := hB.out
            simp at this
            omega
          have hjz : (0 : Int) < (j : Int) := by omega
          obtain ⟨m, hm⟩ : ∃ m, j - 1 = m := ⟨_, rfl⟩
          have hmj : m < j := by omega
          have hmz : (m : Int) < (j : Int) := by omega
          have hwm : IntKind.i64.wrap ((j : Int) - 1) = (m : Int) := by rw [IntWalk.i64_in _ (by omega)]; omega
          have ht0 : 0 < t.size := by have := HJT.out; omega
          obtain ⟨k, hk⟩ : ∃ k, t.size - 1 = k := ⟨_, rfl⟩
          have hkt : k ≤ t.size := by omega
          have hkz : (k : Int) ≤ (t.size : Int) := by omega
          have hwk : IntKind.i64.wrap ((t.size : Int) - 1) = (k : Int) := by rw [IntWalk.i64_in _ (by omega)]; omega
          obtain ⟨bk, off, rfl, -, hc0⟩ := (HA.out.keep HK.out).at hmj
          unfold strV at hc0
          have hls : (⟨(getW ls m).toArray⟩ : ByteArray).size = (getW ls m).length := ba_size _
          have HE2 : Hid ((t.extract 0 k).data.toList = textF ls false) := Lib.hid (by
            have e : (t.extract 0 k).data.toList = t.data.toList.take k := by simp
            rw [e, HTX.out]
            unfold textF
            rw [if_neg (by rintro (h | h); (· cases h); have := HNL.out; omega), ← hk, ← ba_len, HTX.out])
          have HEL : Hid ((t.extract 0 k).size ≤ 65536) := Lib.hid (by
            rw [ByteArray.size_extract]
            omega)
          have HM : Hid (ls.length - 1 = m) := Lib.hid (by rw [HNL.out]; exact hm)
          have HJ0 := Lib.hid hj0
          have HBW2 : Hid (bwS ls ls.length = (b, c)) := Lib.hid (by rw [HNL.out]; exact hbw.out)
          clear hm hk hj0
          by_cases hs0 : (getW ls m).length = 0
          · have hs0' : (⟨(getW ls m).toArray⟩ : ByteArray).size = 0 := by rw [hls]; exact hs0
            clear hls hs0
            generalize (⟨(getW ls m).toArray⟩ : ByteArray) = s at *
            go_wp2_with fail
            go_ret
            exact ⟨rfl, HK.out⟩
          have HLST : Hid ((false : Bool) = false → 0 < ls.length → getW ls (ls.length - 1) ≠ []) := Lib.hid (fun _ _ h => by
            rw [HM.out] at h
            rw [h] at hs0
            exact hs0 rfl)
          have hsz : (0 : Int) < ((⟨(getW ls m).toArray⟩ : ByteArray).size : Int) := by rw [hls]; omega
          have hsz2 : ¬ ((⟨(getW ls m).toArray⟩ : ByteArray).size : Int) = 0 := by omega
          clear hls hs0
          generalize (⟨(getW ls m).toArray⟩ : ByteArray) = s at *
          by_cases h6 : j ≤ 600
          · have h6z : (j : Int) ≤ 600 := by omega
            by_cases hb0 : b = 0
            · subst hb0
              have HW : Hid (wantF ls false = (j, 10)) := Lib.hid (by
                unfold wantF
                rw [if_pos ⟨rfl, by have := HNL.out; omega, Or.inl (by rw [HBW2.out]), by have := HNL.out; omega⟩, HNL.out])
              clear h6
              go_wp2_with fail
              go_meet
              case rel => exact ⟨rfl, rfl, ⟨_, rfl, HEL.out, HE2⟩, by simp [HW.out], by simp [HW.out], HLST, rfl⟩
            · have hbz : ¬ (b : Int) = 0 := by omega
              by_cases hbj : b = j
              · subst hbj
                have HW : Hid (wantF ls false = (b, 10)) := Lib.hid (by
                  unfold wantF
                  rw [if_pos ⟨rfl, by have := HNL.out; omega, Or.inr (by rw [HBW2.out, HNL.out]), by have := HNL.out; omega⟩, HNL.out])
                clear h6 hb0
                go_wp2_with fail
                go_meet
                case rel => exact ⟨rfl, rfl, ⟨_, rfl, HEL.out, HE2⟩, by simp [HW.out], by simp [HW.out], HLST, rfl⟩
              · have hbjz : ¬ (b : Int) = (j : Int) := by omega
                have HW : Hid (wantF ls false = (b, c)) := Lib.hid (by
                  unfold wantF
                  rw [if_neg (by rw [HBW2.out, HNL.out]; simp; omega), HBW2.out])
                clear h6 hb0 hbj
                go_wp2_with fail
                go_meet
                case rel => exact ⟨rfl, rfl, ⟨_, rfl, HEL.out, HE2⟩, by simp [HW.out], by simp [HW.out], HLST, rfl⟩
          · have h6z : ¬ (j : Int) ≤ 600 := by omega
            have HW : Hid (wantF ls false = (b, c)) := Lib.hid (by
              unfold wantF
              rw [if_neg (by rw [HBW2.out, HNL.out]; simp; omega), HBW2.out])
            clear h6
            by_cases hb0 : b = 0
            · subst hb0
              go_wp2_with fail
              go_meet
              case rel => exact ⟨rfl, rfl, ⟨_, rfl, HEL.out, HE2⟩, by simp [HW.out], by simp [HW.out], HLST, rfl⟩
            · have hbz : ¬ (b : Int) = 0 := by omega
              by_cases hbj : b = j
              · subst hbj
                clear hb0
                go_wp2_with fail
                go_meet
                case rel => exact ⟨rfl, rfl, ⟨_, rfl, HEL.out, HE2⟩, by simp [HW.out], by simp [HW.out], HLST, rfl⟩
              · have hbjz : ¬ (b : Int) = (j : Int) := by omega
                clear hb0 hbj
                go_wp2_with fail
                go_meet
                case rel => exact ⟨rfl, rfl, ⟨_, rfl, HEL.out, HE2⟩, by simp [HW.out], by simp [HW.out], HLST, rfl⟩
      obtain ⟨rfl, rfl, ⟨t2, rfl, ht2, HT2⟩, rfl, rfl, HLST, rfl⟩ := hcut
      have HPT : Hid (parseF t2.data.toList = if (wantF ls ended).1 = 0 then (cmdsL ls ls.length, 0, 0) else ([], (wantF ls ended).1, (wantF ls ended).2)) := Lib.hid (by
        rw [HT2.out]
        refine parse_text ls ended HNO.out ?_ HLST.out
        rw [← HTX.out, ba_len]
        exact HTS.out)
      have hpa := fun W hW => parse_any t2 W (by omega) hW
      have HWE := Lib.hid (wantF_e ls ended)
      have HWW := Lib.hid (wantF_want ls ended)
      have HCL := Lib.hid (fun cs => cmds_line ls ended cs)
      have HLEN : Hid ((cmdsL ls ls.length).length = j) := Lib.hid (by rw [cmdsL_len, HNL.out])
      generalize hwf : wantF ls ended = W2 at *
      obtain ⟨wb, wc⟩ := W2
      clear hwf
      simp only [] at HPT HWE HWW HCL ⊢
      go_wp2_with fail
      refine (hpa _ (HL.out.keep HK.out)).mono ?_
      clear hpa
      rintro e w3 ⟨k3, ao3, cap3, lcs, hto, hcs⟩
      rw [HPT.out] at hto hcs
      have HK3 := Lib.hid (HK.out.trans k3)
      clear k3
      by_cases hw0 : wb = 0
      case neg =>
        rw [if_neg hw0] at hto
        have hto2 : e = .returned (.tuple #[.slice ao3 0 cap3, .int .i64 (wb : Int), .int .i64 wc]) := hto
        subst hto2
        have hwc := HWE.out hw0
        clear hto hcs hw0
        go_wp2_with fail
        go_ret
        exact ⟨rfl, HK3.out⟩
      rw [if_pos hw0] at hto hcs
      have hwc := HWW.out hw0
      subst hwc hw0
      have HCL2 := Lib.hid (fun i => HCL.out _ rfl rfl i)
      simp only [] at hto hcs
      generalize cmdsL ls ls.length = cs at *
      have hcn := HLEN.out
      rw [hcn] at hto
      have hto2 : e = .returned (.tuple #[.slice ao3 j cap3, .int .i64 0, .int .i64 0]) := hto
      subst hto2
      have HCS := Lib.hid hcs
      clear hto hcs hcn
      go_wp2_with fail
      go_loopw [136] (fun v wx => ∃ i : Nat, v = .int .i64 (i : Int) ∧ i ≤ j ∧ Hid (Kp Noone w3 wx)) (fun v _ => (1048577 - intOf v).toNat)
      case atStart => exact ⟨0, rfl, Nat.zero_le _, Lib.hid (Kp.refl _ _)⟩
      case round =>
        obtain ⟨i, rfl, hi, hki⟩ := hrel
        by_cases hil : i < j
        · have hiz : (i : Int) < (j : Int) := by omega
          have hwi : IntKind.i64.wrap ((i : Int) + 1) = (i : Int) + 1 := IntWalk.i64_in _ (by omega)
          have hi2 : i < cs.length := by rw [HLEN.out]; exact hil
          obtain ⟨b3, off3, l3, rfl, -, hra, hat⟩ := (HCS.out.keep hki.out).load hi2
          have hln := fun W hW => line_any cs[i] l3 W (hat.keep hW)
          have hlv := HCL2.out i (by rw [HNL.out]; exact hil) hi2
          rw [hlv] at hln
          generalize cs[i] = ci at *
          have HRA := Lib.hid hra
          generalize hV : cmdV ci l3 = V at *
          have HVV := Lib.hid hV
          obtain ⟨bk, off, rfl, -, -⟩ := HA.out.at hil
          have HA4 : Hid (∀ W, Kp Noone w W → W.cell? ⟨bk, off + i, none⟩ = some (strV (getW ls i))) := Lib.hid (fun W hW => by
            obtain ⟨b5, o5, e5, -, h5⟩ := (HA.out.keep hW).at hil
            simp at e5
            obtain ⟨rfl, rfl⟩ := e5
            exact h5)
          unfold strV at hln HA4
          have HLN := Lib.hid hln
          clear hra hat hlv hV hi2 hln
          generalize (⟨(getW ls i).toArray⟩ : ByteArray) = s at *
          go_wp2_with (refine wpList_load_cmd rfl (.tmp 142) rfl b3 (off3 + i * 8) (by rfl) ci l3 V HVV.out HRA.out ?_)
          refine (HLN.out _ (Kp.refl _ _) (HL.out.keep (HK3.out.trans hki.out)).laid).mono ?_
          rintro e w4 ⟨rfl, k4⟩
          have hce := HA4.out _ ((HK3.out.trans hki.out).trans k4)
          have HK4 := Lib.hid (hki.out.trans k4)
          clear k4 HRA
          go_wp2_with fail
          go_roundw
          case rel => exact ⟨i + 1, rfl, hil, HK4⟩
          case measure => exact meas_down i j hil (by omega)
        · obtain rfl : i = j := by omega
          have hiz : ¬ (i : Int) < (i : Int) := by omega
          clear hil
          go_wp2_with fail
          go_ret
          exact ⟨rfl, HK3.out.trans hki.out⟩

end Go.Proofs.YtfinbppmkffbhaaDoor
