/-
  ScriptLong: at the limits: so many lines, so many bytes.
-/
import Derived.Test.YtfinbppmkffbhaaDoorScriptI
import Derived.Laws.MakeOwn
import Derived.Laws.OwnMore
import Derived.Laws.IdiomStrings
namespace Go.Proofs.YtfinbppmkffbhaaDoor
open Go.RowKit Go.Sort

theorem i64_and_1023 (q : Int) : bits .and .i64 q 1023 = ((q % 1024).toNat : Int) := by
  show IntKind.i64.wrap ((BitVec.ofInt 64 q &&& BitVec.ofInt 64 1023).toNat : Int) = _
  have h3 : (BitVec.ofInt 64 1023).toNat = 2 ^ 10 - 1 := by decide
  rw [BitVec.toNat_and, h3, Nat.and_two_pow_sub_one_eq_mod, IntKind.wrap_i64, BitVec.toNat_ofInt]
  omega
def evL : List UInt8 := [101, 118, 101, 110, 116, 115, 10]
/-- So many lines. -/
def repE : Nat → List UInt8
  | 0 => []
  | k + 1 => vEvents ++ 10 :: repE k
theorem repE_len (k : Nat) : (repE k).length = 7 * k := by
  induction k with
  | zero => rfl
  | succ k ih => simp only [repE, List.length_append, List.length_cons, ih, vEvents, List.length_nil]; omega
theorem repE_snoc (k : Nat) : repE (k + 1) = repE k ++ evL := by
  induction k with
  | zero => rfl
  | succ k ih =>
    have h : repE (k + 1 + 1) = vEvents ++ 10 :: repE (k + 1) := rfl
    rw [h]
    conv => lhs; rw [ih]
    show vEvents ++ 10 :: (repE k ++ evL) = (vEvents ++ 10 :: repE k) ++ evL
    simp
def cEv : CmdV := ⟨vEvents, [], op0, []⟩
theorem read_events : readF vEvents = (cEv, 0) := by decide
theorem parse_rep (k : Nat) : ∀ (f n : Nat) (cs : List CmdV), k < f → n ≤ 601 → 1 ≤ n → parseL f n cs (repE k) = if n + k ≤ 601 then (cs ++ List.replicate k cEv, 0, 0) else ([], 601, 91) := by
  induction k with
  | zero =>
    intro f n cs hf hn _
    obtain ⟨f, rfl⟩ : ∃ g, f = g + 1 := ⟨f - 1, by omega⟩
    rw [if_pos (by omega)]
    simp [repE, parseL]
  | succ k ih =>
    intro f n cs hf hn h1
    obtain ⟨f, rfl⟩ : ∃ g, f = g + 1 := ⟨f - 1, by omega⟩
    by_cases h6 : n ≤ 600
    · show parseL (f + 1) n cs (vEvents ++ 10 :: repE k) = _
      rw [parseL_step h6 (by decide), read_events, if_neg (by simp), ih f (n + 1) _ (by omega) (by omega) (by omega)]
      by_cases h7 : n + (k + 1) ≤ 601
      · rw [if_pos (by omega), if_pos h7, List.append_assoc]
        simp [List.replicate_succ]
      · rw [if_neg (by omega), if_neg h7]
    · obtain rfl : n = 601 := by omega
      rw [if_neg (by omega), parseL_many (by simp [repE]) (by omega)]
theorem parse_events (k : Nat) (h : k ≤ 1023) : parseF (repE k) = if k ≤ 600 then (List.replicate k cEv, 0, 0) else ([], 601, 91) := by
  unfold parseF
  rw [if_neg (by rw [repE_len]; omega), parse_rep k _ 1 [] (by rw [repE_len]; omega) (by omega) (by omega)]
  by_cases h6 : k ≤ 600
  · rw [if_pos (by omega), if_pos h6]; rfl
  · rw [if_neg (by omega), if_neg h6]
theorem parse_xs (n : Nat) (h0 : 0 < n) : parseF (List.replicate n 120) = if 65536 < n then ([], 0, 91) else ([], 1, 10) := by
  unfold parseF
  rw [List.length_replicate]
  split
  · rfl
  · exact parseL_open (by intro c; have := congrArg List.length c; simp at this; omega) (by omega) (by intro c; have := List.eq_of_mem_replicate c; exact absurd this (by decide))
/-- The array while it is filled. -/
def fillA (n k : Nat) : Array Value := (List.replicate k (Value.int .u8 120) ++ List.replicate (n - k) (Value.int .u8 0)).toArray
theorem fillA_size (n k : Nat) (h : k ≤ n) : (fillA n k).size = n := by simp [fillA]; omega
theorem fillA_step (n k : Nat) (h : k < n) : (fillA n k).setIfInBounds k (Value.int .u8 120) = fillA n (k + 1) := by
  apply Array.ext'
  simp only [fillA, List.setIfInBounds_toArray]
  rw [show n - k = (n - (k + 1)) + 1 by omega, List.replicate_succ, List.set_append_right _ _ (by simp), List.replicate_succ']
  simp
theorem fillA_zero (n : Nat) : madeCells #[.int .u8 0] n = fillA n 0 := by
  apply Array.ext'
  rw [toList_madeCells_one]
  simp [fillA]
theorem fillA_cell (n j : Nat) (W : World) (g : Nat) (T : TypeId) (fr : Nat × Nat) (hj : j < n) (h : W.heap[g]? = some (.cells (fillA n n) T fr)) : W.cell? ⟨g, j, none⟩ = some (.int .u8 120) := by
  rw [cell_of_row W g j _ T fr h]
  simp [fillA, hj]

set_option maxHeartbeats 8000000 in
set_option maxRecDepth 100000 in
theorem scriptLong_walk (n pad : Int) (w : World) (p0 : -9223372036854775808 ≤ pad) (p1 : pad ≤ 9223372036854775807) (hL : LaidS w) :
    Calls Tryd.prog 7 #[.int .i64 n, .int .i64 pad] w fun e w' => e = .returned (.bool true) ∧ Kp Noone w w' := by
  have HL := Lib.hid hL
  clear hL
  have han := i64_and_1023 n
  obtain ⟨k, hk⟩ : ∃ k, (n % 1024).toNat = k := ⟨_, rfl⟩
  have hk1 : k ≤ 1023 := by omega
  rw [hk] at han
  clear hk
  obtain ⟨i0, hi, hz0, hz1, hz2⟩ := info_parts (P := Tryd.prog) (e := 5) (z := .int .u8 0) (size := 1) (bytes := 1) (by kernel_rfl)
  go_enter Tryd.func7, Tryd.ntmps7
  go_wp2_with fail
  refine (head_any _ HL.out).mono ?_
  rintro e w1 ⟨rfl, k1⟩
  have HK1 := Lib.hid k1
  clear k1
  have hkz : (k : Int) ≤ 1023 := by omega
  go_wp2_with fail
  clear han
  go_loopw [5, 6] (fun v5 v6 wx => ∃ (j : Nat) (sx : ByteArray), v5 = .string sx ∧ v6 = .int .i64 (j : Int) ∧ j ≤ k ∧ Hid (sx.data.toList = repE j) ∧ sx.size = 7 * j ∧ wx = w1) (fun _ v6 _ => (1048577 - intOf v6).toNat)
  case atStart => exact ⟨0, ⟨#[]⟩, rfl, rfl, Nat.zero_le _, Lib.hid rfl, rfl, rfl⟩
  case round =>
    obtain ⟨j, sx, rfl, rfl, hj, hsx, hsz, rfl⟩ := hrel
    by_cases hlt : j < k
    · have hltz : (j : Int) < (k : Int) := by omega
      have hwj : IntKind.i64.wrap ((j : Int) + 1) = (j : Int) + 1 := IntWalk.i64_in _ (by omega)
      have h7 : (⟨#[101, 118, 101, 110, 116, 115, 10]⟩ : ByteArray).size = 7 := rfl
      have HJ := Lib.hid hsz
      have hs1 : sx.size ≤ 7161 := by omega
      clear hsz
      go_wp2_with fail
      go_roundw
      case rel => exact ⟨j + 1, _, rfl, rfl, hlt, Lib.hid (by rw [ba_app, hsx.out, repE_snoc]; rfl), by rw [ByteArray.size_append, HJ.out, h7]; omega, trivial⟩
      case measure => exact meas_down j k hlt (by omega)
    · obtain rfl : j = k := by omega
      have hltz : ¬ (j : Int) < (j : Int) := by omega
      have hs1 : sx.size ≤ 1048576 := by omega
      have hpa := fun W hW => parse_any sx W hs1 hW
      rw [hsx.out] at hpa
      have HPE := Lib.hid (parse_events j hk1)
      clear hlt hsx hsz
      go_wp2_with fail
      refine (hpa _ (HL.out.keep HK1.out)).mono ?_
      clear hpa
      rintro e w2 ⟨k2, ao, cap, ls, hto, -⟩
      rw [HPE.out] at hto
      have HK2 := Lib.hid (HK1.out.trans k2)
      clear k2
      by_cases h6 : j ≤ 600
      case' pos =>
        rw [if_pos h6] at hto
        have hlr : (List.replicate j cEv).length = j := List.length_replicate
        have hto2 : e = .returned (.tuple #[.slice ao j cap, .int .i64 0, .int .i64 0]) := by rw [hto, hlr]; rfl
        subst hto2
        clear hto hlr
        have h6z : (j : Int) ≤ 600 := by omega
      case' neg =>
        rw [if_neg h6] at hto
        have hto2 : e = .returned (.tuple #[.slice ao 0 cap, .int .i64 601, .int .i64 91]) := hto
        subst hto2
        clear hto
        have h6z : ¬ (j : Int) ≤ 600 := by omega
        have h6y : (600 : Int) < (j : Int) := by omega
      all_goals (
        clear h6 HPE
        go_upto_region 12 with fail
        by_cases hp0 : pad < 65530
        · go_wp2_with fail
          go_ret
          exact ⟨rfl, HK2.out⟩
        by_cases hp1 : 65540 < pad
        · go_wp2_with fail
          go_ret
          exact ⟨rfl, HK2.out⟩
        obtain ⟨m, rfl⟩ := Int.eq_ofNat_of_zero_le (show 0 ≤ pad by omega)
        have hm0 : 65530 ≤ m := by omega
        have hm1 : m ≤ 65540 := by omega
        have hmk : ∀ u : World, (Instr.makeSlice 25 (.int .i64 (m : Int)) (.int .i64 (m : Int))).run Tryd.prog u =
            .ok (.slice (some ⟨u.heap.size, 0, none⟩) m m) (u.alloc (.cells (fillA m 0) 5)) := fun u => by
          have h := run_make (P := Tryd.prog) u 25 5 i0 (.int .u8 0) Tryd.underlying25 hi hz0 .i64 .i64 (m : Int) (m : Int) (by omega) (Int.le_refl _) (by rw [hz2]; omega) (by omega)
          rw [← fillA_zero]
          simpa [hz1, Value.cells] using h
        have hA := heap_alloc_new w2 (.cells (fillA m 0) 5)
        have HKA : Hid (Kp Noone w2 (w2.alloc (.cells (fillA m 0) 5))) := Lib.hid ((Kp.refl _ _).alloc _)
        go_wp2_with fail
        clear hmk
        generalize w2.alloc (.cells (fillA m 0) 5) = w3 at *
        have HGN : Hid (w.heap.size ≤ w2.heap.size) := Lib.hid HK2.out.size
        generalize w2.heap.size = g at *
        have HA0 : Hid (w3.heap[g]? = some (.cells (fillA m 0) 5 (0, 0))) := Lib.hid hA
        clear hA
        go_loopw [63] (fun v wx => ∃ q : Nat, v = .int .i64 (q : Int) ∧ q ≤ m ∧ Hid (wx.heap[g]? = some (.cells (fillA m q) 5 (0, 0))) ∧ Hid (Kp (fun x => x = g) w3 wx)) (fun v _ => (1048577 - intOf v).toNat)
        case atStart => exact ⟨0, rfl, Nat.zero_le _, HA0, Lib.hid (Kp.refl _ _)⟩
        case round =>
          obtain ⟨q, rfl, hq, hb, hkq⟩ := hrel
          by_cases hlt : q < m
          · have hltz : (q : Int) < (m : Int) := by omega
            have hwq : IntKind.i64.wrap ((q : Int) + 1) = (q : Int) + 1 := IntWalk.i64_in _ (by omega)
            have hbo := hb.out
            have hsz := fillA_size m q hq
            have hcl : ∃ u, wr.cell? ⟨g, q, none⟩ = some u := by
              rw [cell_of_row wr g q _ _ _ hbo, Array.getElem?_eq_getElem (by rw [hsz]; exact hlt)]
              exact ⟨_, rfl⟩
            obtain ⟨u, hcell⟩ := hcl
            have hfz : wr.frozen? ⟨g, q, none⟩ = false := by simp [World.frozen?, hbo]
            have HSTEP : Hid ((wr.setCell ⟨g, q, none⟩ (.int .u8 120)).heap[g]? = some (.cells (fillA m (q + 1)) 5 (0, 0))) := Lib.hid (by
              rw [← fillA_step m q hlt]
              exact heap_set_cell hbo)
            have HKS : Hid (Kp (fun x => x = g) w3 (wr.setCell ⟨g, q, none⟩ (.int .u8 120))) := Lib.hid (hkq.out.setCell (p := ⟨g, q, none⟩) (fun _ => rfl) _)
            clear hbo hsz
            go_wp2_with fail
            go_roundw
            case rel => exact ⟨q + 1, rfl, hlt, HSTEP, HKS⟩
            case measure => exact meas_down q m hlt (by omega)
          · obtain rfl : q = m := by omega
            have hcv : (convert 25 9 (.slice (some ⟨g, 0, none⟩) q q)).run Tryd.prog wr = .ok (.string ⟨(List.replicate q (120 : UInt8)).toArray⟩) wr := by
              have h := run_convert_bytes_back wr 25 9 5 ⟨g, 0, none⟩ q (List.replicate q (120 : UInt8)) Tryd.underlying25 Tryd.underlying5 Tryd.underlying9 (fun i hi => by
                rw [Addr.add_lit, Nat.zero_add, fillA_cell q i wr g _ _ (by simpa using hi) hb.out]
                simp)
              rw [List.length_replicate] at h
              exact h
            have hsz9 : (⟨(List.replicate q (120 : UInt8)).toArray⟩ : ByteArray).size ≤ 1048576 := by rw [ba_size, List.length_replicate]; omega
            have hpb := fun W hW => parse_any (⟨(List.replicate q (120 : UInt8)).toArray⟩ : ByteArray) W hsz9 hW
            have hdl : (⟨(List.replicate q (120 : UInt8)).toArray⟩ : ByteArray).data.toList = List.replicate q 120 := by simp
            rw [hdl] at hpb
            have HPX := Lib.hid (parse_xs q (by omega))
            have HK3 : Hid (Kp Noone w wr) := Lib.hid ((HK2.out.trans HKA.out).trans' hkq.out (fun x hx e => by have := HGN.out; omega))
            generalize (⟨(List.replicate q (120 : UInt8)).toArray⟩ : ByteArray) = sb at *
            clear hdl hlt
            go_wp2_with fail
            refine (hpb _ (HL.out.keep HK3.out)).mono ?_
            clear hpb
            rintro e w4 ⟨k4, ao4, cap4, ls4, hto, -⟩
            rw [HPX.out] at hto
            have HK4 := Lib.hid (HK3.out.trans k4)
            clear k4
            by_cases hbig : 65536 < q
            · rw [if_pos hbig] at hto
              have hto2 : e = .returned (.tuple #[.slice ao4 0 cap4, .int .i64 0, .int .i64 91]) := hto
              subst hto2
              have hbz : (65536 : Int) < (q : Int) := by omega
              clear hto hbig
              go_wp2_with fail
              go_ret
              exact ⟨rfl, HK4.out⟩
            · rw [if_neg hbig] at hto
              have hto2 : e = .returned (.tuple #[.slice ao4 0 cap4, .int .i64 1, .int .i64 10]) := hto
              subst hto2
              have hbz : ¬ (65536 : Int) < (q : Int) := by omega
              clear hto hbig
              go_wp2_with fail
              go_ret
              exact ⟨rfl, HK4.out⟩)

end Go.Proofs.YtfinbppmkffbhaaDoor
