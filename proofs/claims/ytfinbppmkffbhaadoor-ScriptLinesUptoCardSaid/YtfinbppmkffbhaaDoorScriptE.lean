/-
  WALK of Line: a command as a line.
-/
import Derived.Test.YtfinbppmkffbhaaDoorScriptE0
import Derived.Deep.Cut
import Derived.Deep.CutBlock
import Derived.Deep.CutRange
namespace Go.Proofs.YtfinbppmkffbhaaDoor
open Go.RowKit Go.Sort

theorem join_flat (c : UInt8) (a : List UInt8) (r : List (List UInt8)) : joinF c (a :: r) = a ++ (r.map (c :: ·)).flatten := by
  induction r generalizing a with
  | nil => simp [joinF]
  | cons b t ih => rw [joinF_cons _ _ _ (by simp), ih b]; simp
/-- The verb and the first numbers. -/
def numsTo (v : List UInt8) (ns : List Int) (j : Nat) : List UInt8 := v ++ ((ns.take j).map (fun n => 32 :: Lib.itoa n)).flatten
theorem numsTo_succ (v : List UInt8) (ns : List Int) (j : Nat) (h : j < ns.length) : numsTo v ns (j + 1) = numsTo v ns j ++ 32 :: Lib.itoa ns[j] := by
  unfold numsTo
  rw [List.take_succ_eq_append_getElem h, List.map_append, List.flatten_append, ← List.append_assoc]
  simp only [List.map_cons, List.map_nil, List.flatten_cons, List.flatten_nil, List.append_nil]
theorem lineL_eq (c : CmdV) : lineL c = numsTo c.verb c.nums c.nums.length ++ ((tailW c).map (32 :: ·)).flatten := by
  unfold lineL lineW numsTo
  rw [join_flat]
  simp [List.map_map, Function.comp_def]
theorem flat_join (ws : List (List UInt8)) (h : ws ≠ []) : (ws.map (32 :: ·)).flatten = 32 :: joinF 32 ws := by
  cases ws with
  | nil => exact (h rfl).elim
  | cons a r => rw [join_flat]; simp
theorem wordsL_len (o : OpV) (h : okOp o = true) : (wordsL o).length ≤ 200 := by
  have hr := okOp_reg h
  have ht := okOp_to h
  have hb := okOp_rB h
  have b1 := rB_bound hb
  have l1 := wordOf_len o.kind
  have l2 := itoa_len o.reg (by omega)
  have l3 := itoa_len o.to (by omega)
  have l4 := (pieces (showL o.re o.im) o.re o.im (by omega) (by omega) (by omega) (by omega) rfl).len
  unfold wordsL wordsW
  rw [join_flat]
  cases twoF o.kind <;> cases zedF o.kind <;> simp <;> omega
def hexTo (d : List UInt8) (j : Nat) : List UInt8 := hexL (d.take j)
theorem hexL_app (a b : List UInt8) : hexL (a ++ b) = hexL a ++ hexL b := by
  induction a with
  | nil => rfl
  | cons x r ih => simp only [List.cons_append, hexL, ih]
theorem hexTo_succ (d : List UInt8) (j : Nat) (h : j < d.length) : hexTo d (j + 1) = hexTo d j ++ [hexD (d[j].toNat / 16), hexD (d[j].toNat % 16)] := by
  unfold hexTo
  rw [List.take_succ_eq_append_getElem h, hexL_app]
  rfl
def hexS : ByteArray := ⟨#[48, 49, 50, 51, 52, 53, 54, 55, 56, 57, 97, 98, 99, 100, 101, 102]⟩
theorem hexS_at (k : Nat) (h : k < 16) : (hexS.extract k (k + 1)).data.toList = [hexD k] := by
  have : ∀ k, k < 16 → (hexS.extract k (k + 1)).data.toList = [hexD k] := by decide
  exact this k h
theorem hexS_size (k : Nat) (h : k < 16) : (hexS.extract k (k + 1)).size = 1 := by
  rw [ByteArray.size_extract]
  have : hexS.size = 16 := rfl
  omega
theorem meas_down (j n : Nat) (h : j < n) (hn : n ≤ 4194304) : (4194305 - ((j : Int) + 1)).toNat < (4194305 - (j : Int)).toNat := by omega
def lineV (c : CmdV) : Value := .tuple #[strV (lineF c).1, .int .i64 (lineF c).2]
set_option maxHeartbeats 4000000 in
set_option maxRecDepth 100000 in
theorem line_any (c : CmdV) (l : Loc) (w : World) (hC : CmdAt w c l) (hL : Laid w) :
    Calls Tryd.prog 11 #[cmdV c l] w fun e w' => e = .returned (lineV c) ∧ Kp Noone w w' := by
  obtain ⟨v, ns, o, d⟩ := c
  obtain ⟨k, r, t, n, m⟩ := o
  have HC := Lib.hid hC
  have HL := Lib.hid hL
  clear hC hL
  have hbd := fun W => bounds_any ⟨v.toArray⟩ W
  have e0 : (⟨v.toArray⟩ : ByteArray).data.toList = v := by simp
  rw [e0] at hbd
  obtain ⟨⟨lo, hi, ok⟩, hbf⟩ : ∃ x, boundsF v = x := ⟨_, rfl⟩
  rw [hbf] at hbd
  have HBF := Lib.hid hbf
  clear hbf
  unfold boundsV at hbd
  unfold cmdV cmdCs strV
  simp only [] at hbd ⊢
  have HSV := Lib.hid e0
  have hsv : (⟨v.toArray⟩ : ByteArray).size ≤ 4194304 := by rw [ba_size]; exact HC.out.verb
  have hnl := HC.out.nlen
  have hdl := HC.out.dlen
  simp only [] at hnl hdl
  have HWA : Hid (Kp Noone w (w.alloc (.cells (cmdCs ⟨v, ns, ⟨k, r, t, n, m⟩, d⟩ l) 27)) ∧ (w.alloc (.cells (cmdCs ⟨v, ns, ⟨k, r, t, n, m⟩, d⟩ l) 27)).heap[w.heap.size]? = some (.cells (cmdCs ⟨v, ns, ⟨k, r, t, n, m⟩, d⟩ l) 27 (0, 0))) := Lib.hid ⟨(Kp.refl _ _).alloc _, heap_alloc_new w _⟩
  unfold cmdCs strV at HWA
  simp only [] at HWA
  generalize (⟨v.toArray⟩ : ByteArray) = sv at *
  clear e0
  go_enter Tryd.func11, Tryd.ntmps11
  go_upto_region 2 with (go_at_call 21; refine (hbd _).mono ?_; rintro e w' ⟨rfl, hw⟩; rw [hw]; clear hw)
  obtain ⟨kA, hbA⟩ := HWA.out
  clear HWA hbd
  obtain ⟨z0, z1, z2, z3, z4, z5, z6, z7⟩ := cells_8f hbA
  generalize w.alloc (.cells #[.string sv, .slice l.no ns.length l.nc, .int .i64 k, .int .i64 r, .int .i64 t, .int .i64 n, .int .i64 m, .slice l.bo d.length l.bc] 27) = wA at *
  generalize w.heap.size = g at *
  have HKA := Lib.hid kA
  clear kA
  by_cases hb : ok = true ∧ lo ≤ ns.length ∧ ns.length ≤ hi
  case neg =>
    have HR : Hid (lineV ⟨v, ns, ⟨k, r, t, n, m⟩, d⟩ = .tuple #[.string ⟨#[]⟩, .int .i64 90]) := Lib.hid (by
      unfold lineV lineF
      rw [HBF.out]
      simp only []
      rw [if_pos (by
        cases ok
        · exact Or.inl rfl
        · simp at hb
          by_cases h : ns.length < lo
          · exact Or.inr (Or.inl h)
          · exact Or.inr (Or.inr (hb (by omega))))]
      rfl)
    cases ok
    · clear hb
      go_wp2_with fail
      go_ret2
      exact ⟨ret_eq HR.out.symm, HKA.out⟩
    · by_cases h1 : ns.length < lo
      · clear hb
        have h2 : (ns.length : Int) < (lo : Int) := by omega
        go_wp2_with fail
        go_ret2
        exact ⟨ret_eq HR.out.symm, HKA.out⟩
      · have h2 : ¬ (ns.length : Int) < (lo : Int) := by omega
        have h3 : (hi : Int) < (ns.length : Int) := by simp at hb; omega
        clear hb
        go_wp2_with fail
        go_ret2
        exact ⟨ret_eq HR.out.symm, HKA.out⟩
  obtain ⟨rfl, hb1, hb2⟩ := hb
  have h2 : ¬ (ns.length : Int) < (lo : Int) := by omega
  have h3 : ¬ (hi : Int) < (ns.length : Int) := by omega
  have h4 : ¬ ns.length < lo := by omega
  have h5 : ¬ hi < ns.length := by omega
  have HB := Lib.hid (And.intro hb1 hb2)
  clear hb1 hb2
  go_upto_region 4 with fail
  clear h2 h3 h4 h5
  obtain ⟨B, hB⟩ : ∃ B, Hid (decide (v ≠ vAsk ∧ (⟨k, r, t, n, m⟩ : OpV) ≠ op0 ∨ v ≠ vInject ∧ 0 < d.length) = B) := ⟨_, Lib.hid rfl⟩
  go_cut [0, 56] from 37 (fun _ u wx => u = .bool B ∧ wx = wA)
  case first =>
    by_cases hdz : d.length = 0
    case' pos =>
      have hd1 : ¬ (0 : Int) < (d.length : Int) := by omega
      have hd2 : ¬ 0 < d.length := by omega
    case' neg =>
      have hd1 : (0 : Int) < (d.length : Int) := by omega
      have hd2 : 0 < d.length := by omega
    all_goals (
      clear hdz
      have HD2 := Lib.hid hd2
      by_cases hask : v = vAsk
      · have q1 : (sv.toList == [97, 115, 107]) = true := str_eq sv _ (by rw [HSV.out]; exact hask)
        have hinj : v ≠ vInject := by rw [hask]; decide
        have q2 : (sv.toList == [105, 110, 106, 101, 99, 116]) = false := str_ne sv _ (by rw [HSV.out]; exact hinj)
        have HA := Lib.hid (And.intro hask hinj)
        clear hask hinj
        go_wp2_with fail
        go_meet
        case rel => exact ⟨by rw [← hB.out]; simp [HA.out.1, HD2.out, vAsk, vInject], rfl⟩
      · have q1 : (sv.toList == [97, 115, 107]) = false := str_ne sv _ (by rw [HSV.out]; exact hask)
        by_cases hinj : v = vInject
        · have q2 : (sv.toList == [105, 110, 106, 101, 99, 116]) = true := str_eq sv _ (by rw [HSV.out]; exact hinj)
          have HA := Lib.hid (And.intro hask hinj)
          clear hask hinj
          by_cases hz : (⟨k, r, t, n, m⟩ : OpV) = op0
          · injection hz with y1 y2 y3 y4 y5
            subst y1 y2 y3 y4 y5
            go_wp2_with fail
            go_meet
            case rel => exact ⟨by rw [← hB.out]; simp [HA.out.2, op0], rfl⟩
          · have HZ := Lib.hid hz
            clear hz
            go_wp2_with fail
            all_goals (
              go_meet
              case rel => exact ⟨by first | (rw [← hB.out]; simp [HA.out.1, HZ.out]; done) | (exfalso; apply HZ.out; unfold op0; congr <;> assumption), rfl⟩)
        · have q2 : (sv.toList == [105, 110, 106, 101, 99, 116]) = false := str_ne sv _ (by rw [HSV.out]; exact hinj)
          have HA := Lib.hid (And.intro hask hinj)
          clear hask hinj
          by_cases hz : (⟨k, r, t, n, m⟩ : OpV) = op0
          · injection hz with y1 y2 y3 y4 y5
            subst y1 y2 y3 y4 y5
            go_wp2_with fail
            go_meet
            case rel => exact ⟨by rw [← hB.out]; simp [HA.out.2, op0, HD2.out], rfl⟩
          · have HZ := Lib.hid hz
            clear hz
            go_wp2_with fail
            all_goals (
              go_meet
              case rel => exact ⟨by first | (rw [← hB.out]; simp [HA.out.1, HZ.out]; done) | (exfalso; apply HZ.out; unfold op0; congr <;> assumption), rfl⟩))
  obtain ⟨rfl, rfl⟩ := hcut
  cases B
  case true =>
    have HR : Hid (lineV ⟨v, ns, ⟨k, r, t, n, m⟩, d⟩ = .tuple #[.string ⟨#[]⟩, .int .i64 1]) := Lib.hid (by
      unfold lineV lineF
      rw [HBF.out]
      simp only []
      rw [if_neg (by have := HB.out; simp; omega), if_pos (of_decide_eq_true hB.out)]
      rfl)
    go_wp2_with fail
    go_ret2
    exact ⟨ret_eq HR.out.symm, HKA.out⟩
  case false =>
    have HLF : Hid (lineV ⟨v, ns, ⟨k, r, t, n, m⟩, d⟩ = if v = vAsk ∧ okOp ⟨k, r, t, n, m⟩ = false then .tuple #[.string ⟨#[]⟩, .int .i64 22] else .tuple #[strV (lineL ⟨v, ns, ⟨k, r, t, n, m⟩, d⟩), .int .i64 0]) := Lib.hid (by
      unfold lineV lineF
      rw [HBF.out]
      simp only []
      rw [if_neg (by have := HB.out; simp; omega), if_neg (of_decide_eq_false hB.out)]
      split <;> rfl)
    have hnl9 : (ns.length : Int) ≤ 4194304 := by omega
    go_wp2_with fail
    clear hB z0 z1 z2 z3 z4 z5 z6 z7
    go_loopw [7, 62] (fun v7 v62 wx => ∃ (j : Nat) (sx : ByteArray), v62 = .int .i64 (j : Int) ∧ j ≤ ns.length ∧ v7 = .string sx ∧ Hid (sx.data.toList = numsTo v ns j) ∧ sx.size ≤ 4194304 + 24 * j ∧ Hid (Kp Noone wc wx)) (fun _ u _ => (4194305 - intOf u).toNat)
    case atStart => exact ⟨0, sv, rfl, Nat.zero_le _, rfl, Lib.hid (by rw [HSV.out]; simp [numsTo]), by omega, Lib.hid (Kp.refl _ _)⟩
    case round =>
      obtain ⟨j, sx, rfl, hj, rfl, hsx, hsz, hk⟩ := hrel
      have HKW := Lib.hid (HKA.out.trans hk.out)
      by_cases hlt : j < ns.length
      · have hltz : (j : Int) < (ns.length : Int) := by omega
        have hwj : IntKind.i64.wrap ((j : Int) + 1) = (j : Int) + 1 := IntWalk.i64_in _ (by omega)
        obtain ⟨b, off, hl2, hno, hbb, hcell⟩ := ((HC.out.nums).keep HKW.out).at (k := j) hlt
        simp only [] at hno hcell hl2
        have hnb := HC.out.nb ns[j] (List.getElem_mem _)
        have hst := numsTo_succ v ns j hlt
        generalize ns[j] = nj at *
        have hit := fun W hW => itoa_any nj hnb.1 hnb.2 W hW
        have hil : (⟨(Lib.itoa nj).toArray⟩ : ByteArray).size ≤ 23 := by rw [ba_size]; exact itoa_len nj (by omega)
        have HIT : Hid (∀ y : ByteArray, y = ⟨(Lib.itoa nj).toArray⟩ → (sx ++ (⟨#[32]⟩ ++ y)).data.toList = numsTo v ns (j + 1)) := Lib.hid (by
          rintro y rfl
          rw [hst, ← hsx.out]
          simp)
        obtain ⟨sy, hsy⟩ : ∃ y : ByteArray, y = ⟨(Lib.itoa nj).toArray⟩ := ⟨_, rfl⟩
        rw [← hsy] at hit hil
        have HIY := Lib.hid (HIT.out sy hsy)
        clear HIT hsy hst hnb
        obtain ⟨hz1, hz2⟩ : ¬ 9223372036854775807 < 1 + sy.size ∧ ¬ 9223372036854775807 < sx.size + (1 + sy.size) := by omega
        rw [hno]
        go_wp2_with fail
        refine (hit _ (HL.out.keep HKW.out).pow).mono ?_
        rintro e w2 ⟨rfl, k2⟩
        go_wp2_with fail
        go_roundw
        case rel => exact ⟨j + 1, _, rfl, hlt, rfl, Lib.hid HIY.out, by rw [ByteArray.size_append, ByteArray.size_append, show (⟨#[32]⟩ : ByteArray).size = 1 from rfl]; omega, Lib.hid (hk.out.trans k2)⟩
        case measure => exact meas_down j ns.length hlt hnl
      · obtain rfl : j = ns.length := by omega
        obtain ⟨z0, z1, z2, z3, z4, z5, z6, z7⟩ := cells_8f (hk.out.heap hbA id)
        have HSX := hsx
        clear hlt hsx
        have h32 : (⟨#[32]⟩ : ByteArray).size = 1 := rfl
        by_cases hask : v = vAsk
        · have q1 : (sv.toList == [97, 115, 107]) = true := str_eq sv _ (by rw [HSV.out]; exact hask)
          have HA := Lib.hid hask
          clear hask
          have hwd := fun W hW => words_any ⟨k, r, t, n, m⟩ W hW
          unfold opV at hwd
          simp only [] at hwd
          cases hok : okOp ⟨k, r, t, n, m⟩
          · have HR : Hid (lineV ⟨v, ns, ⟨k, r, t, n, m⟩, d⟩ = .tuple #[.string ⟨#[]⟩, .int .i64 22]) := Lib.hid (by rw [HLF.out, if_pos ⟨HA.out, hok⟩])
            have hwv : wordsV ⟨k, r, t, n, m⟩ = .tuple #[.string ⟨#[]⟩, .int .i64 22] := by unfold wordsV wordsF; rw [hok]; rfl
            rw [hwv] at hwd
            clear hok hwv
            go_wp2_with fail
            refine (hwd _ (HL.out.keep HKW.out)).mono ?_
            rintro e w3 ⟨rfl, k3⟩
            have HK3 := Lib.hid (HKW.out.trans k3)
            clear k3
            go_wp2_with fail
            go_ret2
            exact ⟨ret_eq HR.out.symm, HK3.out⟩
          · have HR : Hid (lineV ⟨v, ns, ⟨k, r, t, n, m⟩, d⟩ = .tuple #[strV (numsTo v ns ns.length ++ 32 :: wordsL ⟨k, r, t, n, m⟩), .int .i64 0]) := Lib.hid (by
              rw [HLF.out, if_neg (by rw [hok]; simp), lineL_eq]
              unfold tailW
              rw [if_pos HA.out, flat_join _ (by simp [wordsW])]
              rfl)
            have hwv : wordsV ⟨k, r, t, n, m⟩ = .tuple #[.string ⟨(wordsL ⟨k, r, t, n, m⟩).toArray⟩, .int .i64 0] := by unfold wordsV wordsF; rw [hok]; rfl
            have hwl : (⟨(wordsL ⟨k, r, t, n, m⟩).toArray⟩ : ByteArray).size ≤ 200 := by rw [ba_size]; exact wordsL_len _ hok
            rw [hwv] at hwd
            have HWD : Hid ((⟨(wordsL ⟨k, r, t, n, m⟩).toArray⟩ : ByteArray).data.toList = wordsL ⟨k, r, t, n, m⟩) := Lib.hid (by simp)
            generalize (⟨(wordsL ⟨k, r, t, n, m⟩).toArray⟩ : ByteArray) = sw at *
            clear hok hwv
            go_wp2_with fail
            refine (hwd _ (HL.out.keep HKW.out)).mono ?_
            rintro e w3 ⟨rfl, k3⟩
            have HK3 := Lib.hid (HKW.out.trans k3)
            clear k3
            go_wp2_with fail
            go_ret2
            exact ⟨ret_eq (by rw [HR.out]; exact tup_str (by rw [ba_app, ba_app, HSX.out, HWD.out]; rfl)), HK3.out⟩
        · have q1 : (sv.toList == [97, 115, 107]) = false := str_ne sv _ (by rw [HSV.out]; exact hask)
          have HA := Lib.hid hask
          have HR0 : Hid (lineV ⟨v, ns, ⟨k, r, t, n, m⟩, d⟩ = .tuple #[strV (lineL ⟨v, ns, ⟨k, r, t, n, m⟩, d⟩), .int .i64 0]) := Lib.hid (by
            rw [HLF.out, if_neg (fun c => HA.out c.1)])
          clear hask HLF
          by_cases hinj : v = vInject
          · have q2 : (sv.toList == [105, 110, 106, 101, 99, 116]) = true := str_eq sv _ (by rw [HSV.out]; exact hinj)
            have HR : Hid (lineL ⟨v, ns, ⟨k, r, t, n, m⟩, d⟩ = numsTo v ns ns.length ++ 32 :: 120 :: hexTo d d.length) := Lib.hid (by
              rw [lineL_eq]
              unfold tailW hexTo
              simp only []
              rw [if_neg HA.out, if_pos hinj, List.take_length]
              simp)
            clear hinj
            have h32x : (⟨#[32, 120]⟩ : ByteArray).size = 2 := rfl
            have hdl9 : (d.length : Int) ≤ 4194304 := by omega
            go_wp2_with fail
            clear z0 z1 z2 z3 z4 z5 z6 z7
            go_loopw [7, 96] (fun v7 v96 wx => ∃ (j : Nat) (sy : ByteArray), v96 = .int .i64 (j : Int) ∧ j ≤ d.length ∧ v7 = .string sy ∧ Hid (sy.data.toList = numsTo v ns ns.length ++ 32 :: 120 :: hexTo d j) ∧ sy.size ≤ 4194304 + 24 * ns.length + 2 + 2 * j ∧ Hid (Kp Noone wr wx)) (fun _ u _ => (4194305 - intOf u).toNat)
            case atStart => exact ⟨0, _, rfl, Nat.zero_le _, rfl, Lib.hid (by rw [ba_app, HSX.out]; simp [hexTo, hexL]), by rw [ByteArray.size_append, h32x]; omega, Lib.hid (Kp.refl _ _)⟩
            case round =>
              rename_i wy _ _ _ _ _ _ _ _ _ _ _ _ _ _ _ _ _ _
              obtain ⟨j, sy, rfl, hj, rfl, hsy, hsz2, hk2⟩ := hrel
              have HKY := Lib.hid (HKW.out.trans hk2.out)
              by_cases hlt : j < d.length
              · have hltz : (j : Int) < (d.length : Int) := by omega
                have hwj : IntKind.i64.wrap ((j : Int) + 1) = (j : Int) + 1 := IntWalk.i64_in _ (by omega)
                obtain ⟨b, off, hl2, hno, hbb, hcell⟩ := ((HC.out.data).keep HKY.out).at (k := j) hlt
                simp only [] at hno hcell hl2
                have hst := hexTo_succ d j hlt
                have hm := d[j].toNat_lt
                generalize d[j].toNat = mb at *
                have HST := Lib.hid hst
                clear hst
                have x1 := hexS_at (mb / 16) (by omega)
                have x2 := hexS_at (mb % 16) (by omega)
                have x3 := hexS_size (mb / 16) (by omega)
                have x4 := hexS_size (mb % 16) (by omega)
                have HX := Lib.hid (And.intro x1 x2)
                unfold hexS at x3 x4 HX
                clear x1 x2
                rw [hno]
                go_wp2_with fail
                go_quiet (fail)
                go_wp2_with fail
                go_roundw
                case rel => exact ⟨j + 1, _, rfl, hlt, rfl, Lib.hid (by rw [ba_app, ba_app, hsy.out, HX.out.1, HX.out.2, HST.out]; simp), by rw [ByteArray.size_append, ByteArray.size_append, x3, x4]; omega, Lib.hid (hk2.out.drewN _)⟩
                case measure => exact meas_down j d.length hlt hdl
              · obtain rfl : j = d.length := by omega
                clear hlt
                go_wp2_with fail
                go_ret2
                exact ⟨ret_eq (by rw [HR0.out]; exact tup_str (by rw [hsy.out, HR.out])), HKY.out⟩
          · have q2 : (sv.toList == [105, 110, 106, 101, 99, 116]) = false := str_ne sv _ (by rw [HSV.out]; exact hinj)
            have HR : Hid (lineL ⟨v, ns, ⟨k, r, t, n, m⟩, d⟩ = numsTo v ns ns.length) := Lib.hid (by
              rw [lineL_eq]
              unfold tailW
              simp only []
              rw [if_neg HA.out, if_neg hinj]
              simp)
            clear hinj
            go_wp2_with fail
            go_ret2
            exact ⟨ret_eq (by rw [HR0.out]; exact tup_str (by rw [HSX.out, HR.out])), HKW.out⟩

end Go.Proofs.YtfinbppmkffbhaaDoor
