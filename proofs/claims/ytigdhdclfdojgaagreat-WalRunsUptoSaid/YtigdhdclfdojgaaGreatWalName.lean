/-
  wal: THE NAMES OF PIECES: area, number.
-/
import Derived.Test.YtigdhdclfdojgaaGreatSnapLoad
import Derived.Lib.SlBytesConst
namespace Go.Proofs.YtigdhdclfdojgaaGreat
open Go.RowKit

def dg (x : Nat) : UInt8 := UInt8.ofNat (48 + x % 10)
def dig6 (n : Nat) : List UInt8 := [dg (n / 100000), dg (n / 10000), dg (n / 1000), dg (n / 100), dg (n / 10), dg n]
def walPre : List UInt8 := [119, 97, 108, 45]
def walL (n : Nat) : List UInt8 := walPre ++ dig6 n
def walName (n : Nat) : ByteArray := ⟨(walL n).toArray⟩
/-- The bytes behind k rounds. -/
def arrW (n k : Nat) : List UInt8 := [119, 97, 108, 45, if 5 < k then dg (n / 100000) else 48, if 4 < k then dg (n / 10000) else 48, if 3 < k then dg (n / 1000) else 48, if 2 < k then dg (n / 100) else 48, if 1 < k then dg (n / 10) else 48, if 0 < k then dg n else 48]
theorem dg_zero : dg 0 = 48 := rfl
theorem arrW_step (n k : Nat) (h : k < 6) : (arrW n k).set (9 - k) (dg (n / 10 ^ k)) = arrW n (k + 1) := by
  match k, h with
  | 0, _ => simp [arrW]
  | 1, _ => simp [arrW]
  | 2, _ => simp [arrW]
  | 3, _ => simp [arrW]
  | 4, _ => simp [arrW]
  | 5, _ => simp [arrW]
theorem arrW_done (n k : Nat) (h : n / 10 ^ k = 0) : arrW n k = walL n := by
  have hz : ∀ j, k ≤ j → n / 10 ^ j = 0 := fun j hj => by
    rw [Nat.div_eq_zero_iff] at h ⊢
    rcases h with h | h
    · exact absurd h (Nat.pos_iff_ne_zero.1 (Nat.pow_pos (by omega)))
    · exact Or.inr (Nat.lt_of_lt_of_le h (Nat.pow_le_pow_right (by omega) hj))
  have e : ∀ j, (if j < k then dg (n / 10 ^ j) else 48) = dg (n / 10 ^ j) := fun j => by
    by_cases hj : j < k
    · rw [if_pos hj]
    · rw [if_neg hj, hz j (by omega), dg_zero]
  have e0 := e 0
  have e1 := e 1
  have e2 := e 2
  have e3 := e 3
  have e4 := e 4
  have e5 := e 5
  simp only [Nat.pow_zero, Nat.pow_one, Nat.div_one, Nat.reducePow] at e0 e1 e2 e3 e4 e5
  unfold arrW walL walPre dig6
  simp only [e0, e1, e2, e3, e4, e5, List.cons_append, List.nil_append]
theorem length_walL (n : Nat) : (walL n).length = 10 := rfl
theorem length_arrW (n k : Nat) : (arrW n k).length = 10 := rfl
theorem dg_val (x : Nat) : (dg x).toNat = 48 + x % 10 := by
  unfold dg
  rw [UInt8.toNat_ofNat']
  omega
theorem heap_set_mark {w : World} {p e n : Nat} {cs : Array Value} {fr : Nat × Nat} {u : Value} (h : w.heap[p]? = some (.cells cs e fr)) : (w.setCell ⟨p, n, none⟩ u).heap[p]? = some (.cells (cs.setIfInBounds n u) e fr) := by
  simp [World.setCell, Array.getElem?_modify, h]

set_option maxHeartbeats 2000000 in
set_option maxRecDepth 100000 in
theorem area_w (n : Nat) (w : World) (hn : n ≤ 999999) : Calls Tryz.prog 47 #[.int .i64 (n : Int)] w fun e w' => e = .returned (.string (walName n)) ∧ Kp Noone w w' := by
  have kc := fun (w : World) (C : Array Value) (n c : Nat) => Lib.run_convert_bytes_const (P := Tryz.prog) w 42 5 C n c Tryz.underlying42 Tryz.underlying5
  have e0 : (bv (arrW n 0)).toArray = #[.int .u8 119, .int .u8 97, .int .u8 108, .int .u8 45, .int .u8 48, .int .u8 48, .int .u8 48, .int .u8 48, .int .u8 48, .int .u8 48] := by simp [bv, arrW, U8]
  have kA : Kp Noone w (w.alloc (.cells (bv (arrW n 0)).toArray 5 (10, 11))) := (Kp.refl _ _).alloc _
  have hA := heap_alloc_new w (.cells (bv (arrW n 0)).toArray 5 (10, 11))
  rw [e0] at kA
  have hA2 := hA
  rw [e0] at hA
  have hgl : w.heap.size ≤ w.heap.size := Nat.le_refl _
  have HK1 := Lib.hid kA
  have HN := Lib.hid hn
  have HE := Lib.hid e0
  clear e0 hA2 hn
  go_enter Tryz.func47, Tryz.ntmps47
  go_upto_region 3 with fail
  generalize w.alloc (.cells #[.int .u8 119, .int .u8 97, .int .u8 108, .int .u8 45, .int .u8 48, .int .u8 48, .int .u8 48, .int .u8 48, .int .u8 48, .int .u8 48] 5 (10, 11)) = w1 at *
  generalize hgw : w.heap.size = g at *
  clear kc hgl
  go_loopw [0, 4] (fun v u wr => ∃ k : Nat, k ≤ 6 ∧ v = .int .i64 ((n / 10 ^ k : Nat) : Int) ∧ u = .int .i64 (9 - (k : Int)) ∧ wr.heap[g]? = some (.cells (bv (arrW n k)).toArray 5 (10, 11)) ∧ Kp (fun j => j = g) w1 wr) (fun v _ _ => (intOf v).toNat)
  case atStart => exact ⟨0, by omega, by simp, by simp, by rw [HE.out]; exact hA, Kp.refl _ _⟩
  case round =>
    obtain ⟨k, hk, rfl, rfl, hb, kq⟩ := hrel
    by_cases h0 : n / 10 ^ k = 0
    · have hd := arrW_done n k h0
      rw [hd] at hb
      have hcv : (convert 42 9 (.slice (some ⟨g, 0, none⟩) 10 10)).run Tryz.prog wr = .ok (.string (walName n)) wr :=
        run_convert_bytes_back wr 42 9 5 ⟨g, 0, none⟩ 10 (walL n) Tryz.underlying42 Tryz.underlying5 Tryz.underlying9 (fun j hj => by
          rw [Addr.add_lit, cell_of_row wr g _ _ _ _ hb]
          have hj2 : j < (walL n).length := hj
          simp [bv, U8, hj2])
      rw [h0]
      have HK := Lib.hid (HK1.out.fin kq (fun j e => Or.inr (by omega)))
      clear hd kq
      go_wp2_with fail
      go_ret
      exact ⟨rfl, HK.out⟩
    · have hk6 : k < 6 := by
        by_cases h6 : k < 6
        · exact h6
        · exfalso; apply h0
          have : k = 6 := by omega
          subst this
          have := HN.out
          omega
      have hst := arrW_step n k hk6
      have hpd : n / 10 ^ (k + 1) = n / 10 ^ k / 10 := by rw [Nat.pow_succ, Nat.div_div_eq_div_mul]
      have hxl : n / 10 ^ k ≤ 999999 := Nat.le_trans (Nat.div_le_self _ _) HN.out
      obtain ⟨q, hq⟩ : ∃ q, q + k = 9 := ⟨9 - k, by omega⟩
      have hqi : (9 : Int) - (k : Int) = (q : Int) := by omega
      rw [hqi]
      rw [show 9 - k = q by omega] at hst
      have hql : q < (bv (arrW n k)).length := by rw [length_bv, length_arrW]; omega
      have hcl : wr.cell? ⟨g, q, none⟩ = some (bv (arrW n k))[q] := by
        rw [cell_of_row wr g _ _ _ _ hb]
        simp [hql]
      have hfz : wr.frozen? ⟨g, q, none⟩ = false := by
        simp [World.frozen?, hb]
        omega
      have hset : (wr.setCell ⟨g, q, none⟩ (U8 (dg (n / 10 ^ k)))).heap[g]? = some (.cells (bv (arrW n (k + 1))).toArray 5 (10, 11)) := by
        rw [heap_set_mark hb, ← hst]
        simp [bv]
      have HS := Lib.hid hset
      have HKQ := Lib.hid kq
      have HPD := Lib.hid hpd
      have hdv := dg_val (n / 10 ^ k)
      generalize n / 10 ^ k = x at *
      have hsb : IntKind.i64.wrap ((q : Int) - 1) = (q : Int) - 1 := IntWalk.i64_in _ (by omega)
      have hpos : (0 : Int) < (x : Int) := by omega
      have hv : Value.int .u8 (48 + (x : Int) % 10) = U8 (dg x) := by unfold U8; rw [hdv]; congr 1
      have HV := Lib.hid hv
      have hql2 : (q : Int) < 10 := by omega
      clear hv hset hst hpd hb kq hdv
      go_wp2_with fail
      go_roundw
      case rel => exact ⟨k + 1, by omega, by rw [HPD.out, Int.natCast_ediv]; rfl, by congr 1; omega, by rw [HV.out]; exact HS.out, Kp.setCell (S := fun j => j = g) (p := ⟨g, q, none⟩) HKQ.out (fun _ => rfl) _⟩
      case measure => simp [intOf]; omega

/-! ### number -/
def numD : List UInt8 → Nat → Nat
  | [], n => n
  | c :: r, n => if c.toNat < 48 ∨ 57 < c.toNat then 0 else numD r (10 * n + (c.toNat - 48))
theorem numD_cons (c : UInt8) (r : List UInt8) (n : Nat) : numD (c :: r) n = if c.toNat < 48 ∨ 57 < c.toNat then 0 else numD r (10 * n + (c.toNat - 48)) := rfl
theorem numD_nil (n : Nat) : numD [] n = n := rfl
def numberN (k : ByteArray) : Nat := if Lib.hasPrefix (toL k) walPre = true ∧ (toL k).length = 10 then numD ((toL k).drop 4) 0 else 0

set_option maxHeartbeats 1000000 in
theorem cut_lite (s p : ByteArray) (w : World) : Calls Tryz.prog 113 #[.string s, .string p] w fun e w' => e = .returned (.tuple (if Lib.hasPrefix s.data.toList p.data.toList = true then #[.string (s.extract p.size s.size), .bool true] else #[.string s, .bool false])) ∧ w = w' := by
  by_cases hp : Lib.hasPrefix s.data.toList p.data.toList = true
  · rw [if_pos hp]
    have hl : p.size ≤ s.size := by
      have h2 := hp
      rw [← Lib.hasPrefix_of_take] at h2
      simp at h2
      exact h2.1
    have hl2 : (p.size : Int) ≤ (s.size : Int) := by omega
    go_enter Tryz.func113, Tryz.ntmps113
    go_wp2_with fail
    refine (pre_lite _ _ _).mono ?_
    rw [hp]
    rintro e w' ⟨rfl, rfl⟩
    go_wp2_with fail
    go_ret2
    exact ⟨rfl, rfl⟩
  · rw [if_neg hp]
    have hp2 : Lib.hasPrefix s.data.toList p.data.toList = false := by simpa using hp
    go_enter Tryz.func113, Tryz.ntmps113
    go_wp2_with fail
    refine (pre_lite _ _ _).mono ?_
    rw [hp2]
    rintro e w' ⟨rfl, rfl⟩
    go_wp2_with fail
    go_ret2
    exact ⟨rfl, rfl⟩
theorem wal_lit : (ByteArray.mk #[119, 97, 108, 45]).data.toList = walPre := rfl
set_option maxHeartbeats 1000000 in
theorem cut_any (k : ByteArray) (w : World) : Calls Tryz.prog 87 #[.string k, .string { data := #[119, 97, 108, 45] }] w fun e w' => e = .returned (.tuple (if Lib.hasPrefix (toL k) walPre = true then #[.string (k.extract 4 k.size), .bool true] else #[.string k, .bool false])) ∧ w = w' := by
  go_enter Tryz.func87, Tryz.ntmps87
  go_wp2_with fail
  refine (cut_lite _ _ _).mono ?_
  rw [wal_lit]
  rintro e w' ⟨rfl, rfl⟩
  by_cases hp : Lib.hasPrefix k.data.toList walPre = true
  · have hp2 : Lib.hasPrefix (toL k) walPre = true := hp
    rw [if_pos hp]
    go_wp2_with fail
    go_ret2
    exact ⟨rfl, rfl⟩
  · have hp2 : ¬ Lib.hasPrefix (toL k) walPre = true := hp
    rw [if_neg hp]
    go_wp2_with fail
    go_ret2
    exact ⟨rfl, rfl⟩

set_option maxHeartbeats 2000000 in
theorem number_w (k : ByteArray) (w : World) (hk : k.size ≤ 24) : Calls Tryz.prog 66 #[.string k] w fun e w' => e = .returned (.int .i64 (numberN k : Int)) ∧ Kp Noone w w' := by
  obtain ⟨RES, hRES⟩ : ∃ x, Hid (numberN k = x) := ⟨_, Lib.hid rfl⟩
  rw [hRES.out]
  have HR := hRES.out
  unfold numberN at HR
  have hcut := cut_any k w
  have hlk : (toL k).length = k.size := by simp [toL]
  by_cases hp : Lib.hasPrefix (toL k) walPre = true
  case neg =>
    rw [if_neg (fun c => hp c.1)] at HR
    rw [if_neg hp] at hcut
    subst HR
    clear hRES hp hlk
    go_enter Tryz.func66, Tryz.ntmps66
    go_wp2_with fail
    refine hcut.mono ?_
    rintro e w' ⟨rfl, rfl⟩
    go_wp2_with fail
    go_ret
    exact ⟨rfl, Kp.refl _ _⟩
  rw [if_pos hp] at hcut
  have h4 : 4 ≤ k.size := by
    have h2 := hp
    rw [← Lib.hasPrefix_of_take] at h2
    have e : walPre.length = 4 := rfl
    simp [e] at h2
    omega
  have hrs : (k.extract 4 k.size).size = k.size - 4 := by rw [ByteArray.size_extract]; omega
  have hrd : (k.extract 4 k.size).data.toList = (toL k).drop 4 := by
    have h := Lib.extract_toList k 4 k.size
    rw [Lib.toList_data] at h
    rw [h]
    exact List.take_of_length_le (by rw [List.length_drop]; have : k.data.toList.length = k.size := length_bytes k; omega)
  generalize k.extract 4 k.size = r at *
  by_cases h10 : k.size = 10
  case neg =>
    rw [if_neg (fun c => h10 (by omega))] at HR
    subst HR
    have hne : ((r.size : Int) != 6) = true := by simp; omega
    clear hRES hp hlk hrs hrd h4 h10
    go_enter Tryz.func66, Tryz.ntmps66
    go_wp2_with fail
    refine hcut.mono ?_
    rintro e w' ⟨rfl, rfl⟩
    go_wp2_with fail
    go_ret
    exact ⟨rfl, Kp.refl _ _⟩
  rw [if_pos ⟨hp, by omega⟩, ← hrd] at HR
  have hr6 : r.size = 6 := by omega
  have hcv := fun w => run_conv r w
  have hbs := convW_bs r w (by unfold maxLen; omega)
  have hkp := convW_kp r w
  rw [hr6] at hcv hbs
  have HRR := Lib.hid HR
  have HBS := Lib.hid hbs
  have HKP := Lib.hid hkp
  have hn6 : ((r.size : Int) != 6) = false := by rw [hr6]; rfl
  clear hRES hp hlk hrs hrd h4 h10 HR hbs hkp
  go_enter Tryz.func66, Tryz.ntmps66
  go_wp2_with fail
  refine hcut.mono ?_
  clear hcut
  rintro e w' ⟨rfl, rfl⟩
  go_wp2_with fail
  generalize convC r w = cc at *
  generalize convW r w = w1 at *
  generalize hD : r.data.toList = D at *
  clear hcv hn6
  go_loopw [23, 5] (fun v u wr => ∃ j m : Nat, j ≤ 6 ∧ v = .int .i64 (j : Int) ∧ u = .int .i64 (m : Int) ∧ m < 10 ^ j ∧ numD D 0 = numD (D.drop j) m ∧ wr = w1) (fun v _ _ => 6 - (intOf v).toNat)
  case atStart => exact ⟨0, 0, by omega, rfl, rfl, by omega, rfl, rfl⟩
  case round =>
    obtain ⟨j, m, hj, rfl, rfl, hm, hnd, rfl⟩ := hrel
    by_cases hlt : j < 6
    · obtain ⟨b, off, hl, hgo, -, hc⟩ := HBS.out.at hlt
      cases hgo
      rw [Nat.zero_add] at hc
      rw [show D.drop j = D[j] :: D.drop (j + 1) from (List.getElem_cons_drop hl).symm] at hnd
      rw [numD_cons] at hnd
      have hcb : D[j].toNat ≤ 255 := by have := UInt8.toNat_lt D[j]; omega
      generalize D[j].toNat = c at *
      have hlim : 10 ^ j ≤ 100000 := by
        have : 10 ^ j ≤ 10 ^ 5 := Nat.pow_le_pow_right (by omega) (by omega)
        simpa using this
      by_cases hbad : c < 48 ∨ 57 < c
      · rw [if_pos hbad] at hnd
        have HR := HRR.out
        rw [hnd] at HR
        subst HR
        have hcs : ((c : Int) < 48) ∨ (¬ (c : Int) < 48 ∧ (57 : Int) < (c : Int)) := by omega
        clear hbad hnd hlim hm
        rcases hcs with h1 | ⟨h1, h2⟩
        all_goals (
          go_wp2_with fail
          go_ret
          exact ⟨rfl, HKP.out⟩)
      · rw [if_neg hbad] at hnd
        have h1 : ¬ (c : Int) < 48 := by omega
        have h2 : ¬ (57 : Int) < (c : Int) := by omega
        have HND := Lib.hid hnd
        have hp10 : 10 ^ (j + 1) = 10 * 10 ^ j := by rw [Nat.pow_succ]; omega
        have hw1 : IntKind.i64.wrap (10 * (m : Int)) = 10 * (m : Int) := IntWalk.i64_in _ (by omega)
        have hw2 : IntKind.u8.wrap ((c : Int) - 48) = (c : Int) - 48 := IntWalk.u8_in _ (by omega)
        have hw3 : IntKind.i64.wrap (10 * (m : Int) + ((c : Int) - 48)) = ((10 * m + (c - 48) : Nat) : Int) := by rw [IntWalk.i64_in _ (by omega)]; omega
        have hw4 : IntKind.i64.wrap ((j : Int) + 1) = (j : Int) + 1 := IntWalk.i64_in _ (by omega)
        have hfin : Hid (10 * m + (c - 48) < 10 ^ (j + 1)) := Lib.hid (by omega)
        clear hbad hnd hp10
        go_wp2_with fail
        go_roundw
        case rel => exact ⟨j + 1, 10 * m + (c - 48), by omega, by go_num, by go_num, hfin.out, HND.out, trivial⟩
        case measure => simp [intOf]; omega
    · have HR := HRR.out
      rw [hnd, List.drop_of_length_le (by have := HBS.out.len; omega)] at HR
      rw [numD_nil] at HR
      subst HR
      clear hnd hm
      go_wp2_with fail
      go_ret
      exact ⟨rfl, HKP.out⟩

end Go.Proofs.YtigdhdclfdojgaaGreat
