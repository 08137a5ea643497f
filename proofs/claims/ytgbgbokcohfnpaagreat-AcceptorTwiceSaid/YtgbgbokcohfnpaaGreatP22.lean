/-
  The texts AccWrite, Region9 in one: what the claim reaches of them.
-/
import Derived.Test.YtgbgbokcohfnpaaGreatP19
import Derived.Deep.RegionHeld3
import Derived.Test.YtgbgbokcohfnpaaGreatP01
/-
  WALKS: value.Write; a record's bytes.
-/
namespace Go.Proofs.YtgbgbokcohfnpaaGreat
open Go.RowKit

theorem w64_small {n : Nat} (h : n ≤ 9223372036854775807) : W64 n := by unfold W64; omega
/-- One step more. -/
theorem WrTo.go {W0 w w' : World} {F : Nat → Prop} {p : Nat} {l : List UInt8} (h : WrTo W0 F w p l w') : ∃ F', WrN W0 F' w' p l ∧ ∀ l' w2, WrTo W0 F' w' p l' w2 → WrTo W0 F w p l' w2 := by
  obtain ⟨⟨F', h1, h2⟩, h3⟩ := h
  refine ⟨F', h1, fun l' w2 h4 => ?_⟩
  obtain ⟨⟨F2, h5, h6⟩, h7⟩ := h4
  refine ⟨⟨F2, h5, fun j d => ?_⟩, h3.trans' h7 (fun j hj d => ?_)⟩
  · rcases h6 j d with a | a
    · exact h2 j a
    · have := h3.size; exact Or.inr (by omega)
  · rcases h2 j d with a | a
    · exact a
    · omega
theorem WrTo.back {W0 w wA W : World} {F : Nat → Prop} {p : Nat} {l : List UInt8} (k : Kp Noone w wA) (h : WrTo W0 F wA p l W) : WrTo W0 F w p l W := by
  obtain ⟨⟨F', h1, h2⟩, h3⟩ := h
  have hs := k.size
  exact ⟨⟨F', h1, fun j a => (h2 j a).imp id (fun b => by omega)⟩, (k.none (S := F)).trans h3⟩
theorem WrTo.old {W0 w w' : World} {F : Nat → Prop} {p : Nat} {l : List UInt8} (h : WrTo W0 F w p l w') : Kp Noone W0 w' := by
  obtain ⟨⟨F', h1, -⟩, -⟩ := h
  exact h1.kp
/-- A writer made just now, as one that was made since an older world. -/
theorem WrTo.start {wA wB w' : World} {p : Nat} {l : List UInt8} (k : Kp Noone wA wB) (h : WrTo wB Noone wB p l w') : WrTo wA Noone wA p l w' := by
  obtain ⟨⟨F', h1, h2⟩, h3⟩ := h
  have hs := k.size
  exact ⟨⟨F', ⟨h1.wr, fun j a => ⟨Nat.le_trans hs (h1.new j a).1, (h1.new j a).2⟩, k.trans h1.kp⟩, fun j a => (h2 j a).imp id (fun b => by omega)⟩, k.trans h3⟩
set_option maxHeartbeats 1000000 in
set_option maxRecDepth 100000 in
theorem writeVal_n (W0 w : World) (F : Nat → Prop) (p : Nat) (l : List UInt8) (v : ValR) (m : VLoc) (h : WrN W0 F w p l) (hv : ValAt W0 v m) (h0 : valF v = 0) (hl : l.length ≤ 65536) :
    Calls Tryz.prog 136 #[.pointer (some ⟨p, 0, none⟩), valV v m] w fun e w' => e = .returned (.tuple #[]) ∧ WrTo W0 F w p (l ++ valL v) w' := by
  have hc8 := valF_cmds h0
  have hn7 := valF_next h0
  have hk2 := valF_kind h0
  have HCM := Lib.hid (valF_cmd h0)
  have HNX := Lib.hid (valF_nextIn h0)
  have HVL : Hid (valL v = numL v.kind.toNat ++ numL v.cmds.length ++ cmdsL v.cmds ++ numL v.next.length ++ natsL v.next) := Lib.hid rfl
  obtain ⟨k, cs, ns⟩ := v
  obtain ⟨co, cc, no, nc⟩ := m
  obtain ⟨hc, hn⟩ := hv
  simp only [] at hc hn hc8 hn7 hk2 HCM HNX HVL
  obtain ⟨kn, rfl⟩ := Int.eq_ofNat_of_zero_le hk2.1
  have hkn : kn ≤ 2 := by omega
  have HC := Lib.hid hc
  have HN := Lib.hid hn
  rw [show ((kn : Int)).toNat = kn from Int.toNat_natCast kn] at HVL
  unfold valV
  simp only []
  have hb := heap_alloc_new w (.cells #[.int .i64 (kn : Int), .slice co cs.length cc, .slice no ns.length nc] 34)
  have kA : Kp Noone w (w.alloc (.cells #[.int .i64 (kn : Int), .slice co cs.length cc, .slice no ns.length nc] 34)) := (Kp.refl _ _).alloc _
  have H := Lib.hid (WrTo.refl (h.keep kA))
  have HF := Lib.hid (fun j a => (h.new j a).2)
  clear h h0 hc hn hk2
  obtain ⟨cn, hcn⟩ : ∃ n, cs.length = n := ⟨_, rfl⟩
  obtain ⟨nn, hnn⟩ : ∃ n, ns.length = n := ⟨_, rfl⟩
  rw [hcn] at hc8 HVL HC hb H kA ⊢
  rw [hnn] at hn7 HVL HN hb H kA ⊢
  have HCN := Lib.hid hcn
  have HNN := Lib.hid hnn
  clear hcn hnn
  obtain ⟨L1, HL1⟩ : ∃ x, Hid (l ++ numL kn = x) := ⟨_, Lib.hid rfl⟩
  obtain ⟨L2, HL2⟩ : ∃ x, Hid (L1 ++ numL cn = x) := ⟨_, Lib.hid rfl⟩
  have l1 : L1.length ≤ 65545 := by rw [← HL1.out, List.length_append]; have := numL_len kn; omega
  have l2 : L2.length ≤ 65554 := by rw [← HL2.out, List.length_append]; have := numL_len cn; omega
  go_enter Tryz.func136, Tryz.ntmps136
  go_upto_region 1 with fail
  generalize w.alloc (.cells #[.int .i64 (kn : Int), .slice co cn cc, .slice no nn nc] 34) = wA at *
  have HX := Lib.hid hb
  have HG : Hid (∀ j, F j → j ≠ w.heap.size) := Lib.hid (fun j a e => by have := HF.out j a; omega)
  generalize w.heap.size = g at *
  have hS : ∀ W, Kp F wA W → W.cell? ⟨g, 0, none⟩ = some (.int .i64 (kn : Int)) ∧ W.cell? ⟨g, 1, none⟩ = some (.slice co cn cc) ∧ W.cell? ⟨g, 2, none⟩ = some (.slice no nn nc) := fun W kk => cells_3v (kk.heap HX.out (fun a => HG.out g a rfl))
  have HKA := Lib.hid kA
  have kd : Kp Noone wA wA.drew := (Kp.refl _ _).drew
  obtain ⟨z0, z1, z2⟩ := hS wA.drew kd.none
  have hW := H.out.keep kd
  have HS := Lib.hid hS
  have q1 : IntKind.u64.wrap (kn : Int) = (kn : Int) := IntWalk.u64_in _ (by omega)
  have q2 : IntKind.u64.wrap (cn : Int) = (cn : Int) := IntWalk.u64_in _ (by omega)
  have q3 : IntKind.u64.wrap (nn : Int) = (nn : Int) := IntWalk.u64_in _ (by omega)
  clear hb hS kA kd HF
  go_region_held3 (fun w' => w'.cell? ⟨g, 0, none⟩ = some (.int .i64 (kn : Int)) ∧ w'.cell? ⟨g, 1, none⟩ = some (.slice co cn cc))
    (exact ⟨by assumption, by assumption⟩)
    (first
      | (go_at_call 135; (change WrTo _ _ _ _ l _ at hW); refine (hW.num kn (w64_small (by omega)) (by omega)).mono ?_; rintro e w' ⟨rfl, hW⟩; rw [HL1.out] at hW; obtain ⟨z0, z1, z2⟩ := HS.out _ hW.kp)
      | (go_at_call 135; (change WrTo _ _ _ _ L1 _ at hW); refine (hW.num cn (w64_small (by omega)) (by omega)).mono ?_; rintro e w' ⟨rfl, hW⟩; rw [HL2.out] at hW; obtain ⟨z0, z1, z2⟩ := HS.out _ hW.kp))
  have HW := Lib.hid hW
  have HCP := Lib.hid (fun F' l' W c (hw : WrN W0 F' W p l') hc hl => putCmd_n W0 W F' p l' c hw hc hl)
  clear hW q1 q2
  go_wp2_with fail
  clear z0 z1 z2
  go_loopw [21] (fun v21 wx => ∃ j : Nat, v21 = .int .i64 (j : Int) ∧ j ≤ cn ∧ Hid (WrTo W0 F wA p (L2 ++ cmdsL (cs.take j)) wx)) (fun u _ => (4194305 - intOf u).toNat)
  case atStart => exact ⟨0, rfl, Nat.zero_le _, Lib.hid (by simpa [cmdsL] using HW.out)⟩
  case round =>
    obtain ⟨j, rfl, hj, hw⟩ := hrel
    by_cases hlt : j < cn
    · have hltz : (j : Int) < (cn : Int) := by omega
      have hwj : IntKind.i64.wrap ((j : Int) + 1) = (j : Int) + 1 := IntWalk.i64_in _ (by omega)
      obtain ⟨b, off, hl2, hno, -, ⟨e0, e1, e2, e3, e4, e5, e6, e7⟩⟩ := (HC.out.keep hw.out.old).at hlt
      have HST := Lib.hid (cmdsL_step cs j hl2)
      have hcf := HCM.out cs[j] (List.getElem_mem _)
      generalize cs[j] = c at *
      subst hno
      have hcp : ∀ W, Kp Noone wr W → Calls Tryz.prog 172 #[.pointer (some ⟨p, 0, none⟩), .agg #[.int .i64 c.sess, .int .i64 c.seq, .int .i64 c.ack, .int .i64 c.op.kind, .int .i64 c.op.reg, .int .i64 c.op.tgt, .int .i64 c.op.re, .int .i64 c.op.im]] W fun e w' => e = .returned (.tuple #[]) ∧ WrTo W0 F wA p (L2 ++ cmdsL (cs.take (j + 1))) w' := fun W kk => by
        obtain ⟨F', h1, h2⟩ := (hw.out.keep kk).go
        refine (HCP.out F' _ W c h1 hcf ?_).mono (fun e w' q => ⟨q.1, ?_⟩)
        · have h3 := cmdsL_len (cs.take j)
          have h4 : (cs.take j).length ≤ cn := by rw [List.length_take]; omega
          rw [List.length_append]
          omega
        · have h5 := h2 _ _ q.2
          rw [List.append_assoc, ← HST.out] at h5
          exact h5
      clear hcf
      go_wp2_with fail
      refine (hcp _ ((Kp.refl _ _).alloc _)).mono ?_
      rintro e w2 ⟨rfl, hw2⟩
      have HW2 := Lib.hid hw2
      clear hw2 hcp
      go_wp2_with fail
      go_roundw
      case rel => exact ⟨j + 1, rfl, hlt, HW2⟩
      case measure => exact meas_small j cn hlt (by omega)
    · obtain rfl : j = cn := by omega
      obtain ⟨L3, HL3⟩ : ∃ x, Hid (L2 ++ cmdsL cs = x) := ⟨_, Lib.hid rfl⟩
      have hW3 : WrTo W0 F wA p L3 wr := by
        have := hw.out
        rwa [List.take_of_length_le (by rw [HCN.out]; exact Nat.le_refl _), HL3.out] at this
      have l3 : L3.length ≤ 66200 := by
        have h3 := cmdsL_len cs
        rw [← HL3.out, List.length_append]
        rw [HCN.out] at h3
        omega
      obtain ⟨L4, HL4⟩ : ∃ x, Hid (L3 ++ numL nn = x) := ⟨_, Lib.hid rfl⟩
      have hnum := fun W (kk : Kp Noone wr W) => (hW3.keep kk).num nn (w64_small (by omega)) (by omega)
      rw [HL4.out] at hnum
      have l4 : L4.length ≤ 66300 := by rw [← HL4.out, List.length_append]; have := numL_len nn; omega
      obtain ⟨z0, z1, z2⟩ := HS.out _ hW3.kp
      have kr : Kp Noone wr wr := Kp.refl _ _
      clear hlt hW3 l3
      go_wp2_with fail
      refine (hnum _ kr).mono ?_
      rintro e w3 ⟨rfl, hw3⟩
      have HW3 := Lib.hid hw3
      obtain ⟨z0, z1, z2⟩ := HS.out _ hw3.kp
      clear hw3 hnum kr q3
      go_wp2_with fail
      clear z0 z1 z2
      go_loopw [38] (fun v38 wx => ∃ j : Nat, v38 = .int .i64 (j : Int) ∧ j ≤ nn ∧ Hid (WrTo W0 F wA p (L4 ++ natsL (ns.take j)) wx)) (fun u _ => (4194305 - intOf u).toNat)
      case atStart => exact ⟨0, rfl, Nat.zero_le _, Lib.hid (by simpa [natsL] using HW3.out)⟩
      case round =>
        obtain ⟨j, rfl, hj, hw⟩ := hrel
        by_cases hlt : j < nn
        · have hltz : (j : Int) < (nn : Int) := by omega
          have hwj : IntKind.i64.wrap ((j : Int) + 1) = (j : Int) + 1 := IntWalk.i64_in _ (by omega)
          obtain ⟨b, off, hl2, hno, -, hcell⟩ := (HN.out.keep hw.out.old).at hlt
          have HST := Lib.hid (natsL_step ns j hl2)
          have hx := HNX.out ns[j] (List.getElem_mem _)
          generalize ns[j] = x at *
          obtain ⟨xn, rfl⟩ := Int.eq_ofNat_of_zero_le (show 0 ≤ x by omega)
          have q4 : IntKind.u64.wrap (xn : Int) = (xn : Int) := IntWalk.u64_in _ (by omega)
          subst hno
          have hci := hw.out.num xn (w64_small (by omega)) (by
            have h3 := natsL_len (ns.take j)
            have h4 : (ns.take j).length ≤ nn := by rw [List.length_take]; omega
            rw [List.length_append]
            omega)
          have HE : Hid ((L4 ++ natsL (ns.take j)) ++ numL xn = L4 ++ natsL (ns.take (j + 1))) := Lib.hid (by rw [HST.out, List.append_assoc, Int.toNat_natCast])
          rw [HE.out] at hci
          clear hx
          go_wp2_with fail
          refine hci.mono ?_
          rintro e w5 ⟨rfl, hw5⟩
          have HW5 := Lib.hid hw5
          clear hw5 hci
          go_wp2_with fail
          go_roundw
          case rel => exact ⟨j + 1, rfl, hlt, HW5⟩
          case measure => exact meas_small j nn hlt (by omega)
        · obtain rfl : j = nn := by omega
          have HFIN : Hid (WrTo W0 F w p (l ++ valL ⟨(kn : Int), cs, ns⟩) wr) := Lib.hid (by
            have h1 := hw.out
            rw [List.take_of_length_le (by rw [HNN.out]; exact Nat.le_refl _)] at h1
            have h2 := WrTo.back HKA.out h1
            have h3 : l ++ valL ⟨(kn : Int), cs, ns⟩ = L4 ++ natsL ns := by
              rw [HVL.out, ← HL4.out, ← HL3.out, ← HL2.out, ← HL1.out]
              simp only [List.append_assoc]
            rw [h3]
            exact h2)
          clear hlt
          go_wp2_with fail
          go_end0
          exact ⟨rfl, HFIN.out⟩
/-- A record's eight cells. -/
def recV (x : RecR) (m : VLoc) : Value := .agg #[.int .i64 x.kind, .int .i64 x.epoch, .int .i64 x.slot, .int .i64 x.bal.round, .int .i64 x.bal.node, .int .i64 x.val.kind, .slice m.co x.val.cmds.length m.cc, .slice m.no x.val.next.length m.nc]
set_option maxHeartbeats 2000000 in
set_option maxRecDepth 100000 in
theorem bytes_any (x : RecR) (m : VLoc) (w : World) (hv : ValAt w x.val m) (hx : RecOk x) :
    Calls Tryz.prog 87 #[recV x m] w fun e w' => ∃ bo c, e = .returned (.slice bo (recL x).length c) ∧ Own (Ex Noone w w') w' 5 1 bo (recL x).length c (bv (recL x)) ∧ Kp Noone w w' := by
  obtain ⟨⟨k0, k3⟩, ⟨e0, e1⟩, ⟨s0, s1⟩, ⟨r0, r1⟩, ⟨n0, n1⟩, hval⟩ := hx
  have hlen := recL_len hval
  have HRL : Hid (recL x = natsL [x.kind, x.epoch, x.slot, x.bal.round, x.bal.node] ++ (if x.kind = 2 then valL x.val else [])) := Lib.hid rfl
  unfold recV
  obtain ⟨k, ep, sl, ⟨rd, nd⟩, v⟩ := x
  simp only [] at k0 k3 e0 e1 s0 s1 r0 r1 n0 n1 hval hv HRL ⊢
  obtain ⟨kn, rfl⟩ := Int.eq_ofNat_of_zero_le k0
  obtain ⟨en, rfl⟩ := Int.eq_ofNat_of_zero_le e0
  obtain ⟨sn, rfl⟩ := Int.eq_ofNat_of_zero_le s0
  obtain ⟨rn, rfl⟩ := Int.eq_ofNat_of_zero_le r0
  obtain ⟨nn, rfl⟩ := Int.eq_ofNat_of_zero_le n0
  obtain ⟨RL, hRL⟩ : ∃ y, recL ⟨(kn : Int), (en : Int), (sn : Int), ⟨(rn : Int), (nn : Int)⟩, v⟩ = y := ⟨_, rfl⟩
  rw [hRL] at hlen HRL ⊢
  clear hRL
  obtain ⟨L1, HL1⟩ : ∃ y, Hid ([] ++ numL kn = y) := ⟨_, Lib.hid rfl⟩
  obtain ⟨L2, HL2⟩ : ∃ y, Hid (L1 ++ numL en = y) := ⟨_, Lib.hid rfl⟩
  obtain ⟨L3, HL3⟩ : ∃ y, Hid (L2 ++ numL sn = y) := ⟨_, Lib.hid rfl⟩
  obtain ⟨L4, HL4⟩ : ∃ y, Hid (L3 ++ numL rn = y) := ⟨_, Lib.hid rfl⟩
  obtain ⟨L5, HL5⟩ : ∃ y, Hid (L4 ++ numL nn = y) := ⟨_, Lib.hid rfl⟩
  have l1 : L1.length ≤ 9 := by rw [← HL1.out, List.nil_append]; exact numL_len kn
  have l2 : L2.length ≤ 18 := by rw [← HL2.out, List.length_append]; have := numL_len en; omega
  have l3 : L3.length ≤ 27 := by rw [← HL3.out, List.length_append]; have := numL_len sn; omega
  have l4 : L4.length ≤ 36 := by rw [← HL4.out, List.length_append]; have := numL_len rn; omega
  have l5 : L5.length ≤ 45 := by rw [← HL5.out, List.length_append]; have := numL_len nn; omega
  have HR5 : Hid (RL = L5 ++ (if (kn : Int) = 2 then valL v else [])) := Lib.hid (by
    rw [HRL.out, ← HL5.out, ← HL4.out, ← HL3.out, ← HL2.out, ← HL1.out]
    simp [natsL])
  have q1 : IntKind.u64.wrap (kn : Int) = (kn : Int) := IntWalk.u64_in _ (by omega)
  have q2 : IntKind.u64.wrap (en : Int) = (en : Int) := IntWalk.u64_in _ (by omega)
  have q3 : IntKind.u64.wrap (sn : Int) = (sn : Int) := IntWalk.u64_in _ (by omega)
  have q4 : IntKind.u64.wrap (rn : Int) = (rn : Int) := IntWalk.u64_in _ (by omega)
  have q5 : IntKind.u64.wrap (nn : Int) = (nn : Int) := IntWalk.u64_in _ (by omega)
  have hw1 : W64 kn := w64_small (by omega)
  have hw2 : W64 en := w64_small (by omega)
  have hw3 : W64 sn := w64_small (by omega)
  have hw4 : W64 rn := w64_small (by omega)
  have hw5 : W64 nn := w64_small (by omega)
  have hb := heap_alloc_new w (.cells #[.int .i64 (kn : Int), .int .i64 (en : Int), .int .i64 (sn : Int), .int .i64 (rn : Int), .int .i64 (nn : Int), .int .i64 v.kind, .slice m.co v.cmds.length m.cc, .slice m.no v.next.length m.nc] 112)
  have kA : Kp Noone w (w.alloc (.cells #[.int .i64 (kn : Int), .int .i64 (en : Int), .int .i64 (sn : Int), .int .i64 (rn : Int), .int .i64 (nn : Int), .int .i64 v.kind, .slice m.co v.cmds.length m.cc, .slice m.no v.next.length m.nc] 112)) := (Kp.refl _ _).alloc _
  have HV := Lib.hid (hv.keep kA)
  have HVAL := Lib.hid hval
  clear k0 k3 e0 e1 s0 s1 r0 r1 n0 n1 hval hv HRL
  go_enter Tryz.func87, Tryz.ntmps87
  go_upto_region 1 with fail
  generalize w.alloc (.cells #[.int .i64 (kn : Int), .int .i64 (en : Int), .int .i64 (sn : Int), .int .i64 (rn : Int), .int .i64 (nn : Int), .int .i64 v.kind, .slice m.co v.cmds.length m.cc, .slice m.no v.next.length m.nc] 112) = wA at *
  generalize hgx : w.heap.size = g at *
  have HKA := Lib.hid kA
  have HX := Lib.hid hb
  have kd : Kp Noone wA wA.drew := (Kp.refl _ _).drew
  have hS : ∀ W, Kp Noone wA W → (W.cell? ⟨g, 0, none⟩ = some (.int .i64 (kn : Int)) ∧ W.cell? ⟨g, 1, none⟩ = some (.int .i64 (en : Int)) ∧ W.cell? ⟨g, 2, none⟩ = some (.int .i64 (sn : Int)) ∧ W.cell? ⟨g, 3, none⟩ = some (.int .i64 (rn : Int))) ∧ W.cell? ⟨g, 4, none⟩ = some (.int .i64 (nn : Int)) ∧ W.cell? ⟨g, 5, none⟩ = some (.int .i64 v.kind) ∧ W.cell? ⟨g, 6, none⟩ = some (.slice m.co v.cmds.length m.cc) ∧ W.cell? ⟨g, 7, none⟩ = some (.slice m.no v.next.length m.nc) := fun W kk => cells_8v (kk.heap HX.out id)
  obtain ⟨⟨z0, z1, z2, z3⟩, z4, z5, z6, z7⟩ := hS wA.drew kd
  have HS := Lib.hid hS
  have HGX := Lib.hid hgx
  clear hb hS kA hgx
  go_region_held3 (fun w' => (w'.cell? ⟨g, 0, none⟩ = some (.int .i64 (kn : Int)) ∧ w'.cell? ⟨g, 1, none⟩ = some (.int .i64 (en : Int)) ∧ w'.cell? ⟨g, 2, none⟩ = some (.int .i64 (sn : Int)) ∧ w'.cell? ⟨g, 3, none⟩ = some (.int .i64 (rn : Int))) ∧ w'.cell? ⟨g, 4, none⟩ = some (.int .i64 (nn : Int)))
    (exact ⟨⟨by assumption, by assumption, by assumption, by assumption⟩, by assumption⟩)
    (first
      | (go_at_call 134; refine (newWriter_n _).mono ?_; rintro e w' ⟨q, rfl, hW⟩; have hW := WrTo.start kd hW; obtain ⟨⟨z0, z1, z2, z3⟩, z4, z5, z6, z7⟩ := HS.out _ hW.kp)
      | (go_at_call 135; (change WrTo _ _ _ _ [] _ at hW); refine (hW.num kn hw1 (by simp)).mono ?_; rintro e w' ⟨rfl, hW⟩; rw [HL1.out] at hW; obtain ⟨⟨z0, z1, z2, z3⟩, z4, z5, z6, z7⟩ := HS.out _ hW.kp)
      | (go_at_call 135; (change WrTo _ _ _ _ L1 _ at hW); refine (hW.num en hw2 (by omega)).mono ?_; rintro e w' ⟨rfl, hW⟩; rw [HL2.out] at hW; obtain ⟨⟨z0, z1, z2, z3⟩, z4, z5, z6, z7⟩ := HS.out _ hW.kp)
      | (go_at_call 135; (change WrTo _ _ _ _ L2 _ at hW); refine (hW.num sn hw3 (by omega)).mono ?_; rintro e w' ⟨rfl, hW⟩; rw [HL3.out] at hW; obtain ⟨⟨z0, z1, z2, z3⟩, z4, z5, z6, z7⟩ := HS.out _ hW.kp)
      | (go_at_call 135; (change WrTo _ _ _ _ L3 _ at hW); refine (hW.num rn hw4 (by omega)).mono ?_; rintro e w' ⟨rfl, hW⟩; rw [HL4.out] at hW; obtain ⟨⟨z0, z1, z2, z3⟩, z4, z5, z6, z7⟩ := HS.out _ hW.kp)
      | (go_at_call 135; (change WrTo _ _ _ _ L4 _ at hW); refine (hW.num nn hw5 (by omega)).mono ?_; rintro e w' ⟨rfl, hW⟩; rw [HL5.out] at hW; obtain ⟨⟨z0, z1, z2, z3⟩, z4, z5, z6, z7⟩ := HS.out _ hW.kp))
  have HW := Lib.hid hW
  have HFIN : Hid (∀ W W' bo c, WrTo wA Noone wA q RL W → Own (Ex Noone W W') W' 5 1 bo RL.length c (bv RL) → Kp Noone W W' → Own (Ex Noone w W') W' 5 1 bo RL.length c (bv RL) ∧ Kp Noone w W') := Lib.hid (fun W W' bo c h1 h2 h3 => by
    have h4 := HKA.out.trans h1.old
    have h5 := h4.size
    exact ⟨h2.mono (fun j hj d => Or.inr ⟨by have := d.none; omega, hj⟩), h4.trans h3⟩)
  clear hW q1 q2 q3 q4 q5 hw1 hw2 hw3 hw4 hw5 l1 l2 l3 l4 kd
  by_cases hk : (kn : Int) = 2
  · have hR : RL = L5 ++ valL v := by rw [HR5.out, if_pos hk]
    obtain ⟨F', hn, hgo⟩ := HW.out.go
    have hwv := writeVal_n wA _ F' q L5 v m hn HV.out HVAL.out (by omega)
    have HGO := Lib.hid hgo
    rw [← hR] at hwv
    rw [hk] at z0
    unfold valV at hwv
    clear hn hgo hk hR
    go_wp2_with fail
    refine hwv.mono ?_
    rintro e w3 ⟨rfl, hw3⟩
    have HW3 := Lib.hid (HGO.out _ _ hw3)
    obtain ⟨F3, hn3, -⟩ := HW3.out.go
    have hby := writerBytes_any F3 q RL w3 hn3.wr (by omega)
    clear hwv hw3 hn3 HGO HW
    go_wp2_with fail
    refine hby.mono ?_
    rintro e w4 ⟨bo, c, rfl, ho, kb⟩
    have HF := Lib.hid (HFIN.out _ _ _ _ HW3.out ho kb)
    clear hby ho kb
    go_wp2_with fail
    go_ret
    exact ⟨bo, c, rfl, HF.out.1, HF.out.2⟩
  · have hR : RL = L5 := by rw [HR5.out, if_neg hk, List.append_nil]
    have hq : ((kn : Int) == 2) = false := beq_eq_false_iff_ne.2 hk
    subst hR
    obtain ⟨F3, hn3, -⟩ := HW.out.go
    have hby := writerBytes_any F3 q RL _ hn3.wr (by omega)
    clear hk hn3
    go_wp2_with fail
    refine hby.mono ?_
    rintro e w4 ⟨bo, c, rfl, ho, kb⟩
    have HF := Lib.hid (HFIN.out _ _ _ _ HW.out ho kb)
    clear hby ho kb
    go_wp2_with fail
    go_ret
    exact ⟨bo, c, rfl, HF.out.1, HF.out.2⟩

end Go.Proofs.YtgbgbokcohfnpaaGreat

/-
  A region that draws its order, with one frame at its end.
-/
namespace Go.Proofs.YtgbgbokcohfnpaaGreat
open Go.RowKit

/-- A region to whose end every order comes with one frame. -/
theorem wp_region_0 {P : Program} {id : Nat} {ops : Array Oper} {b : Bool} {Q : Exit → Act → World → Prop} {a : Act} {w : World} {F : Act} {G : World → Prop}
    (h : (Code.region id ops b).wp P (NoPanic fun e a' w' => e = .normal ∧ a' = F ∧ G w') a w) (k : ∀ w', G w' → Q .normal F w') : (Code.region id ops b).wp P Q a w :=
  Code.wp_mono (fun e a' w' q => by
    obtain ⟨rfl, rfl, hg⟩ := NoPanic.imp e a' w' q
    exact k w' hg) h

end Go.Proofs.YtgbgbokcohfnpaaGreat
