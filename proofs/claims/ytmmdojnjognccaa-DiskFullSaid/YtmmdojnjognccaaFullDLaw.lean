/-
  DiskFull: a sync that finds no room changes nothing.
-/
import Derived.Test.YtmmdojnjognccaaRefSame
import Derived.Test.YtmmdojnjognccaaReadN
namespace Go.Proofs.Ytmmdojnjognccaa
open Go.RowKit

/-! ### The plain law -/

def nB : ByteArray := { data := #[98] }
theorem nAB : nA ≠ nB ∧ nB ≠ nA ∧ nameOk nA = true ∧ nameOk nB = true := by decide +kernel
structure Base (s : DS) (R : Int) : Prop where
  room : s.room = R
  down : s.down = false
  fuse : s.fuse = 0
  steps : s.steps ≤ 100
structure TwoA (s : DS) (a : List UInt8) (sa : Int) (b : List UInt8) (sb : Int) (R : Int) : Prop extends Base s R where
  areas : s.areas = [(nA, ⟨a, sa⟩), (nB, ⟨b, sb⟩)]
structure OneB (s : DS) (b : List UInt8) (sb : Int) (R : Int) : Prop extends Base s R where
  areas : s.areas = [(nB, ⟨b, sb⟩)]
theorem Base.step {s : DS} {R : Int} (h : Base s R) : stepF s = ({ s with fuse := 0, steps := s.steps + 1 }, true) := by
  unfold stepF
  rw [if_neg (by rw [h.fuse]; decide), h.fuse]
  rfl
theorem Base.bars {s : DS} {R : Int} (h : Base s R) {k : ByteArray} (hk : nameOk k = true) {t : Bool} (hg : t = true → alGet k s.areas ≠ none) : barsF s k t = 0 := by
  unfold barsF
  rw [h.down, hk]
  simp
  exact fun c => hg c
theorem two_get {a b : AreaP} : alGet nA [(nA, a), (nB, b)] = some a ∧ alGet nB [(nA, a), (nB, b)] = some b ∧ get0 nA [(nA, a), (nB, b)] = a ∧ get0 nB [(nA, a), (nB, b)] = b := by
  unfold get0
  rw [alGet_cons, if_pos rfl, alGet_cons, if_neg nAB.2.1, alGet_cons, if_pos rfl]
  exact ⟨rfl, rfl, rfl, rfl⟩
theorem two_del {a b : AreaP} : alDel nA [(nA, a), (nB, b)] = [(nB, b)] := by unfold alDel; rw [if_pos rfl]
theorem two_put {a b c : AreaP} : alPut nA c [(nA, a), (nB, b)] = [(nA, c), (nB, b)] ∧ alPut nB c [(nA, a), (nB, b)] = [(nA, a), (nB, c)] := by
  refine ⟨by unfold alPut; rw [if_pos rfl], ?_⟩
  unfold alPut
  rw [if_neg nAB.2.1]
  unfold alPut
  rw [if_pos rfl]
theorem oneB_get {b : AreaP} : alGet nB [(nB, b)] = some b ∧ get0 nB [(nB, b)] = b ∧ ∀ c : AreaP, alPut nB c [(nB, b)] = [(nB, c)] := by
  unfold get0
  rw [alGet_cons, if_pos rfl]
  exact ⟨rfl, rfl, fun c => by unfold alPut; rw [if_pos rfl]⟩
theorem append_big {s : DS} {R : Int} (h : Base s R) {k : ByteArray} (hk : nameOk k = true) (hg : alGet k s.areas = none) (hl : s.areas.length < 64) {d : List UInt8} (hb : 4194304 < d.length) : appendF s k d = (s, 12) := by
  unfold appendF
  rw [if_neg (by rw [h.bars hk (by simp)]; simp), if_neg (fun c => by omega)]
  have : get0 k s.areas = ⟨[], 0⟩ := by unfold get0; rw [hg]; rfl
  rw [this, if_pos (by simp; omega)]
theorem append_new {s : DS} {R : Int} (h : Base s R) {k : ByteArray} (hk : nameOk k = true) (hg : alGet k s.areas = none) (hl : s.areas.length < 64) (hst : s.steps ≤ 90) {d : List UInt8} (hb : ¬ 4194304 < d.length) :
    (appendF s k d).2 = 0 ∧ Base (appendF s k d).1 R ∧ (appendF s k d).1.areas = alPut k ⟨d, 0⟩ s.areas ∧ (appendF s k d).1.steps = s.steps + 1 := by
  unfold appendF
  rw [if_neg (by rw [h.bars hk (by simp)]; simp), if_neg (fun c => by omega)]
  have : get0 k s.areas = ⟨[], 0⟩ := by unfold get0; rw [hg]; rfl
  rw [this, if_neg (by simp; omega), stepF_put, h.step]
  exact ⟨rfl, ⟨h.room, h.down, rfl, by show s.steps + 1 ≤ 100; omega⟩, rfl, rfl⟩
theorem full_start (room : Int) : Base (newF room) (max 0 (min room 4194304)) ∧ (newF room).areas = [] ∧ (newF room).steps = 0 := ⟨⟨rfl, rfl, rfl, by simp [newF]⟩, rfl, rfl⟩
theorem two_start (room : Int) {a b : List UInt8} (ha : ¬ 4194304 < a.length) : (appendF (newF room) nA a).2 = 0 ∧ (appendF (newF room) nA a).1.steps ≤ 1 ∧ ((4194304 < b.length → (appendF (appendF (newF room) nA a).1 nB b).2 = 12) ∧
    (¬ 4194304 < b.length → (appendF (appendF (newF room) nA a).1 nB b).2 = 0 ∧ TwoA (appendF (appendF (newF room) nA a).1 nB b).1 a 0 b 0 (max 0 (min room 4194304)) ∧ (appendF (appendF (newF room) nA a).1 nB b).1.steps ≤ 2)) := by
  obtain ⟨h1, h2, h3⟩ := full_start room
  obtain ⟨g1, g2, g3, g4⟩ := append_new h1 (k := nA) nAB.2.2.1 (by rw [h2]; rfl) (by rw [h2]; simp) (by omega) ha
  rw [h2] at g3
  have hgB : alGet nB (appendF (newF room) nA a).1.areas = none := by rw [g3]; unfold alPut; rw [alGet_cons, if_neg nAB.2.1]; rfl
  have hlB : (appendF (newF room) nA a).1.areas.length < 64 := by rw [g3]; simp [alPut]
  refine ⟨g1, by omega, fun hb => ?_, fun hb => ?_⟩
  · rw [append_big g2 nAB.2.2.2 hgB hlB hb]
  · obtain ⟨e1, e2, e3, e4⟩ := append_new g2 (k := nB) nAB.2.2.2 hgB hlB (by omega) hb
    refine ⟨e1, ⟨e2, ?_⟩, by omega⟩
    rw [e3, g3]
    show alPut nB ⟨b, 0⟩ [(nA, (⟨a, 0⟩ : AreaP))] = _
    unfold alPut
    rw [if_neg nAB.2.1]
    rfl
theorem TwoA.sum {s : DS} {a b : List UInt8} {sa sb R : Int} (h : TwoA s a sa b sb R) : sumF s.areas = sa + sb := by
  rw [h.areas]; simp [sumF]
theorem OneB.sum {s : DS} {b : List UInt8} {sb R : Int} (h : OneB s b sb R) : sumF s.areas = sb := by
  rw [h.areas]; simp [sumF]
theorem TwoA.syncA {s : DS} {a b : List UInt8} {sa sb R : Int} (h : TwoA s a sa b sb R) (hst : s.steps ≤ 90) :
    (R < sb + a.length → syncF s nA = (s, 42)) ∧ (¬ R < sb + a.length → (syncF s nA).2 = 0 ∧ TwoA (syncF s nA).1 a a.length b sb R ∧ (syncF s nA).1.steps = s.steps + 1) := by
  unfold syncF
  rw [if_neg (by rw [h.toBase.bars nAB.2.2.1 (fun _ => by rw [h.areas, two_get.1]; simp)]; simp), h.sum, h.room]
  have hg : get0 nA s.areas = ⟨a, sa⟩ := by rw [h.areas, two_get.2.2.1]
  rw [hg, h.toBase.step]
  refine ⟨fun c => by rw [if_pos (by simp only []; omega)], fun c => ?_⟩
  rw [if_neg (by simp only []; omega), if_neg (by simp)]
  refine ⟨rfl, ⟨⟨h.room, h.down, rfl, by show s.steps + 1 ≤ 100; omega⟩, ?_⟩, rfl⟩
  show alPut nA _ s.areas = _
  rw [h.areas, two_put.1]
theorem TwoA.syncB {s : DS} {a b : List UInt8} {sa sb R : Int} (h : TwoA s a sa b sb R) (hst : s.steps ≤ 90) :
    (R < sa + b.length → syncF s nB = (s, 42)) ∧ (¬ R < sa + b.length → (syncF s nB).2 = 0 ∧ TwoA (syncF s nB).1 a sa b b.length R ∧ (syncF s nB).1.steps = s.steps + 1) := by
  unfold syncF
  rw [if_neg (by rw [h.toBase.bars nAB.2.2.2 (fun _ => by rw [h.areas, two_get.2.1]; simp)]; simp), h.sum, h.room]
  have hg : get0 nB s.areas = ⟨b, sb⟩ := by rw [h.areas, two_get.2.2.2]
  rw [hg, h.toBase.step]
  refine ⟨fun c => by rw [if_pos (by simp only []; omega)], fun c => ?_⟩
  rw [if_neg (by simp only []; omega), if_neg (by simp)]
  refine ⟨rfl, ⟨⟨h.room, h.down, rfl, by show s.steps + 1 ≤ 100; omega⟩, ?_⟩, rfl⟩
  show alPut nB _ s.areas = _
  rw [h.areas, two_put.2]
theorem TwoA.dropA {s : DS} {a b : List UInt8} {sa sb R : Int} (h : TwoA s a sa b sb R) (hst : s.steps ≤ 90) : (dropF s nA).2 = 0 ∧ OneB (dropF s nA).1 b sb R ∧ (dropF s nA).1.steps = s.steps + 1 := by
  unfold dropF
  rw [if_neg (by rw [h.toBase.bars nAB.2.2.1 (fun _ => by rw [h.areas, two_get.1]; simp)]; simp), h.toBase.step, if_neg (by simp)]
  refine ⟨rfl, ⟨⟨h.room, h.down, rfl, by show s.steps + 1 ≤ 100; omega⟩, ?_⟩, rfl⟩
  show alDel nA s.areas = _
  rw [h.areas, two_del]
theorem OneB.cut {s : DS} {b : List UInt8} {R : Int} (h : OneB s b 0 R) (hst : s.steps ≤ 90) {n : Int} (hn : 0 ≤ n ∧ n ≤ b.length) : (cutF s nB n).2 = 0 ∧ OneB (cutF s nB n).1 (b.take n.toNat) 0 R ∧ (cutF s nB n).1.steps = s.steps + 1 := by
  unfold cutF
  have hg : get0 nB s.areas = ⟨b, 0⟩ := by rw [h.areas, oneB_get.2.1]
  rw [if_neg (by rw [h.toBase.bars nAB.2.2.2 (fun _ => by rw [h.areas, oneB_get.1]; simp)]; simp), hg, if_neg (by simp only []; omega), h.toBase.step, if_neg (by simp)]
  refine ⟨rfl, ⟨⟨h.room, h.down, rfl, by show s.steps + 1 ≤ 100; omega⟩, ?_⟩, rfl⟩
  show alPut nB _ s.areas = _
  rw [h.areas, oneB_get.2.2]
  unfold cutA
  have : min (0 : Int) n = 0 := by omega
  simp only [this]
theorem OneB.syncB {s : DS} {b : List UInt8} {sb R : Int} (h : OneB s b sb R) (hst : s.steps ≤ 90) (hl : (b.length : Int) ≤ R) : (syncF s nB).2 = 0 ∧ OneB (syncF s nB).1 b b.length R := by
  unfold syncF
  have hg : get0 nB s.areas = ⟨b, sb⟩ := by rw [h.areas, oneB_get.2.1]
  rw [if_neg (by rw [h.toBase.bars nAB.2.2.2 (fun _ => by rw [h.areas, oneB_get.1]; simp)]; simp), h.sum, h.room, hg, if_neg (by simp only []; omega), h.toBase.step, if_neg (by simp)]
  refine ⟨rfl, ⟨⟨h.room, h.down, rfl, by show s.steps + 1 ≤ 100; omega⟩, ?_⟩⟩
  show alPut nB _ s.areas = _
  rw [h.areas, oneB_get.2.2]

/-! ### The walk -/

attribute [local irreducible] appendF syncF dropF cutF newF sumF imageF
set_option maxHeartbeats 4000000 in
set_option maxRecDepth 100000 in
theorem diskFull_walk (room : Int) (ao : Option Addr) (na ca : Nat) (a : List UInt8) (bo : Option Addr) (nb cb : Nat) (b : List UInt8) (W : World)
    (ha : BS W ao na ca a) (hb : BS W bo nb cb b) (hna : na ≤ 140737488351232) (hnb : nb ≤ 140737488351232) :
    Calls Try.prog 4 #[.int .i64 room, .slice ao na ca, .slice bo nb cb] W fun e w' => e = .returned (.bool true) ∧ Kp Noone W w' := by
  have hla := ha.len
  have hlb := hb.len
  have HA := Lib.hid ha
  have HB := Lib.hid hb
  clear ha hb
  have HKW : Hid (∀ (w : World) (col : Nat → Nat), Ext W.heap.size (fun c => c ≠ 0) (fun _ => 0) W col w → Kp Noone W w) := Lib.hid (fun w col X => X.kp.mono (fun j hj c => absurd rfl c))
  obtain ⟨R, hR⟩ : ∃ R : Int, R = max 0 (min room 4194304) := ⟨_, rfl⟩
  have hR0 : 0 ≤ R ∧ R ≤ 4194304 := by omega
  have HRQ := Lib.hid hR
  clear hR
  go_enter Try.func4, Try.ntmps4
  go_wp2_with fail
  refine (head_any _).mono ?_
  rintro e w1 ⟨rfl, k1⟩
  go_wp2_with fail
  refine (new_dk W.heap.size (fun _ => 0) 0 room w1 (Cols.zero _ _) k1.size).mono ?_
  rintro e w2 ⟨p, c2, rfl, x2, d2⟩
  have X2 := (Ext.quiet (S := fun c => c ≠ 0) (Cols.zero W.heap.size W) k1).trans (x2.mono (T := fun c => c ≠ 0) (fun c h => by unfold S3 at h; omega))
  have h0 := full_start room
  rw [← HRQ.out] at h0
  have hS0 : (newF room).steps ≤ 0 := by rw [h0.2.2]; omega
  clear x2 k1
  go_wp2_with fail
  refine (copy_exact ao na ca a _ (HA.out.keep (HKW.out _ _ X2)) (by omega)).mono ?_
  rintro e w3 ⟨rfl, hw3⟩
  obtain ⟨hb3, k3⟩ := copied2 hw3 hla (by unfold maxLen; omega)
  have X3 := X2.trans (Ext.quiet X2.cols k3)
  have d3 := d2.keep k3
  clear hw3 X2 d2 k3
  go_wp2_with fail
  refine (append_dk W.heap.size c2 0 p _ nA _ na na a _ d3 X3.cols X3.size hb3 (by decide) (by omega)).mono ?_
  rintro e w4 ⟨rfl, c4, x4, d4⟩
  have X4 := X3.trans (x4.mono (T := fun c => c ≠ 0) (fun c h => by unfold S3 at h; omega))
  clear X3 x4 d3 hb3
  by_cases hba : 4194304 < a.length
  · have e1 := append_big h0.1 nAB.2.2.1 (by rw [h0.2.1]; rfl) (by rw [h0.2.1]; simp) hba
    rw [e1]
    have hgt : (na : Int) > 4194304 := by omega
    clear e1
    go_wp2_with fail
    go_ret
    exact ⟨rfl, HKW.out _ _ X4⟩
  · obtain ⟨t1, t2, t3, t4⟩ := two_start room (b := b) hba
    rw [← HRQ.out] at t4
    rw [t1]
    have hngt : ¬ (na : Int) > 4194304 := by omega
    generalize (appendF (newF room) nA a).1 = s1 at *
    clear t1 h0
    go_wp2_with fail
    refine (copy_exact bo nb cb b _ (HB.out.keep (HKW.out _ _ X4)) (by omega)).mono ?_
    rintro e w5 ⟨rfl, hw5⟩
    obtain ⟨hb5, k5⟩ := copied2 hw5 hlb (by unfold maxLen; omega)
    have X5 := X4.trans (Ext.quiet X4.cols k5)
    have d5 := d4.keep k5
    clear hw5 X4 d4 k5
    go_wp2_with fail
    refine (append_dk W.heap.size c4 0 p s1 nB _ nb nb b _ d5 X5.cols X5.size hb5 (by decide) (by omega)).mono ?_
    rintro e w6 ⟨rfl, c6, x6, d6⟩
    have X6 := X5.trans (x6.mono (T := fun c => c ≠ 0) (fun c h => by unfold S3 at h; omega))
    clear X5 x6 d5 hb5
    by_cases hbb : 4194304 < b.length
    · rw [t3 hbb]
      have hgt : (nb : Int) > 4194304 := by omega
      clear t3 t4
      go_wp2_with fail
      go_ret
      exact ⟨rfl, HKW.out _ _ X6⟩
    · obtain ⟨u1, u2, u3⟩ := t4 hbb
      rw [u1]
      generalize (appendF s1 nB b).1 = s2 at *
      clear u1 t3 t4
      have hsm := u2.sum
      have hrm := u2.room
      go_wp2_with fail
      refine (free_dk c6 0 p s2 _ d6).mono ?_
      rw [hsm, hrm]
      rintro e w7 ⟨rfl, k7⟩
      rw [show R - (0 + 0) = R by omega]
      have X7 := X6.trans (Ext.quiet X6.cols k7)
      have d7 := d6.keep k7
      clear X6 d6 k7 hsm hrm
      go_wp2_with fail
      refine (sync_dk W.heap.size c6 0 p s2 nA _ d7 X7.cols X7.size (by decide) (by omega)).mono ?_
      rintro e w8 ⟨rfl, c8, x8, d8⟩
      have X8 := X7.trans (x8.mono (T := fun c => c ≠ 0) (fun c h => by unfold S3 at h; omega))
      clear X7 x8 d7
      have hA := u2.syncA (by omega)
      obtain ⟨sa, s3, e1, hs3, T3, hsa, hst3, hcase⟩ : ∃ (sa : Int) (s3 : DS) (e1 : Nat), syncF s2 nA = (s3, e1) ∧ TwoA s3 a sa b 0 R ∧ (0 ≤ sa ∧ sa ≤ R) ∧ s3.steps ≤ 5 ∧ ((e1 = 0 ∧ (na : Int) ≤ R) ∨ (e1 = 42 ∧ ¬ (na : Int) ≤ R)) := by
        by_cases c : R < 0 + a.length
        · exact ⟨0, s2, 42, hA.1 c, u2, by omega, by omega, Or.inr ⟨rfl, by omega⟩⟩
        · obtain ⟨g1, g2, g3⟩ := hA.2 c
          exact ⟨a.length, _, 0, Prod.ext rfl g1, g2, by omega, Int.le_trans (Int.le_of_eq g3) (by omega), Or.inl ⟨rfl, by omega⟩⟩
      rw [hs3] at d8 ⊢
      simp only [] at d8 ⊢
      clear hA hs3 u2 u3
      go_upto_region 8 with fail
      go_cut [53] from 39 to 52 (fun v wx => v = .bool false ∧ wx = w8)
      case first =>
        rcases hcase with ⟨rfl, c⟩ | ⟨rfl, c⟩
        · go_wp2_with fail
          go_meet
          case rel => exact ⟨by rfl, rfl⟩
        · go_wp2_with fail
          go_meet
          case rel => exact ⟨by rfl, rfl⟩
      case rest =>
        obtain ⟨rfl, rfl⟩ := hcut
        clear hcase
        go_wp2_with fail
        refine (image_dk c8 0 p s3 _ d8).mono ?_
        rintro e w9 ⟨io, ic, rfl, him, k9⟩
        have HC8 := Lib.hid X8.cols
        have X9 := X8.trans (Ext.quiet X8.cols k9)
        have d9 := d8.keep k9
        clear X8 d8 k9
        go_wp2_with fail
        refine (sync_dk W.heap.size c8 0 p s3 nB _ d9 X9.cols X9.size (by decide) (by omega)).mono ?_
        rintro e w10 ⟨rfl, c10, x10, d10⟩
        have X10 := X9.trans (x10.mono (T := fun c => c ≠ 0) (fun c h => by unfold S3 at h; omega))
        have hB := T3.syncB (by omega)
        have him10 := him.kp x10.kp (fun j hz hj c => by rw [cols_new HC8.out hz] at c; unfold S3 at c; omega)
        have hil : (imageF s3).length ≤ 64 := by
          unfold imageF
          rw [List.length_map]
          unfold namesF
          rw [sortN_length, List.length_map]
          exact d9.2.len
        clear X9 x10 d9 him
        by_cases cb : R < sa + b.length
        · rw [hB.1 cb] at d10 ⊢
          simp only [] at d10 ⊢
          clear hB
          have HIM := Lib.hid him10
          have hsm := T3.sum
          have hrm := T3.room
          obtain ⟨v1, v2, v3⟩ := T3.dropA (by omega)
          generalize hL : imageF s3 = L at *
          have HL := Lib.hid hL
          clear hL him10
          go_wp2_with fail
          refine (image_dk c10 0 p s3 _ d10).mono ?_
          rw [HL.out]
          rintro e w11 ⟨io2, ic2, rfl, him2, k11⟩
          have X11 := X10.trans (Ext.quiet X10.cols k11)
          have d11 := d10.keep k11
          have hA1 := (HIM.out.keep k11).as
          have hA2 := him2.as
          clear X10 d10 k11 him2
          generalize L.length = nl at *
          go_wp2_with fail
          refine (refSame_any io2 nl ic2 io nl ic L w11 hA2 hA1 (by omega)).mono ?_
          rintro e w12 ⟨rfl, k12⟩
          have X12 := X11.trans (Ext.quiet X11.cols k12)
          have d12 := d11.keep k12
          clear X11 d11 k12 hA1 hA2
          go_wp2_with fail
          refine (free_dk c10 0 p s3 _ d12).mono ?_
          rw [hsm, hrm]
          rintro e w13 ⟨rfl, k13⟩
          have X13 := X12.trans (Ext.quiet X12.cols k13)
          have d13 := d12.keep k13
          have hnle : ¬ (nb : Int) ≤ R - (sa + 0) := by omega
          clear X12 d12 k13 hsm hrm
          go_wp2_with fail
          refine (drop_dk W.heap.size c10 0 p s3 nA _ d13 X13.cols (by decide) (by omega)).mono ?_
          rw [v1]
          rintro e w14 ⟨rfl, c14, x14, d14⟩
          have X14 := X13.trans (x14.mono (T := fun c => c ≠ 0) (fun c h => by unfold S3 at h; omega))
          generalize (dropF s3 nA).1 = s5 at *
          clear X13 d13 x14 v1
          have hsm := v2.sum
          have hrm := v2.room
          go_wp2_with fail
          refine (free_dk c14 0 p s5 _ d14).mono ?_
          rw [hsm, hrm]
          rintro e w15 ⟨rfl, k15⟩
          rw [show R - 0 = R by omega]
          have X15 := X14.trans (Ext.quiet X14.cols k15)
          have d15 := d14.keep k15
          clear X14 d14 k15 hsm hrm
          obtain ⟨z1, z2, z3⟩ := v2.cut (by omega) (n := min (nb : Int) R) (by omega)
          go_wp2_with fail
          refine (cut_dk W.heap.size c14 0 p s5 nB (min (nb : Int) R) _ d15 X15.cols X15.size (by decide) (by omega)).mono ?_
          rw [z1]
          rintro e w16 ⟨rfl, c16, x16, d16⟩
          have X16 := X15.trans (x16.mono (T := fun c => c ≠ 0) (fun c h => by unfold S3 at h; omega))
          generalize (cutF s5 nB (min (nb : Int) R)).1 = s6 at *
          clear X15 d15 x16 z1
          obtain ⟨y1, y2⟩ := z2.syncB (by omega) (by rw [List.length_take]; omega)
          go_wp2_with fail
          refine (sync_dk W.heap.size c16 0 p s6 nB _ d16 X16.cols X16.size (by decide) (by omega)).mono ?_
          rw [y1]
          rintro e w17 ⟨rfl, c17, x17, d17⟩
          have X17 := X16.trans (x17.mono (T := fun c => c ≠ 0) (fun c h => by unfold S3 at h; omega))
          generalize (syncF s6 nB).1 = s7 at *
          clear X16 d16 x17 y1
          have hsm := y2.sum
          have hrm := y2.room
          have hge : R - (((b.take (min (nb : Int) R).toNat).length : Nat) : Int) ≥ 0 := by rw [List.length_take]; omega
          generalize (b.take (min (nb : Int) R).toNat).length = bl at *
          go_wp2_with fail
          refine (free_dk c17 0 p s7 _ d17).mono ?_
          rw [hsm, hrm]
          rintro e w18 ⟨rfl, k18⟩
          go_wp2_with fail
          go_ret
          exact ⟨congrArg (fun x => Ending.returned (Value.bool x)) (decide_eq_true (p := (bl : Int) ≤ R) (by omega)), HKW.out _ _ (X17.trans (Ext.quiet X17.cols k18))⟩
        · obtain ⟨g1, g2, g3⟩ := hB.2 cb
          rw [g1]
          have hsm := g2.sum
          have hrm := g2.room
          have hge : R - (sa + (b.length : Int)) ≥ 0 := by omega
          generalize (syncF s3 nB).1 = s5 at *
          clear hB g1 him10
          go_wp2_with fail
          refine (free_dk c10 0 p s5 _ d10).mono ?_
          rw [hsm, hrm]
          rintro e w18 ⟨rfl, k18⟩
          go_wp2_with fail
          go_ret
          exact ⟨congrArg (fun x => Ending.returned (Value.bool x)) (decide_eq_true (p := sa + (nb : Int) ≤ R) (by omega)), HKW.out _ _ (X10.trans (Ext.quiet X10.cols k18))⟩

set_option maxRecDepth 100000 in
theorem diskFull_core {H : Type} {enc : TypeId × Value → H} (W : World) (base : Nat) (v0 : Value) (d0 : DataW H) (p0 : List MemPlace) (v1 : Value) (d1 : DataW H) (p1 : List MemPlace) (v2 : Value) (d2 : DataW H) (p2 : List MemPlace)
    (h0 : DataW.Trod enc Try.prog W 0 (fun _ => true) true 3 v0 d0 p0) (h1 : DataW.Trod enc Try.prog W 0 (fun _ => true) true 22 v1 d1 p1) (h2 : DataW.Trod enc Try.prog W 0 (fun _ => true) true 22 v2 d2 p2)
    (g0 : Value.okWide Try.prog W .any base 3 v0) (g1 : Value.okWide Try.prog W .any base 22 v1) (g2 : Value.okWide Try.prog W .any base 22 v2)
    (_ : ∀ n ∈ d0.weights Try.prog 3, n ≤ reachBytes) (w1 : ∀ n ∈ d1.weights Try.prog 22, n ≤ reachBytes) (w2 : ∀ n ∈ d2.weights Try.prog 22, n ≤ reachBytes) :
    Calls Try.prog 4 #[v0, v1, v2] W fun e w' => e = .returned (.bool true) ∧ Kp Noone W w' := by
  obtain ⟨room, rfl, -⟩ := arg_int h0 g0
  obtain ⟨ao, na, ca, a, rfl, ha, hca⟩ := arg_bytesR h1 g1 w1
  obtain ⟨bo, nb, cb, b, rfl, hb, hcb⟩ := arg_bytesR h2 g2 w2
  have := ha.le
  have := hb.le
  exact diskFull_walk room ao na ca a bo nb cb b W ha hb (by omega) (by omega)

end Go.Proofs.Ytmmdojnjognccaa
