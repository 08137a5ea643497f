/-
  THE WALK of the law 'LinkFull'.
-/
import Derived.Test.YtlpdoefbjhlegaaLinkHead
import Derived.Test.YtlpdoefbjhlegaaRead
namespace Go.Proofs.Ytlpdoefbjhlegaa
open Go.RowKit

attribute [local irreducible] parse numL emitF inF sendF newLS moveF

theorem and_mask (m : Nat) (hm : m ≤ 32) (n : Int) : ∃ k : Nat, k < 2 ^ m ∧ bits .and .i64 n ((2 ^ m - 1 : Nat) : Int) = (k : Int) := by
  have hp : 2 ^ m ≤ 2 ^ 32 := Nat.pow_le_pow_right (by decide) hm
  have hp1 : 0 < 2 ^ m := Nat.two_pow_pos m
  have e1 : (BitVec.ofInt 64 ((2 ^ m - 1 : Nat) : Int)).toNat = 2 ^ m - 1 := by
    rw [BitVec.ofInt_natCast, BitVec.toNat_ofNat]; omega
  refine ⟨(BitVec.ofInt 64 n).toNat % 2 ^ m, Nat.mod_lt _ hp1, ?_⟩
  have hlt := Nat.mod_lt (BitVec.ofInt 64 n).toNat hp1
  simp only [bits]
  show IntKind.i64.wrap (((BitVec.ofInt 64 n) &&& (BitVec.ofInt 64 ((2 ^ m - 1 : Nat) : Int))).toNat : Int) = _
  rw [BitVec.toNat_and, e1, Nat.and_two_pow_sub_one_eq_mod]
  exact IntWalk.i64_in _ (by omega)
theorem and31 (n : Int) : ∃ k : Nat, k < 32 ∧ bits .and .i64 n 31 = (k : Int) := and_mask 5 (by decide) n
theorem and255 (n : Int) : ∃ k : Nat, k < 256 ∧ bits .and .i64 n 255 = (k : Int) := and_mask 8 (by decide) n

theorem bs_byte (w : World) (k : Nat) (hk : k < 256) : BS (w.alloc (.cells #[.int .u8 (k : Int)] 5)) (some ⟨w.heap.size, 0, none⟩) 1 1 [UInt8.ofNat k] := by
  have h := heap_alloc_new w (.cells (bv [UInt8.ofNat k]).toArray 5)
  have e : (bv [UInt8.ofNat k]).toArray = #[.int .u8 (k : Int)] := by
    have : (UInt8.ofNat k).toNat = k := by simp; omega
    simp [bv, U8, this]
  have h2 := BS.ofHeap h rfl (by simp [maxLen])
  rwa [e] at h2

set_option maxRecDepth 100000 in
theorem nil_in (fo : Option Addr) (n cap : Nat) (w : World) : Calls Try.prog 18 #[.pointer none, .slice fo n cap] w fun e w' => e = .returned (.tuple #[.slice none 0 0, .bool false, .int .i64 1]) ∧ w = w' := by
  go_enter Try.func18, Try.ntmps18
  go_wp2_with fail
  go_ret3
  exact ⟨rfl, rfl⟩
set_option maxRecDepth 100000 in
theorem nil_send (fo : Option Addr) (n cap : Nat) (w : World) : Calls Try.prog 13 #[.pointer none, .slice fo n cap] w fun e w' => e = .returned (.int .i64 1) ∧ w = w' := by
  go_enter Try.func13, Try.ntmps13
  go_wp2_with fail
  go_ret
  exact ⟨rfl, rfl⟩
set_option maxRecDepth 100000 in
theorem nil_out (now : Int) (w : World) : Calls Try.prog 15 #[.pointer none, .int .i64 now] w fun e w' => e = .returned (.slice none 0 0) ∧ w = w' := by
  go_enter Try.func15, Try.ntmps15
  go_wp2_with fail
  go_ret
  exact ⟨rfl, rfl⟩
theorem nil_waiting (w : World) : Calls Try.prog 20 #[.pointer none] w fun e w' => e = .returned (.int .i64 0) ∧ w = w' := by
  go_enter Try.func20, Try.ntmps20
  go_wp2_with fail
  go_ret
  exact ⟨rfl, rfl⟩

/-- A row of messages waits at the one end; the other one lies as it did. -/
structure FullR (W : World) (pa pb : Nat) (sb : LS) (P : LS → Prop) (Q : (Nat → Nat) → World → Prop) (lo : Int) (k : Nat) (wr : World) : Prop where
  ex : ∃ col s, Lk col 0 wr pa s ∧ Lk col 5 wr pb sb ∧ Ext W.heap.size (fun c => c ≠ 0) (fun _ => 0) W col wr ∧ Fill s lo k ∧ P s ∧ Q col wr
structure FullC (W : World) (pa pb : Nat) (sb : LS) (P : LS → Prop) (Q : (Nat → Nat) → World → Prop) (lo : Int) (n0 n : Nat) (v : Value) (wr : World) : Prop where
  ex : ∃ k : Nat, v = .int .i64 (k : Int) ∧ k ≤ n ∧ FullR W pa pb sb P Q lo (n0 + k) wr

theorem FullR.send {W : World} {pa pb : Nat} {sb : LS} {P : LS → Prop} {Q : (Nat → Nat) → World → Prop} {lo : Int} {k : Nat} {wr w : World} (h : FullR W pa pb sb P Q lo k wr) (hP : ∀ s d, P s → P (sentLS s d)) (hQ : ∀ B col w col' w', Q col w → Ext B (fun c => c ≠ 0) col w col' w' → Q col' w') (hk : k < 32) (hlo : lo ≤ 1000) (hw : Kp Noone wr w) (fo : Option Addr) (n cap : Nat) (d : List UInt8) (hd : d.length ≤ 65472) (hb : BS w fo n cap d) :
    Calls Try.prog 13 #[.pointer (some ⟨pa, 0, none⟩), .slice fo n cap] w fun e w' => e = .returned (.int .i64 0) ∧ FullR W pa pb sb P Q lo (k + 1) w' := by
  obtain ⟨col, s, a, b, X, hf, hp, hq⟩ := h.ex
  have hX := X.trans (Ext.quiet X.cols hw)
  have hnx : s.next < 1048576 := by have := hf.next; omega
  obtain ⟨e1, e2⟩ := hf.send hk hd hnx
  refine (send_lk W.heap.size col 0 pa s fo n cap d w (a.keep hw) hX.cols hX.size hb hnx).mono ?_
  rw [e1]
  rintro e w1 ⟨col', rfl, x, a'⟩
  exact ⟨rfl, ⟨col', _, a', (b.keep hw).ext x (fun c h d => by unfold S5 at h d; omega), hX.trans (x.mono (fun c h => by unfold S5 at h; omega)), e2, hP s d hp, hQ _ _ _ _ _ (hQ _ _ _ _ _ hq (Ext.quiet X.cols hw)) (x.mono (fun c h => by unfold S5 at h; omega))⟩⟩
theorem FullR.over {W : World} {pa pb : Nat} {sb : LS} {P : LS → Prop} {Q : (Nat → Nat) → World → Prop} {lo : Int} {wr w : World} (h : FullR W pa pb sb P Q lo 32 wr) (hQ : ∀ B col w col' w', Q col w → Ext B (fun c => c ≠ 0) col w col' w' → Q col' w') (hlo : lo ≤ 1000) (hw : Kp Noone wr w) (fo : Option Addr) (n cap : Nat) (d : List UInt8) (hd : d.length ≤ 65472) (hb : BS w fo n cap d) :
    Calls Try.prog 13 #[.pointer (some ⟨pa, 0, none⟩), .slice fo n cap] w fun e w' => e = .returned (.int .i64 64) ∧ FullR W pa pb sb P Q lo 32 w' := by
  obtain ⟨col, s, a, b, X, hf, hp, hq⟩ := h.ex
  have hX := X.trans (Ext.quiet X.cols hw)
  have hnx : s.next < 1048576 := by have := hf.next; omega
  refine (send_lk W.heap.size col 0 pa s fo n cap d w (a.keep hw) hX.cols hX.size hb hnx).mono ?_
  rw [hf.over hd]
  rintro e w1 ⟨col', rfl, x, a'⟩
  exact ⟨rfl, ⟨col', _, a', (b.keep hw).ext x (fun c h d => by unfold S5 at h d; omega), hX.trans (x.mono (fun c h => by unfold S5 at h; omega)), hf, hp, hQ _ _ _ _ _ (hQ _ _ _ _ _ hq (Ext.quiet X.cols hw)) (x.mono (fun c h => by unfold S5 at h; omega))⟩⟩
theorem FullR.wait {W : World} {pa pb : Nat} {sb : LS} {P : LS → Prop} {Q : (Nat → Nat) → World → Prop} {lo : Int} {k : Nat} {w : World} (h : FullR W pa pb sb P Q lo k w) :
    Calls Try.prog 20 #[.pointer (some ⟨pa, 0, none⟩)] w fun e w' => e = .returned (.int .i64 (k : Int)) ∧ w = w' := by
  obtain ⟨col, s, a, b, X, hf, hp, hq⟩ := h.ex
  refine (waiting_lk col 0 pa s w a).mono ?_
  rw [hf.len]
  exact fun _ _ h => h

set_option maxHeartbeats 2000000 in
set_option maxRecDepth 100000 in
theorem linkFull_walk (N : Int) (W : World) :
    Calls Try.prog 6 #[.int .i64 N] W fun e w' => e = .returned (.bool true) ∧ Kp Noone W w' := by
  obtain ⟨K, hK, hN⟩ := and31 N
  go_enter Try.func6, Try.ntmps6
  go_wp2_with fail
  refine (head_any _).mono ?_
  rintro e w0 ⟨rfl, k0⟩
  go_wp2_with fail
  have X0 := Ext.quiet (S := fun c => c ≠ 0) (Cols.zero W.heap.size W) k0
  refine (new_lk W.heap.size _ 0 1 5 _ X0.cols X0.size).mono ?_
  rintro e w1 ⟨pa, c1, rfl, x1, a1⟩
  have X1 := X0.trans (x1.mono (T := fun c => c ≠ 0) (fun c h => by unfold S5 at h; omega))
  clear x1 X0 k0
  go_wp2_with fail
  refine (new_lk W.heap.size c1 5 1 5 _ X1.cols X1.size).mono ?_
  rintro e w2 ⟨pb, c2, rfl, x2, b2⟩
  have a2 := a1.ext x2 (fun c h d => by unfold S5 at h d; omega)
  have X2 := X1.trans (x2.mono (fun c h => by unfold S5 at h; omega))
  have R2 := Lib.hid (FullR.mk (W := W) (pa := pa) (pb := pb) (P := fun s => Unsent s 1 5) (Q := fun _ _ => True) (lo := 1) (k := 0) ⟨c2, _, a2, b2, X2, newLS_fill 1 5, full_unsent, trivial⟩)
  clear x2 X1 a1 X2 a2 b2
  go_wp2_with fail
  go_loopw [5] (fun v wr => FullC W pa pb (newLS 1 5) (fun s => Unsent s 1 5) (fun _ _ => True) 1 0 32 v wr) (fun v _ => 32 - (intOf v).toNat)
  case atStart => exact FullC.mk ⟨0, by rfl, by omega, R2.out⟩
  case round =>
    obtain ⟨k, rfl, hk, hr⟩ := hrel.ex
    clear R2
    by_cases hlt : k < 32
    · have hwu : IntKind.u8.wrap (k : Int) = (k : Int) := by simp [IntKind.wrap, IntKind.bits, IntKind.signed]; omega
      have hwk : IntKind.i64.wrap ((k : Int) + 1) = (k : Int) + 1 := IntWalk.i64_in _ (by omega)
      go_wp2_with fail
      refine (hr.send (fun s d h => h.sent' d) (fun _ _ _ _ _ _ _ => trivial) (by omega) (by omega) ((Kp.refl Noone wr).alloc _) _ _ _ _ (by simp) (bs_byte wr k (by omega))).mono ?_
      rintro e w6 ⟨rfl, hr6⟩
      have R6 := Lib.hid hr6
      clear hr hr6 hN
      go_wp2_with fail
      go_roundw
      case rel => exact FullC.mk ⟨k + 1, by rfl, by omega, R6.out⟩
      case measure => simp [intOf]; omega
    · obtain rfl : k = 32 := by omega
      have hr : FullR W pa pb (newLS 1 5) (fun s => Unsent s 1 5) (fun _ _ => True) 1 32 wr := hr
      clear hlt hk hrel
      go_wp2_with fail
      refine (hr.over (fun _ _ _ _ _ _ _ => trivial) (by omega) ((Kp.refl Noone wr).alloc _) _ _ _ _ (by simp) (bs_byte wr 99 (by omega))).mono ?_
      rintro e w3 ⟨rfl, r3⟩
      go_wp2_with fail
      refine (r3.wait).mono ?_
      rintro e w4 ⟨rfl, rfl⟩
      obtain ⟨col, sa, a3, b3, X3, hf, hu, -⟩ := r3.ex
      clear hr r3
      go_wp2_with fail
      refine (out_lk W.heap.size col 0 pa sa 0 _ a3 X3.cols X3.size (by omega)).mono ?_
      obtain ⟨hl32, hfill⟩ := full_mid hf hu K hK 1 5
      rintro e w4 ⟨fo, fcap, rfl, hfr, x4, a4⟩
      rw [hl32] at hfr ⊢
      have b4 := b3.ext x4 (fun c h d => by unfold S5 at h d; omega)
      have X4 := X3.trans (x4.mono (fun c h => by unfold S5 at h; omega))
      obtain ⟨b, off, xo, xm, xc, hl, rfl, f4'⟩ := hfr.get (k := 0) (by omega)
      have hcap := hfr.2.1
      have hcap2 := hfr.2.2.1
      have FI := Lib.hid hfill
      have I3 := Lib.hid a3.2
      have HFR := Lib.hid hfr
      obtain ⟨g0, f4⟩ : ∃ g, FrAt col w4 b (off + 0) xo xm xc g := ⟨_, f4'⟩
      have hm : g0.length = xm := f4.data.1.len
      rw [Nat.add_zero] at f4
      clear f4' x4 a3 b3 X3 hfill hf hu hfr hl
      go_wp2_with fail
      refine (move_lk W.heap.size col 5 16 pb (newLS 1 5) (some ⟨b, off, none⟩) K fcap ((emitF sa 0).2.take K) none 0 0 [] _ b4 X4.cols X4.size (HFR.out.take K (by omega)) (fun f hf => emitF_short I3.out 0 f (List.mem_of_mem_take hf)) (GotAt.nil _ _ _ _) (by omega) (by simp; omega)).mono ?_
      rintro e w5 ⟨go, gcap, c5, rfl, x5, b5, -⟩
      have a5 := a4.ext x5 (fun c h d => by unfold S5 at h d; omega)
      have f5 := f4.ext x5 (fun d => by unfold S5 at d; omega)
      have X5 := X4.trans (x5.mono (fun c h => by unfold S5 at h; omega))
      clear x5 a4 b4 f4 X4 HFR
      go_wp2_with fail
      refine (out_lk W.heap.size c5 5 pb _ 0 _ b5 X5.cols X5.size (by omega)).mono ?_
      rintro e w6 ⟨fo6, fcap6, rfl, hfr6, x6, b6⟩
      have a6 := a5.ext x6 (fun c h d => by unfold S5 at h d; omega)
      have f6 := f5.ext x6 (fun d => by unfold S5 at d; omega)
      have X6 := X5.trans (x6.mono (fun c h => by unfold S5 at h; omega))
      have I5 := Lib.hid b5.2
      clear x6 a5 b5 f5 X5
      go_wp2_with fail
      refine (move_lk W.heap.size c5 0 16 pa _ fo6 _ fcap6 _ none 0 0 [] _ a6 X6.cols X6.size hfr6 (emitF_short I5.out 0) (GotAt.nil _ _ _ _) (by omega) (by have := emitF_len (s := (moveF (newLS 1 5) ((emitF sa 0).2.take K)).1) 0; have := I5.out.outL; have := I5.out.acksL; simp; omega)).mono ?_
      rintro e w7 ⟨go7, gcap7, c7, rfl, x7, a7, -⟩
      have b7 := b6.ext x7 (fun c h d => by unfold S5 at h d; omega)
      have f7 := f6.ext x7 (fun d => by unfold S5 at d; omega)
      have X7 := X6.trans (x7.mono (fun c h => by unfold S5 at h; omega))
      have s7 := x7.size
      have R7 := Lib.hid (FullR.mk (W := W) (pa := pa) (pb := pb) (P := fun _ => True) (Q := fun c w => FrAt c w b off xo xm xc g0) (lo := 1 + K) (k := 32 - K) ⟨c7, _, a7, b7, X7, FI.out, trivial, f7⟩)
      clear x7 a6 b6 f6 X6 a7 b7 X7 I5 I3 FI hfr6 f7 s7 hr
      obtain ⟨sb, RR⟩ : ∃ sb, Hid (FullR W pa pb sb (fun _ => True) (fun c w => FrAt c w b off xo xm xc g0) (1 + K) (32 - K) w7) := ⟨_, R7⟩
      clear R7
      go_wp2_with fail
      go_loopw [8] (fun v wr => FullC W pa pb sb (fun _ => True) (fun c w => FrAt c w b off xo xm xc g0) (1 + K) (32 - K) K v wr) (fun v _ => K - (intOf v).toNat)
      case atStart => exact FullC.mk ⟨0, by rfl, by omega, RR.out⟩
      case round =>
        obtain ⟨k, rfl, hk, hr⟩ := hrel.ex
        clear RR
        by_cases hlt : k < K
        · have hwu : IntKind.u8.wrap (k : Int) = (k : Int) := by simp [IntKind.wrap, IntKind.bits, IntKind.signed]; omega
          have hwk : IntKind.i64.wrap ((k : Int) + 1) = (k : Int) + 1 := IntWalk.i64_in _ (by omega)
          go_wp2_with fail
          refine (hr.send (fun _ _ _ => trivial) (fun _ _ _ _ _ h x => h.ext x (fun d => d rfl)) (by omega) (by omega) ((Kp.refl Noone wr).alloc _) _ _ _ _ (by simp) (bs_byte wr k (by omega))).mono ?_
          rintro e w6 ⟨rfl, hr6⟩
          have R6 := Lib.hid hr6
          clear hr hr6 hN
          go_wp2_with fail
          go_roundw
          case rel => exact FullC.mk ⟨k + 1, by rfl, by omega, R6.out⟩
          case measure => simp [intOf]; omega
        · obtain rfl : k = K := by omega
          have hr : FullR W pa pb sb (fun _ => True) (fun c w => FrAt c w b off xo xm xc g0) (1 + k) 32 wr := by
            have e : 32 - k + k = 32 := by omega
            rw [e] at hr
            exact hr
          obtain ⟨_, _, -, -, -, -, -, f8⟩ := hr.ex
          have hcell := f8.cell
          have hbl := f8.lt
          clear hrel hlt hk
          go_wp2_with fail
          refine (nil_in xo xm xc _).mono ?_
          rintro e w9 ⟨rfl, rfl⟩
          go_wp2_with fail
          refine (hr.over (fun _ _ _ _ _ h x => h.ext x (fun d => d rfl)) (by omega) ((Kp.refl Noone wr).alloc _) _ _ _ _ (by simp) (bs_byte wr 99 (by omega))).mono ?_
          rintro e w10 ⟨rfl, r10⟩
          go_wp2_with fail
          refine (r10.wait).mono ?_
          rintro e w11 ⟨rfl, rfl⟩
          obtain ⟨_, _, -, -, XE, -, -, -⟩ := r10.ex
          have KE := Lib.hid (XE.kp.mono (T := Noone) (fun j _ c => absurd rfl c))
          clear r10 XE hr
          go_wp2_with fail
          refine (nil_send none 0 0 _).mono ?_
          rintro e w12 ⟨rfl, rfl⟩
          go_wp2_with fail
          refine (nil_out 0 _).mono ?_
          rintro e w13 ⟨rfl, rfl⟩
          go_wp2_with fail
          refine (nil_waiting _).mono ?_
          rintro e w14 ⟨rfl, rfl⟩
          go_wp2_with fail
          go_ret
          exact ⟨rfl, KE.out⟩

/-- The law. -/
theorem linkFull_core {H : Type} {enc : TypeId × Value → H} (W : World) (base : Nat) (v0 : Value) (d0 : DataW H) (p0 : List MemPlace)
    (h0 : DataW.Trod enc Try.prog W 0 (fun _ => true) true 3 v0 d0 p0) (g0 : Value.okWide Try.prog W .any base 3 v0) (_ : ∀ n ∈ DataW.weights Try.prog 3 d0, n ≤ reachBytes) :
    Calls Try.prog 6 #[v0] W fun e w' => e = .returned (.bool true) ∧ Kp Noone W w' := by
  obtain ⟨n, rfl, hn⟩ := arg_int h0 g0
  exact linkFull_walk n W

end Go.Proofs.Ytlpdoefbjhlegaa
