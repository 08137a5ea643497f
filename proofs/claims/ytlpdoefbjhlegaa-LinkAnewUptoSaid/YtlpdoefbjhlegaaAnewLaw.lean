/-
  THE WALK of the law 'LinkAnew'.
-/
import Derived.Test.YtlpdoefbjhlegaaLinkOnce
import Derived.Test.YtlpdoefbjhlegaaLinkPush
import Derived.Test.YtlpdoefbjhlegaaFullLaw
namespace Go.Proofs.Ytlpdoefbjhlegaa
open Go.RowKit

theorem emit_out (s : LS) (now : Int) : (emitF s now).1.out = s.out.map (updH s.retry now) := rfl
attribute [local irreducible] parse numL emitF inF sendF newLS moveF

/-- All was acknowledged: k messages so far. -/
structure Idle (a b : LS) (k : Nat) : Prop where
  out : a.out = []
  acks : a.acks = []
  next : a.next = k + 1
  boot : a.boot = 3
  retry : a.retry = 2
  backs : b.acks = []
  bout : b.out = []
  bpeer : b.peer ≤ 3
theorem idle_new : Idle (newLS 3 2) (newLS 1 2) 0 := by
  unfold newLS
  exact ⟨rfl, rfl, rfl, rfl, rfl, rfl, rfl, by decide⟩
theorem Idle.round {a b : LS} {k : Nat} (h : Idle a b k) (ia : LinkInv a) (ib : LinkInv b) (hk : k < 1000) (d : List UInt8) (hd : d.length ≤ 65472) (now : Int) (hn : 0 ≤ now ∧ now ≤ 100000) :
    sendF a d = (sentLS a d, 0) ∧ (moveF (emitF (sentLS a d) now).1 (emitF (moveF b (emitF (sentLS a d) now).2).1 now).2).2 = [] ∧
      Idle (moveF (emitF (sentLS a d) now).1 (emitF (moveF b (emitF (sentLS a d) now).2).1 now).2).1 (emitF (moveF b (emitF (sentLS a d) now).2).1 now).1 (k + 1) := by
  have e1 := sendF_fits hd (full_no (s := a) (by rw [h.out]; simp))
  have hx : a.next < 1048576 := by have := h.next; omega
  have i1 := sendF_inv ia d hx
  rw [e1] at i1
  replace i1 : LinkInv (sentLS a d) := i1
  have ho : (sentLS a d).out = [⟨a.next, d, false, 0⟩] := by simp [sentLS, h.out]
  have hak : (sentLS a d).acks = [] := h.acks
  obtain ⟨-, t⟩ := round_trip (now := now) (now' := now) i1 ib hak h.backs h.bout (by show b.peer ≤ a.boot; rw [h.boot]; exact h.bpeer) (by rw [ho]; intro x hx; simp at hx; subst hx; exact skip_unsent rfl) (by omega)
  have hm : (emitF (moveF b (emitF (sentLS a d) now).2).1 now).2 = (moveF b (emitF (sentLS a d) now).2).1.acks.map ackFr := by
    have : (moveF b (emitF (sentLS a d) now).2).1.out = [] := by
      have h1 := t.bout
      rw [emit_out, List.map_eq_nil_iff] at h1
      exact h1
    rw [emit_idle this]
  refine ⟨e1, ?_, t.out, t.acks, ?_, t.boot.trans h.boot, t.retry.trans h.retry, t.backs, t.bout, ?_⟩
  · rw [hm, move_acks _ _ (moveF_inv _ ib).acksN (emitF_inv i1 (by omega)).inc]
  · rw [t.next]
    show a.next + 1 = _
    have := h.next
    omega
  · have := t.bpeer
    have hb : (sentLS a d).boot = 3 := h.boot
    omega

/-- .. and the other end begins anew. -/
theorem anew_end {a : LS} (h : LinkInv a) (hu : Unsent a 3 2) : (moveF (newLS 2 2) (emitF a 5000).2).2 = a.out.map (·.data) ∧
    (moveF (emitF a 5000).1 (emitF (moveF (newLS 2 2) (emitF a 5000).2).1 5000).2).1.out = [] := by
  obtain ⟨g, t⟩ := round_trip (now := 5000) (now' := 5000) h (newLS_inv 2 2) hu.acks (by unfold newLS; rfl) (by unfold newLS; rfl) (by rw [hu.boot]; unfold newLS; decide) (fun x hx => skip_unsent (hu.sent x hx)) (by omega)
  refine ⟨?_, t.out⟩
  rw [g]
  congr 1
  rw [List.filter_eq_self]
  intro o ho
  rw [newLS_rcv _ _ (by rw [hu.boot]; omega)]
  have := (h.outN o ho).1
  rw [decide_eq_false (by omega)]; rfl

structure AnewA (W : World) (pa pb : Nat) (n : Nat) (v : Value) (wr : World) : Prop where
  ex : ∃ (k : Nat) (col : Nat → Nat) (a b : LS), v = .int .i64 (k : Int) ∧ k ≤ n ∧ Lk col 0 wr pa a ∧ Lk col 5 wr pb b ∧ Ext W.heap.size (fun c => c ≠ 0) (fun _ => 0) W col wr ∧ Idle a b k

structure AnewS (W : World) (pa pb : Nat) (n : Nat) (wv v : Value) (wr : World) : Prop where
  ex : ∃ (k : Nat) (col : Nat → Nat) (a : LS) (wo : Option Addr) (wn wcap : Nat), v = .int .i64 (k : Int) ∧ k ≤ n ∧ k ≤ 32 ∧ wv = .slice wo wn wcap ∧ Lk col 0 wr pa a ∧ Lk col 10 wr pb (newLS 2 2) ∧ Ext W.heap.size (fun c => c ≠ 0) (fun _ => 0) W col wr ∧
    GotAt col 22 wr wo wn wcap (a.out.map (·.data)) ∧ Unsent a 3 2 ∧ a.next ≤ 300 + k

set_option maxHeartbeats 2000000 in
set_option maxRecDepth 100000 in
theorem linkAnew_walk (N : Int) (ao : Option Addr) (n cap : Nat) (ls : List (List UInt8)) (W : World) (hb : BSS W ao n cap ls) (hn : n ≤ 1048576) (hT : ls.flatten.length ≤ 1048576) :
    Calls Try.prog 7 #[.int .i64 N, .slice ao n cap] W fun e w' => e = .returned (.bool true) ∧ Kp Noone W w' := by
  obtain ⟨K, hK, hN⟩ := and255 N
  obtain ⟨i0, hi, hz0, hz1, hz2⟩ := info_parts info_bytesL
  obtain ⟨j0, hj, hj0, hj1, hj2⟩ := info_parts info_u8
  have HB := Lib.hid hb
  clear hb
  go_enter Try.func7, Try.ntmps7
  go_wp2_with fail
  refine (head_any _).mono ?_
  rintro e w0 ⟨rfl, k0⟩
  go_wp2_with fail
  have X0 := Ext.quiet (S := fun c => c ≠ 0) (Cols.zero W.heap.size W) k0
  refine (new_lk W.heap.size _ 0 3 2 _ X0.cols X0.size).mono ?_
  rintro e w1 ⟨pa, c1, rfl, x1, a1⟩
  have X1 := X0.trans (x1.mono (T := fun c => c ≠ 0) (fun c h => by unfold S5 at h; omega))
  clear x1 X0 k0
  go_wp2_with fail
  refine (new_lk W.heap.size c1 5 1 2 _ X1.cols X1.size).mono ?_
  rintro e w2 ⟨pb, c2, rfl, x2, b2⟩
  have a2 := a1.ext x2 (fun c h d => by unfold S5 at h d; omega)
  have X2 := X1.trans (x2.mono (fun c h => by unfold S5 at h; omega))
  have R2 := Lib.hid (AnewA.mk (W := W) (n := K) ⟨0, c2, _, _, rfl, Nat.zero_le _, a2, b2, X2, idle_new⟩)
  clear x2 X1 a1 X2 a2 b2
  go_wp2_with fail
  go_loopw [7] (fun v wr => AnewA W pa pb K v wr) (fun v _ => K - (intOf v).toNat)
  case atStart => exact R2.out
  case round =>
    obtain ⟨k, col, a, b, rfl, hk, ha, hb, X, hid⟩ := hrel.ex
    clear R2
    by_cases hlt : k < K
    · have hwu : IntKind.u8.wrap (k : Int) = (k : Int) := by simp [IntKind.wrap, IntKind.bits, IntKind.signed]; omega
      have hwk : IntKind.i64.wrap ((k : Int) + 1) = (k : Int) + 1 := IntWalk.i64_in _ (by omega)
      have hw10 : IntKind.i64.wrap (10 * (k : Int)) = 10 * (k : Int) := IntWalk.i64_in _ (by omega)
      obtain ⟨e1, e2, hid2⟩ := hid.round ha.2 hb.2 (by omega) [UInt8.ofNat k] (by simp) (10 * (k : Int)) (by omega)
      have hnx : a.next < 1048576 := by have := hid.next; omega
      have E2 := Lib.hid e2
      have ID2 := Lib.hid hid2
      have kA := (Kp.refl Noone wr).alloc (.cells #[.int .u8 (k : Int)] 5)
      have XA := X.trans (Ext.quiet X.cols kA)
      have haA := ha.keep kA
      have hbA := hb.keep kA
      clear e2 hid2 hid X ha hb
      go_wp2_with fail
      refine (send_lk W.heap.size col 0 pa a _ 1 1 [UInt8.ofNat k] _ haA XA.cols XA.size (bs_byte wr k (by omega)) hnx).mono ?_
      rw [e1]
      rintro e w3 ⟨c3, rfl, x3, a3⟩
      have b3 := hbA.ext x3 (fun c h d => by unfold S5 at h d; omega)
      have X3 := XA.trans (x3.mono (fun c h => by unfold S5 at h; omega))
      clear x3 haA hbA XA kA e1
      go_wp2_with fail
      refine (out_lk W.heap.size c3 0 pa _ (10 * (k : Int)) _ a3 X3.cols X3.size (by omega)).mono ?_
      rintro e w4 ⟨fo, fcap, rfl, hfr, x4, a4⟩
      have b4 := b3.ext x4 (fun c h d => by unfold S5 at h d; omega)
      have X4 := X3.trans (x4.mono (fun c h => by unfold S5 at h; omega))
      have I3 := Lib.hid a3.2
      clear x4 a3 b3 X3
      go_wp2_with fail
      refine (move_lk W.heap.size c3 5 16 pb _ fo _ fcap _ none 0 0 [] _ b4 X4.cols X4.size hfr (emitF_short I3.out _) (GotAt.nil _ _ _ _) (by omega) (by have := emitF_len (s := sentLS a [UInt8.ofNat k]) (10 * (k : Int)); have := I3.out.outL; have := I3.out.acksL; simp; omega)).mono ?_
      rintro e w5 ⟨go, gcap, c5, rfl, x5, b5, -⟩
      have a5 := a4.ext x5 (fun c h d => by unfold S5 at h d; omega)
      have X5 := X4.trans (x5.mono (fun c h => by unfold S5 at h; omega))
      clear x5 a4 b4 X4 hfr
      go_wp2_with fail
      refine (out_lk W.heap.size c5 5 pb _ (10 * (k : Int)) _ b5 X5.cols X5.size (by omega)).mono ?_
      rintro e w6 ⟨fo6, fcap6, rfl, hfr6, x6, b6⟩
      have a6 := a5.ext x6 (fun c h d => by unfold S5 at h d; omega)
      have X6 := X5.trans (x6.mono (fun c h => by unfold S5 at h; omega))
      have I5 := Lib.hid b5.2
      clear x6 a5 b5 X5
      go_wp2_with fail
      refine (move_lk W.heap.size c5 0 16 pa _ fo6 _ fcap6 _ none 0 0 [] _ a6 X6.cols X6.size hfr6 (emitF_short I5.out _) (GotAt.nil _ _ _ _) (by omega) (by have := emitF_len (s := (moveF b (emitF (sentLS a [UInt8.ofNat k]) (10 * (k : Int))).2).1) (10 * (k : Int)); have := I5.out.outL; have := I5.out.acksL; simp; omega)).mono ?_
      rintro e w7 ⟨go7, gcap7, c7, rfl, x7, a7, -⟩
      have b7 := b6.ext x7 (fun c h d => by unfold S5 at h d; omega)
      have X7 := X6.trans (x7.mono (fun c h => by unfold S5 at h; omega))
      have R7 := Lib.hid (AnewA.mk (W := W) (n := K) ⟨k + 1, c7, _, _, by rfl, by omega, a7, b7, X7, ID2.out⟩)
      clear x7 a6 b6 X6 a7 b7 X7 I5 I3 hfr6 hrel
      go_wp2_with fail
      go_roundw
      case rel => exact R7.out
      case measure => simp [intOf]; omega
    · obtain rfl : k = K := by omega
      have U0 : Unsent a 3 2 := ⟨hid.acks, hid.boot, hid.retry, by rw [hid.out]; simp⟩
      have ho0 := hid.out
      have hn0 := hid.next
      clear hid hb hrel
      go_wp2_with fail
      refine (new_lk W.heap.size col 10 2 2 _ X.cols X.size).mono ?_
      rintro e w3 ⟨pb, c3, rfl, x3, b3⟩
      have a3 := ha.ext x3 (fun c h d => by unfold S5 at h d; omega)
      have X3 := X.trans (x3.mono (fun c h => by unfold S5 at h; omega))
      clear x3 X ha
      go_wp2_with fail
      have R4 := fun o : Obj => AnewS.mk (W := W) (pa := pa) (pb := pb) (n := n) (wv := .slice (some ⟨w3.heap.size, 0, none⟩) 0 0) (v := .int .i64 0) (wr := w3.alloc o) ⟨0, c3, a, _, _, _, by rfl, by omega, by omega, rfl, a3.keep ((Kp.refl Noone w3).alloc o), b3.keep ((Kp.refl Noone w3).alloc o), X3.trans (Ext.quiet X3.cols ((Kp.refl Noone w3).alloc o)), by rw [ho0]; exact GotAt.nil _ _ _ _, U0, by omega⟩
      have HR4 := Lib.hid R4
      clear R4 a3 b3 X3 U0 ho0 hn0
      go_loopw [8, 9] (fun wv v wr => AnewS W pa pb n wv v wr) (fun _ v _ => n - (intOf v).toNat)
      case atStart => exact HR4.out _
      case round =>
        obtain ⟨k, col, a, wo, wn, wcap, rfl, hk, hk2, rfl, ha, hb, X, hg, hu, hnx⟩ := hrel.ex
        clear HR4
        by_cases hgo : k < n ∧ k < 32
        · obtain ⟨hlt, h32⟩ := hgo
          obtain ⟨b, off, xo, xm, xc, hl, rfl, hbl, hcellW, hbs⟩ := HB.out.at hlt
          have kr : Kp Noone W wr := X.kp.mono (fun j _ c => absurd rfl c)
          have hcell := kr.cell hcellW id
          have hxm : xm ≤ 1048576 := by have h1 := hbs.len; have h2 := getElem_le_flatten ls k hl; omega
          have hwu : IntKind.u8.wrap (k : Int) = (k : Int) := by simp [IntKind.wrap, IntKind.bits, IntKind.signed]; omega
          have hwk : IntKind.i64.wrap ((k : Int) + 1) = (k : Int) + 1 := IntWalk.i64_in _ (by omega)
          have kA : Kp Noone wr (wr.alloc (.cells #[.int .u8 (k : Int), .int .u8 9] 5)) := (Kp.refl _ _).alloc _
          have hrow := ((hbs.keep kr).keep kA).row
          have hln : (bv ls[k]).length = xm * 1 := by rw [length_bv, hbs.len, Nat.mul_one]
          have hod : Own (fun j => j = wr.heap.size) (wr.alloc (.cells #[.int .u8 (k : Int), .int .u8 9] 5)) 5 1 (some ⟨wr.heap.size, 0, none⟩) 2 2 [.int .u8 (k : Int), .int .u8 9] :=
            Own.fresh rfl (heap_alloc_new wr (.cells #[.int .u8 (k : Int), .int .u8 9] 5)) rfl (by simp [maxLen])
          have hcA := kA.cell hcell id
          have HL := Lib.hid hbs.len
          have hnew : ∀ j, wr.heap.size ≤ j → col j = 0 := fun j hj => Classical.byContradiction fun d => by have := X.cols j d; omega
          have sA := kA.size
          clear hcellW hbs
          go_wp2_with (at_builtin; refine wpList_append_gen _ rfl (.tmp 54) (.tmp 58) 31 rfl 5 j0 (.int .u8 0) 1 1 Try.underlying31 hj hj0 hj1 hj2 rfl (some ⟨wr.heap.size, 0, none⟩) 2 2 rfl xo xm xc rfl _ _ hod (bv ls[k]) hln hrow (bv_one _) (by omega) (by unfold maxLen; omega) ?_)
          intro ao' cap' w5 ho k5
          have k05 : Kp Noone wr w5 := kA.fin k5 (fun j hj => Or.inr (by subst hj; exact Nat.le_refl _))
          have hbvD : [.int .u8 (k : Int), .int .u8 9] ++ bv ls[k] = bv ([UInt8.ofNat k, 9] ++ ls[k]) := by
            have h1 : (UInt8.ofNat k).toNat = k := by simp; omega
            simp [bv, U8, h1]
          have ho : Own (Ex (fun j => j = wr.heap.size) (wr.alloc (.cells #[.int .u8 (k : Int), .int .u8 9] 5)) w5) w5 5 1 ao' (2 + xm) cap' (bv ([UInt8.ofNat k, 9] ++ ls[k])) := by rw [← hbvD]; exact ho
          have hdo : Own (fun j => wr.heap.size ≤ j ∧ col j = 0) w5 5 1 ao' (2 + xm) cap' (bv ([UInt8.ofNat k, 9] ++ ls[k])) := ho.mono (fun j hj d => by
            have : wr.heap.size ≤ j := by rcases d with d | d <;> omega
            exact ⟨this, hnew j this⟩)
          have hDl : ([UInt8.ofNat k, 9] ++ ls[k]).length = 2 + xm := by simp [HL.out]; omega
          generalize [UInt8.ofNat k, 9] ++ ls[k] = D at *
          have HDO := Lib.hid hdo
          have a5 := ha.keep k05
          have b5 := hb.keep k05
          have X5 := X.trans (Ext.quiet X.cols k05)
          have g5 := hg.keep k05
          have z5 := k05.size
          have z0 := X.size
          have hol := ha.2.outL
          clear hod hrow hln hcA hcell ho k5 hbvD hdo ha hb X hg kA sA k05
          go_wp2_with fail
          refine (copy_exact ao' (2 + xm) cap' D w5 HDO.out.bs (by omega)).mono ?_
          rintro e w6 ⟨rfl, hw6⟩
          obtain ⟨hb6, k6⟩ := copied2 hw6 hDl (by unfold maxLen; omega)
          have hd6 := HDO.out.keep k6
          have a6 := a5.keep k6
          have b6 := b5.keep k6
          have X6 := X5.trans (Ext.quiet X5.cols k6)
          have g6 := g5.keep k6
          have z6 := k6.size
          clear hw6 HDO a5 b5 X5 g5 k6
          go_wp2_with fail
          refine (send_lk W.heap.size col 0 pa a _ _ _ D w6 a6 X6.cols X6.size hb6 (by omega)).mono ?_
          rintro e w7 ⟨c7, rfl, x7, a7⟩
          have b7 := b6.ext x7 (fun c h d => by unfold S5 at h d; omega)
          have X7 := X6.trans (x7.mono (fun c h => by unfold S5 at h; omega))
          have g7 := g6.ext X6.cols (by omega) x7 (by unfold S5; omega) (by unfold S5; omega)
          have hd7 : Own (fun j => wr.heap.size ≤ j ∧ c7 j = 0) w7 5 1 ao' (2 + xm) cap' (bv D) :=
            (hd6.mono (G := fun j => wr.heap.size ≤ j ∧ c7 j = 0) (fun j hj d => ⟨d.1, (x7.old j hj).trans d.2⟩)).kp x7.kp (fun j d q => by
              by_cases hj : j < w6.heap.size
              · rw [x7.old j hj] at d; rw [d.2] at q; unfold S5 at q; omega
              · have : col j = 0 := Classical.byContradiction fun y => by have := X6.cols j y; omega
                rw [this] at q; unfold S5 at q; omega)
          have z7 := x7.size
          have hso := sendF_out a D
          have hsn := sendF_next a D
          have hu7 := hu.send D
          have hlt7 := sendF_lt a D
          clear x7 a6 b6 X6 g6 hd6 hb6
          by_cases her : (sendF a D).2 = 0
          · rw [if_pos her] at hso
            have e0 : (((sendF a D).2 : Nat) : Int) = 0 := by rw [her]; rfl
            rw [e0]
            obtain ⟨hs, hhs, hown, hdat⟩ := g7.parts
            have kal : Kp Noone w7 (w7.alloc (.cells #[.slice ao' (2 + xm) cap'] 31)) := (Kp.refl _ _).alloc _
            have hwn : wn ≤ 1000 := by
              have h1 := g7.1
              rw [List.length_map] at h1
              omega
            go_wp2_with (at_builtin; refine wpList_append_gen _ rfl (.tmp 65) (.tmp 67) 39 rfl 31 i0 (.slice none 0 0) 1 24 Try.underlying39 hi hz0 hz1 hz2 rfl wo wn wcap rfl (some ⟨w7.heap.size, 0, none⟩) 1 1 rfl _ _ (hown.keep kal) [.slice ao' (2 + xm) cap'] rfl (Row.ofHeap (heap_alloc_new w7 _)) (by intro u hu; simp at hu; subst hu; rfl) (by omega) (by unfold maxLen; omega) ?_)
            intro wo' wcap' w8 ho8 k8
            rw [← hDl] at ho8 hd7 k8
            obtain ⟨c8, g8, P8⟩ := GotAt.push (z := wr.heap.size) g7 X7.cols X7.size z0 (by omega) (by omega) hd7 hs hhs hdat ho8 k8
            have a8 := P8.lk a7 (fun d h => by unfold S5 at h; omega)
            have b8 := P8.lk b7 (fun d h => by unfold S5 at h; omega)
            have X8 := P8.ext (by omega) z0 X7
            rw [← hso] at g8
            have R8 := Lib.hid (AnewS.mk (n := n) (v := .int .i64 ((k + 1 : Nat) : Int)) ⟨k + 1, c8, _, wo', wn + 1, wcap', by rfl, by omega, by omega, rfl, a8, b8, X8, g8, hu7, by omega⟩)
            clear g8 P8 a8 b8 X8 ho8 k8 kal hown hdat g7 a7 b7 X7 hd7 hso hsn hu7
            go_wp2_with fail
            go_roundw
            case rel => exact R8.out
            case measure => simp [intOf]; omega
          · have e0 : ((((sendF a D).2 : Nat) : Int) == 0) = false := by simpa using her
            rw [if_neg her, List.append_nil] at hso
            rw [← hso] at g7
            have R8 := Lib.hid (AnewS.mk (n := n) (v := .int .i64 ((k + 1 : Nat) : Int)) ⟨k + 1, c7, _, wo, wn, wcap, by rfl, by omega, by omega, rfl, a7, b7, X7, g7, hu7, by omega⟩)
            generalize (sendF a D).2 = er at *
            clear g7 a7 b7 X7 hd7 hso hsn hu7
            go_wp2_with fail
            go_roundw
            case rel => exact R8.out
            case measure => simp [intOf]; omega
        · have hse : k = n ∨ (k < n ∧ k = 32) := by omega
          have g0 := hg
          have hwn := g0.1
          rw [List.length_map] at hwn
          have UA := Lib.hid hu
          have HW := Lib.hid hwn
          clear hgo hrel g0 hwn hu
          rcases hse with rfl | ⟨hse, rfl⟩
          all_goals (
            go_wp2_with fail
            refine (out_lk W.heap.size col 0 pa a 5000 _ ha X.cols X.size (by omega)).mono ?_
            rintro e w4 ⟨fo, fcap, rfl, hfr, x4, a4⟩
            have b4 := hb.ext x4 (fun c h d => by unfold S5 at h d; omega)
            have g4 := hg.ext X.cols (by omega) x4 (by unfold S5; omega) (by unfold S5; omega)
            have X4 := X.trans (x4.mono (fun c h => by unfold S5 at h; omega))
            have I3 := Lib.hid ha.2
            obtain ⟨q1, q2⟩ := anew_end ha.2 UA.out
            have Q2 := Lib.hid q2
            clear x4 ha hb X hg q2
            go_wp2_with fail
            refine (move_lk W.heap.size col 10 16 pb (newLS 2 2) fo _ fcap _ none 0 0 [] _ b4 X4.cols X4.size hfr (emitF_short I3.out _) (GotAt.nil _ _ _ _) (by omega) (by have := emitF_len (s := a) 5000; have := I3.out.outL; have := I3.out.acksL; simp; omega)).mono ?_
            rw [q1, List.nil_append, List.length_map, HW.out]
            rintro e w5 ⟨go, gcap, c5, rfl, x5, b5, r5⟩
            have a5 := a4.ext x5 (fun c h d => by unfold S5 at h d; omega)
            have g5 := g4.ext X4.cols (by omega) x5 (by unfold S5; omega) (by unfold S5; omega)
            have X5 := X4.trans (x5.mono (fun c h => by unfold S5 at h; omega))
            clear x5 a4 b4 X4 hfr g4 q1
            go_wp2_with fail
            refine (out_lk W.heap.size c5 10 pb _ 5000 _ b5 X5.cols X5.size (by omega)).mono ?_
            rintro e w6 ⟨fo6, fcap6, rfl, hfr6, x6, b6⟩
            have a6 := a5.ext x6 (fun c h d => by unfold S5 at h d; omega)
            have g6 := g5.ext X5.cols (by omega) x6 (by unfold S5; omega) (by unfold S5; omega)
            have r6 := r5.ext X5.cols (by omega) x6 (by unfold S5; omega) (by unfold S5; omega)
            have X6 := X5.trans (x6.mono (fun c h => by unfold S5 at h; omega))
            have I5 := Lib.hid b5.2
            clear x6 a5 b5 X5 g5 r5 b6
            go_wp2_with fail
            refine (move_lk W.heap.size c5 0 26 pa _ fo6 _ fcap6 _ none 0 0 [] _ a6 X6.cols X6.size hfr6 (emitF_short I5.out _) (GotAt.nil _ _ _ _) (by omega) (by have := emitF_len (s := (moveF (newLS 2 2) (emitF a 5000).2).1) 5000; have := I5.out.outL; have := I5.out.acksL; simp; omega)).mono ?_
            rintro e w7 ⟨go7, gcap7, c7, rfl, x7, a7, -⟩
            have g7 := g6.ext X6.cols (by omega) x7 (by unfold S5; omega) (by unfold S5; omega)
            have r7 := r6.ext X6.cols (by omega) x7 (by unfold S5; omega) (by unfold S5; omega)
            have X7 := X6.trans (x7.mono (fun c h => by unfold S5 at h; omega))
            clear x7 a6 X6 g6 r6 hfr6
            go_wp2_with fail
            refine (once_any go wn gcap (a.out.map (·.data)) wo wn wcap (a.out.map (·.data)) _ r7.bss g7.bss (List.Perm.refl _) (by have := I3.out.outL; have := HW.out; omega) (fun x hx => by
              obtain ⟨o, ho, rfl⟩ := List.mem_map.1 hx
              have := (I3.out.outN o ho).2.2.1
              omega)).mono ?_
            rintro e w8 ⟨rfl, k8⟩
            have a8 := a7.keep k8
            have KE := Lib.hid ((X7.kp.mono (T := Noone) (fun j _ c => absurd rfl c)).trans k8)
            clear X7 g7 r7 k8 a7
            go_wp2_with fail
            refine (waiting_lk c7 0 pa _ _ a8).mono ?_
            rw [Q2.out]
            rintro e w9 ⟨rfl, rfl⟩
            go_wp2_with fail
            go_ret
            exact ⟨rfl, KE.out⟩)

/-- The law. -/
theorem linkAnew_core {H : Type} {enc : TypeId × Value → H} (W : World) (base : Nat) (v0 : Value) (d0 : DataW H) (p0 : List MemPlace) (v1 : Value) (d1 : DataW H) (p1 : List MemPlace)
    (h0 : DataW.Trod enc Try.prog W 0 (fun _ => true) true 3 v0 d0 p0) (h1 : DataW.Trod enc Try.prog W 0 (fun _ => true) true 39 v1 d1 p1)
    (g0 : Value.okWide Try.prog W .any base 3 v0) (g1 : Value.okWide Try.prog W .any base 39 v1) (hk : Rows.uptoBulkAll [d0, d1] ≤ 1048576) :
    Calls Try.prog 7 #[v0, v1] W fun e w' => e = .returned (.bool true) ∧ Kp Noone W w' := by
  obtain ⟨N, rfl, -⟩ := arg_int h0 g0
  obtain ⟨bo, m, bcap, ms, rfl, hb2, hc2⟩ := arg_bss h1 g1
  simp only [Rows.uptoBulkAll] at hk
  exact linkAnew_walk N bo m bcap ms W hb2 (by omega) (by omega)

end Go.Proofs.Ytlpdoefbjhlegaa
