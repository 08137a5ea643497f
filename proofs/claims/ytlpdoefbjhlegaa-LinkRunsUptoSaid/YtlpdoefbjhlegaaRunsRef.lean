/-
  THE WALKS of the document's end: New, has, Low, Same.
-/
import Derived.Test.YtlpdoefbjhlegaaRunsPlain
import Derived.Test.YtlpdoefbjhlegaaLinkPush
import Derived.Test.YtlpdoefbjhlegaaReadInts
import Derived.Laws.ResultCell
namespace Go.Proofs.Ytlpdoefbjhlegaa
open Go.RowKit

theorem clamp_any (x hi : Int) (h : 1 ≤ hi) (w : World) : Calls Try.prog 23 #[.int .i64 x, .int .i64 hi] w fun e w' => e = .returned (.int .i64 (max 1 (min x hi))) ∧ w = w' := by
  by_cases c1 : x < 1
  · have e : Hid (max 1 (min x hi) = 1) := Lib.hid (by omega)
    rw [e.out]
    go_enter Try.func23, Try.ntmps23
    go_wp2_with fail
    go_ret
    exact ⟨rfl, rfl⟩
  · by_cases c2 : hi < x
    · have e : Hid (max 1 (min x hi) = hi) := Lib.hid (by omega)
      rw [e.out]
      go_enter Try.func23, Try.ntmps23
      go_wp2_with fail
      go_ret
      exact ⟨rfl, rfl⟩
    · have e : Hid (max 1 (min x hi) = x) := Lib.hid (by omega)
      rw [e.out]
      go_enter Try.func23, Try.ntmps23
      go_wp2_with fail
      go_ret
      exact ⟨rfl, rfl⟩

/-- Where the document's end lies. -/
structure RR where
  oo : Option Addr
  oc : Nat
  ko : Option Addr
  kc : Nat
  co : Option Addr
  cc : Nat
  hs : Hs
def linkV (m : RL) (r : RR) : Value := .agg #[.int .i64 m.boot, .int .i64 m.retry, .int .i64 m.next, .slice r.oo m.out.length r.oc, .slice r.ko (m.acks.length * 2) r.kc, .int .i64 m.peer, .int .i64 m.below, .slice r.co m.came.length r.cc]
/-- A row in blocks of one kind. -/
structure RowP (P : Nat → Prop) (w : World) (ao : Option Addr) (n cap : Nat) (xs : List Value) : Prop where
  le : n ≤ cap
  max : cap ≤ maxLen
  row : Row w ao xs
  here : xs ≠ [] → ∀ a, ao = some a → P a.block
theorem RowP.kp {P S : Nat → Prop} {w w' : World} {ao : Option Addr} {n cap : Nat} {xs : List Value} (h : RowP P w ao n cap xs) (k : Kp S w w') (hd : ∀ j, P j → ¬ S j) : RowP P w' ao n cap xs := by
  refine ⟨h.le, h.max, ?_, h.here⟩
  by_cases hx : xs = []
  · subst hx; exact Row.nil _ _
  · exact h.row.kp k (fun a ha => hd _ (h.here hx a ha))
theorem RowP.mono {P Q : Nat → Prop} {w : World} {ao : Option Addr} {n cap : Nat} {xs : List Value} (h : RowP P w ao n cap xs) (hq : ∀ j, j < w.heap.size → P j → Q j) : RowP Q w ao n cap xs := by
  refine ⟨h.le, h.max, h.row, fun hx a ha => ?_⟩
  obtain ⟨b, hb1, hb2⟩ := h.row.lt hx
  rw [ha] at hb1
  cases hb1
  exact hq _ hb2 (h.here hx _ ha)
theorem RowP.nil (P : Nat → Prop) (w : World) (ao : Option Addr) : RowP P w ao 0 0 [] := ⟨Nat.le_refl _, by simp [maxLen], Row.nil _ _, fun h => absurd rfl h⟩
theorem Own.rowP {F : Nat → Prop} {w : World} {e sz : Nat} {ao : Option Addr} {n cap : Nat} {xs : List Value} (h : Own F w e sz ao n cap xs) : RowP F w ao n cap xs := by
  refine ⟨h.2.1, h.2.2.1, h.row, fun hx a ha => ?_⟩
  rcases h with ⟨e1, e2, e3, e4⟩
  rcases e4 with h0 | ⟨g, off, cur, h0, hg, e5⟩
  · exfalso
    apply hx
    have : n = 0 := by omega
    subst this
    exact List.eq_nil_of_length_eq_zero (by simpa using e1)
  · rw [h0] at ha
    cases ha
    exact hg
structure RefAt (P : Nat → Prop) (w : World) (m : RL) (r : RR) : Prop where
  outs : RowP P w r.oo m.out.length r.oc (outC m.out r.hs)
  hlen : r.hs.length = m.out.length
  data : ∀ j (h1 : j < r.hs.length) (h2 : j < m.out.length), DataAt P w r.hs[j] m.out[j].data
  acks : RowP P w r.ko (m.acks.length * 2) r.kc (ackC m.acks)
  came : RowP P w r.co m.came.length r.cc (m.came.map (Value.int .i64))
theorem RefAt.kp {P S : Nat → Prop} {w w' : World} {m : RL} {r : RR} (h : RefAt P w m r) (k : Kp S w w') (hd : ∀ j, P j → ¬ S j) : RefAt P w' m r :=
  ⟨h.outs.kp k hd, h.hlen, fun j a b => (h.data j a b).kp k hd, h.acks.kp k hd, h.came.kp k hd⟩
theorem RefAt.mono {P Q : Nat → Prop} {w : World} {m : RL} {r : RR} (h : RefAt P w m r) (hq : ∀ j, j < w.heap.size → P j → Q j) : RefAt Q w m r :=
  ⟨h.outs.mono hq, h.hlen, fun j a b => (h.data j a b).mono hq, h.acks.mono hq, h.came.mono hq⟩
/-- Bounds. -/
structure RefOk (m : RL) : Prop where
  boot : 1 ≤ m.boot ∧ m.boot ≤ 1099511627776
  retry : 1 ≤ m.retry ∧ m.retry ≤ 1048576
  next : 1 ≤ m.next ∧ m.next ≤ 1048576
  outN : ∀ h ∈ m.out, 1 ≤ h.num ∧ h.num < m.next ∧ h.data.length ≤ 65472 ∧ -9223372036854775808 ≤ h.time ∧ h.time ≤ 9223372036854775807
  outL : m.out.length ≤ 64
  acksN : ∀ a ∈ m.acks, (1 ≤ a.1 ∧ a.1 ≤ 1099511627776) ∧ 1 ≤ a.2 ∧ a.2 ≤ 1099511627776
  acksL : m.acks.length ≤ 64
  peer : 0 ≤ m.peer ∧ m.peer ≤ 1099511627776
  below : 0 ≤ m.below ∧ m.below ≤ 1099511627776
  came : ∀ k ∈ m.came, k ≤ 1099511627776
  cameL : m.came.length ≤ 1048576
theorem Sim.ok {s : LS} {m : RL} (h : Sim s m) (hi : LinkInv s) (hl : m.came.length ≤ 1048576) : RefOk m := by
  have h0 := hi.ok
  exact ⟨by rw [h.boot]; exact h0.boot, by rw [h.retry]; exact h0.retry, by rw [h.next]; exact h0.next, by rw [h.out, h.next]; exact h0.outN, by rw [h.out]; exact h0.outL, by rw [h.acks]; exact h0.acksN, by rw [h.acks]; exact h0.acksL, by rw [h.peer]; exact h0.peer, h.below, h.came, hl⟩

/-- What a call of the document's end answers. -/
def RefTo (P : Nat → Prop) (w : World) (m' : RL) (r' : RR) (w' : World) : Prop := Kp Noone w w' ∧ RefAt (fun k => P k ∨ (w.heap.size ≤ k ∧ k < w'.heap.size)) w' m' r'

theorem info_link : (Try.prog.info? 29).map (·.size) = some 8 := by kernel_rfl
set_option maxRecDepth 100000 in
theorem newR_any (boot retry : Int) (w : World) : Calls Try.prog 10 #[.int .i64 boot, .int .i64 retry] w fun e w' => e = .returned (linkV (newR boot retry) ⟨none, 0, none, 0, none, 0, []⟩) ∧ Kp Noone w w' := by
  go_enter Try.func10, Try.ntmps10
  go_wp2_with fail
  refine (clamp_any boot 1099511627776 (by omega) _).mono ?_
  rintro e w1 ⟨rfl, rfl⟩
  go_wp2_with fail
  refine (clamp_any retry 1048576 (by omega) _).mono ?_
  rintro e w1 ⟨rfl, rfl⟩
  go_wp2_with fail
  exact bodyPost_ret (v := linkV (newR boot retry) ⟨none, 0, none, 0, none, 0, []⟩) (results_cell_row (ty := 29) rfl _ _ w.heap.size _ _ _ _ rfl (heap_alloc_new w _) Try.underlying29 rfl info_link) rfl ⟨rfl, (Kp.refl _ _).alloc _⟩

/-- Is it in the list? -/
theorem has_any (ao : Option Addr) (n cap : Nat) (xs : List Int) (k : Int) (w : World) (hx : IS w ao n cap xs) (hn : n ≤ 9223372036854775807) : Calls Try.prog 34 #[.slice ao n cap, .int .i64 k] w fun e w' => e = .returned (.bool (xs.contains k)) ∧ w = w' := by
  have HX := Lib.hid hx
  obtain ⟨v, hv⟩ : ∃ v, Hid (xs.contains k = v) := ⟨_, Lib.hid rfl⟩
  rw [hv.out]
  go_enter Try.func34, Try.ntmps34
  go_wp2_with fail
  go_loop [8] (fun v => ∃ j : Nat, v = .int .i64 (j : Int) ∧ j ≤ n ∧ (xs.take j).contains k = false) (fun v => n - (intOf v).toNat)
  case atStart => exact ⟨0, by rfl, by omega, by simp⟩
  case round =>
    obtain ⟨j, rfl, hj, hno⟩ := hrel
    by_cases hlt : j < n
    · obtain ⟨b, off, hl, rfl, hbl, hc⟩ := HX.out.at hlt
      have hwj : IntKind.i64.wrap ((j : Int) + 1) = (j : Int) + 1 := IntWalk.i64_in _ (by omega)
      by_cases heq : xs[j] = k
      · have HR : Hid (xs.contains k = true) := Lib.hid (List.contains_iff_mem.2 (heq ▸ List.getElem_mem hl))
        have he : (xs[j] == k) = true := by simpa using heq
        clear hno heq
        go_wp2_with fail
        go_ret
        exact ⟨by rw [← hv.out, HR.out]; rfl, rfl⟩
      · have he : (xs[j] == k) = false := by simpa using heq
        have HN : Hid ((xs.take (j + 1)).contains k = false) := Lib.hid (by
          rw [List.take_succ_eq_append_getElem hl]
          refine Bool.eq_false_iff.2 (fun c => ?_)
          rw [List.contains_iff_mem, List.mem_append] at c
          rcases c with c | c
          · have := List.contains_iff_mem.2 c; rw [hno] at this; cases this
          · simp at c; exact heq c.symm)
        clear hno heq
        go_wp2_with fail
        go_round
        case rel => exact ⟨j + 1, by rfl, by omega, HN.out⟩
        case measure => simp [intOf]; omega
    · obtain rfl : j = n := by omega
      rw [List.take_of_length_le (by rw [HX.out.len]; exact Nat.le_refl _)] at hno
      have HN := Lib.hid hno
      clear hno
      go_wp2_with fail
      go_ret
      exact ⟨by rw [← hv.out, HN.out]; rfl, rfl⟩

theorem RowP.is {P : Nat → Prop} {w : World} {ao : Option Addr} {n cap : Nat} {xs : List Int} (h : RowP P w ao n cap (xs.map (Value.int .i64))) (hl : xs.length = n) : IS w ao n cap xs := ⟨hl, h.le, h.max, h.row⟩
def linkC (m : RL) (r : RR) : Array Value := #[.int .i64 m.boot, .int .i64 m.retry, .int .i64 m.next, .slice r.oo m.out.length r.oc, .slice r.ko (m.acks.length * 2) r.kc, .int .i64 m.peer, .int .i64 m.below, .slice r.co m.came.length r.cc]

set_option maxRecDepth 100000 in
theorem low_any (P : Nat → Prop) (m : RL) (r : RR) (w : World) (h : RefAt P w m r) (hok : RefOk m) : Calls Try.prog 33 #[linkV m r] w fun e w' => e = .returned (.int .i64 (lowR m)) ∧ Kp Noone w w' := by
  have hB := heap_alloc_new w (.cells (linkC m r) 29)
  have kA : Kp Noone w (w.alloc (.cells (linkC m r) 29)) := (Kp.refl _ _).alloc _
  have his := (h.came.kp kA (fun _ _ c => c)).is rfl
  obtain ⟨⟨q0, q1, q2, q3⟩, ⟨q4, q5, q6, q7⟩, qf⟩ := cells_eight hB
  have hcl := hok.cameL
  have hbe := hok.below
  have HC := Lib.hid hok.came
  have KA := Lib.hid kA
  have HI := Lib.hid his
  clear hB kA his h hok
  obtain ⟨LW, hLW⟩ : ∃ v, Hid (lowR m = v) := ⟨_, Lib.hid rfl⟩
  rw [hLW.out]
  unfold linkV
  unfold linkC at *
  go_enter Try.func33, Try.ntmps33
  go_wp2_with fail
  generalize w.alloc (.cells #[.int .i64 m.boot, .int .i64 m.retry, .int .i64 m.next, .slice r.oo m.out.length r.oc, .slice r.ko (m.acks.length * 2) r.kc, .int .i64 m.peer, .int .i64 m.below, .slice r.co m.came.length r.cc] 29) = wA at *
  go_loop [3] (fun v => ∃ x : Int, v = .int .i64 x ∧ m.below ≤ x ∧ x ≤ 1099511627776 ∧ ∀ k, m.below < k → k ≤ x → hasR m k = true) (fun v => (1099511627777 - intOf v).toNat)
  case atStart => exact ⟨m.below, rfl, Int.le_refl _, hbe.2, fun k a b => by omega⟩
  case round =>
    obtain ⟨x, rfl, hx1, hx2, hx3⟩ := hrel
    have HX3 := Lib.hid hx3
    clear hx3
    have hw1 : IntKind.i64.wrap (x + 1) = x + 1 := IntWalk.i64_in _ (by omega)
    go_wp2_with fail
    refine (has_any r.co m.came.length r.cc m.came (x + 1) wA HI.out (by omega)).mono ?_
    rintro e w2 ⟨rfl, rfl⟩
    cases hc : m.came.contains (x + 1) with
    | true =>
      have hle := HC.out _ (List.contains_iff_mem.1 hc)
      have HH : Hid (∀ k, m.below < k → k ≤ x + 1 → hasR m k = true) := Lib.hid (fun k a b => by
        by_cases c : k ≤ x
        · exact HX3.out k a c
        · obtain rfl : k = x + 1 := by omega
          exact hc)
      clear hc
      go_wp2_with fail
      go_round
      case rel => exact ⟨x + 1, rfl, by omega, hle, HH.out⟩
      case measure => simp only [intOf]; omega
    | false =>
      have HL : Hid (x = LW) := Lib.hid (by
        rw [← hLW.out]
        exact (sweepTo_eq ⟨hx1, HX3.out, hc⟩ hbe.1 hx2).symm)
      clear hc
      go_wp2_with fail
      go_ret
      exact ⟨by rw [← HL.out]; rfl, KA.out⟩

theorem frsSame_any (ao : Option Addr) (n cap : Nat) (bo : Option Addr) (n2 bcap : Nat) (ls : List (List UInt8)) (w : World) (ha : BSS w ao n cap ls) (hb : BSS w bo n2 bcap ls) (hn : n ≤ 1048576) : Calls Try.prog 16 #[.slice ao n cap, .slice bo n2 bcap] w fun e w' => e = .returned (.bool true) ∧ Kp Noone w w' := by
  have h1 := ha.len
  have h2 := hb.len
  obtain rfl : n = n2 := by omega
  have HA := Lib.hid ha
  have HB := Lib.hid hb
  clear ha hb h2
  go_enter Try.func16, Try.ntmps16
  go_wp2_with fail
  go_loopw [13] (fun v wr => ∃ j : Nat, v = .int .i64 (j : Int) ∧ j ≤ n ∧ Kp Noone w wr) (fun v _ => n - (intOf v).toNat)
  case atStart => exact ⟨0, by rfl, by omega, Kp.refl _ _⟩
  case round =>
    obtain ⟨j, rfl, hj, kr⟩ := hrel
    by_cases hlt : j < n
    · obtain ⟨b, off, xo, xm, xc, hl, rfl, hbl, hc1, hb1⟩ := HA.out.at hlt
      obtain ⟨b2, off2, yo, ym, yc, hl2, rfl, hbl2, hc2, hb2⟩ := HB.out.at hlt
      have hc1' := kr.cell hc1 id
      have hc2' := kr.cell hc2 id
      have hwj : IntKind.i64.wrap ((j : Int) + 1) = (j : Int) + 1 := IntWalk.i64_in _ (by omega)
      have e1 := hb1.len
      have e2 := hb1.le
      have e3 := hb1.max
      have hxm : xm ≤ 9223372036854775807 := by unfold maxLen at e3; omega
      have B1 := Lib.hid (hb1.keep kr)
      have B2 := Lib.hid (hb2.keep kr)
      clear hc1 hc2 hb1 hb2 e1 e2 e3
      have he : (ls[j] == ls[j]) = true := beq_self_eq_true _
      have hS : ∀ q, Calls Try.prog 19 #[.slice xo xm xc, .slice yo ym yc] (wr.drewN q) fun e w'' => e = .returned (.bool true) ∧ ∃ m, w'' = (wr.drewN q).drewN m := fun q => by
        have h := same_any xo yo xm xc ym yc _ _ (wr.drewN q) (B1.out.keep ((Kp.refl _ _).drewN q)) (B2.out.keep ((Kp.refl _ _).drewN q)) hxm
        rwa [he] at h
      go_wp2_with fail
      go_quiet ((go_at_call 19; exact Calls.quiet_of (hS _)))
      have kq := kr.drewN nq
      go_wp2_with fail
      go_roundw
      case rel => exact ⟨j + 1, by rfl, by omega, kq⟩
      case measure => simp [intOf]; omega
    · obtain rfl : j = n := by omega
      go_wp2_with fail
      go_ret
      exact ⟨rfl, kr⟩

end Go.Proofs.Ytlpdoefbjhlegaa
