/-
  The texts AccOpen, AccFresh, AccInv in one: what the claim reaches of them.
-/
import Derived.Test.YtgbgbokcohfnpaaGreatP27
import Derived.Test.YtgbgbokcohfnpaaGreatP28
import Derived.Test.YtgbgbokcohfnpaaGreatP13
/-
  THE WALK of acceptor.Open.
-/
namespace Go.Proofs.YtgbgbokcohfnpaaGreat
open Go.RowKit

theorem DataP.ext9 {B : Nat} {S : Nat → Prop} {col col' : Nat → Nat} {w w' : World} {ao : Option Addr} {n cap : Nat} {l : List UInt8} (h : DataP (fun j => col j = 0) w ao n cap l) (e : Ext B S col w col' w') (h0 : ¬ S 0) : DataP (fun j => col' j = 0) w' ao n cap l :=
  ((h.mono (Q := fun j => col j = 0 ∧ j < w.heap.size) (fun j hj d => ⟨d, hj⟩)).kp e.kp (fun j _ d s => by rw [d.1] at s; exact h0 s)).mono (fun j _ d => (e.old j d.2).trans d.1)
/-- Records as a slice of them lies in memory. -/
structure RecB (P : Nat → Prop) (w : World) (ro : Option Addr) (n : Nat) (ds : List (List UInt8)) : Prop where
  len : ds.length = n
  at9 : ∀ k (hk : k < ds.length), ∃ (b off : Nat) (x : Int) (xo : Option Addr) (xm xc : Nat), ro = some ⟨b, off, none⟩ ∧ (P b ∧ b < w.heap.size) ∧ w.cell? ⟨b, off + k * 2, none⟩ = some (.int .i64 x) ∧ w.cell? ⟨b, off + k * 2 + 1, none⟩ = some (.slice xo xm xc) ∧ DataP P w xo xm xc ds[k]
  small : ∀ d ∈ ds, d.length ≤ 140737488355328
theorem RecB.ext {B : Nat} {S : Nat → Prop} {col col' : Nat → Nat} {w w' : World} {ro : Option Addr} {n : Nat} {ds : List (List UInt8)} (h : RecB (fun j => col j = 0) w ro n ds) (e : Ext B S col w col' w') (h0 : ¬ S 0) : RecB (fun j => col' j = 0) w' ro n ds :=
  ⟨h.len, fun i hi => by
    obtain ⟨b, off, x, xo, xm, xc, h1, h2, h3, h4, h5⟩ := h.at9 i hi
    have hn : ¬ S (col b) := by rw [h2.1]; exact h0
    exact ⟨b, off, x, xo, xm, xc, h1, ⟨(e.old b h2.2).trans h2.1, Nat.lt_of_lt_of_le h2.2 e.size⟩, e.kp.cell h3 hn, e.kp.cell h4 hn, h5.ext9 e h0⟩, h.small⟩
theorem RecB.keep {P : Nat → Prop} {w w' : World} {ro : Option Addr} {n : Nat} {ds : List (List UInt8)} (h : RecB P w ro n ds) (k : Kp Noone w w') : RecB P w' ro n ds :=
  ⟨h.len, fun i hi => by
    obtain ⟨b, off, x, xo, xm, xc, h1, h2, h3, h4, h5⟩ := h.at9 i hi
    exact ⟨b, off, x, xo, xm, xc, h1, ⟨h2.1, Nat.lt_of_lt_of_le h2.2 k.size⟩, k.cell h3 id, k.cell h4 id, h5.keep k⟩, h.small⟩
/-- What Open leaves. -/
structure AOpTo (B c : Nat) (col : Nat → Nat) (w : World) (lq : Nat) (R : Option AcS × Nat) (e : Ending) (w' : World) : Prop where
  ex : ∃ col', Ext B (SA c) col w col' w' ∧ ((∃ e0, R = (none, e0) ∧ e = .returned (.tuple #[.pointer none, .int .i64 (e0 : Int)])) ∨ ∃ a q, R = (some a, 0) ∧ e = .returned (.tuple #[.pointer (some ⟨q, 0, none⟩), .int .i64 0]) ∧ w.heap.size ≤ q ∧ AcAt c col' w' q lq a)
def openT (ep fl : Int) : Option AcS → Option AcS × Nat
  | none => (none, 26)
  | some a => (some (openEA a ep fl), 0)
theorem openA_eq (ds : List (List UInt8)) (ep fl : Int) (h : ¬ (ep < 0 ∨ fl < 0 ∨ 1099511627776 < ep ∨ 1099511627776 < fl)) : openA ds ep fl = openT ep fl (replayRs (enterA 0 0) ds) := by
  unfold openA
  rw [if_neg h]
  cases replayRs (enterA 0 0) ds <;> rfl
set_option maxHeartbeats 2000000 in
set_option maxRecDepth 100000 in
theorem enter_b (B c : Nat) (col : Nat → Nat) (w : World) (q lq : Nat) (ep fl : Int) {u0 u1 u2 u3 u4 : Value} (hb : w.heap[q]? = some (.cells #[u0, u1, u2, u3, u4, .pointer (some ⟨lq, 0, none⟩)] 108 (0, 0))) (hqc : col q = c) (hc : Cols B w col) (hB : B ≤ w.heap.size) (_hc0 : c ≠ 0) :
    Calls Tryz.prog 61 #[.pointer (some ⟨q, 0, none⟩), .int .i64 ep, .int .i64 fl] w fun e w' => e = .returned (.tuple #[]) ∧ AcTo B c col w q lq (enterA ep fl) w' := by
  have hq := (Array.getElem?_eq_some_iff.1 hb).1
  have kA : Kp Noone w (w.alloc (.map #[] 0)) := (Kp.refl _ _).alloc _
  have hbA := kA.heap hb id
  have hm := map_new w
  have hsA : (w.alloc (.map #[] 0)).heap.size = w.heap.size + 1 := by simp
  obtain ⟨x0, x1, x2, x3, x4, x5⟩ := cells_6v hbA
  have xf := frz hbA
  have xf0 := xf 0
  have xf1 := xf 1
  have xf2 := xf 2
  have xf3 := xf 3
  have xf4 := xf 4
  have hfs := five_set (p := .int .i64 ep) (q := .int .i64 fl) (r := .int .i64 0) (s := .int .i64 0) (t := .map (some w.heap.size)) hbA
  have HF : Hid (AcTo B c col w q lq (enterA ep fl) (putS (w.alloc (.map #[] 0)) q (.int .i64 ep) (.int .i64 fl) (.int .i64 0) (.int .i64 0) (.map (some w.heap.size)))) := Lib.hid (by
    have hs := hfs.2.size
    have kk : Kp (fun j => SA c (col j)) w _ := (kA.none (S := fun j => SA c (col j))).trans' (hfs.2) (fun j _ e => by subst e; rw [hqc]; exact Or.inl rfl)
    refine ⟨⟨_, Ext.one hc kk w.heap.size (c + 1) (Nat.le_refl _) (by omega) hB (Or.inr (Or.inl rfl)), w.heap.size, [], hfs.1, ?_, hm.kp hfs.2 (by omega), if_pos rfl, List.Perm.refl _, fun p hp => by cases hp⟩⟩
    rw [if_neg (by omega)]
    exact hqc)
  clear hb hfs kA hm hc xf x0 x1 x2 x3 x4 x5 xf0 xf1 xf2 xf3 xf4
  have hmm := @run_makeMap Tryz.prog
  go_enter Tryz.func61, Tryz.ntmps61
  go_wp2_with (refine wpList_store_st rfl (.tmp 11) (.tmp 10) rfl q (.int .i64 ep) (.int .i64 fl) (.int .i64 0) (.int .i64 0) (.map (some w.heap.size)) (by rfl) (by rfl) (by simp [Value.oneCell']) hbA ?_)
  go_end0
  exact ⟨rfl, HF.out⟩
theorem up_replay {a : AcS} (h : Up9 a.votes) (x : RecR) : Up9 (replayA a x).votes := by
  unfold replayA
  split
  · exact h
  · have h2 : Up9 (if a.epoch < x.epoch then enterA x.epoch 0 else a).votes := by
      split
      · exact List.Pairwise.nil
      · exact h
    generalize (if a.epoch < x.epoch then enterA x.epoch 0 else a) = a1 at *
    have h1 : Up9 (promA a1 x.bal).votes := by
      unfold promA
      split <;> exact h2
    generalize promA a1 x.bal = a2 at *
    unfold castA
    split
    · unfold raiseA aboveV
      exact up_filter h1 _
    · split
      · exact up_putV h1
      · exact h1
/-- Between two records. -/
structure OpX (B c : Nat) (col : Nat → Nat) (w : World) (q lq : Nat) (ro : Option Addr) (n : Nat) (ds : List (List UInt8)) (R : Option AcS) (j : Nat) (wx : World) : Prop where
  ex : ∃ col' a, Ext B (SA c) col w col' wx ∧ AcAt c col' wx q lq a ∧ Up9 a.votes ∧ RecB (fun j => col' j = 0) wx ro n ds ∧ replayRs a (ds.drop j) = R
set_option maxHeartbeats 4000000 in
set_option maxRecDepth 100000 in
theorem openA_a (B c : Nat) (col : Nat → Nat) (w : World) (lq : Nat) (ro : Option Addr) (n rc : Nat) (ds : List (List UInt8)) (ep fl : Int) (h : RecB (fun j => col j = 0) w ro n ds) (hc : Cols B w col) (hB : B ≤ w.heap.size) (hc0 : c ≠ 0) (hn : n ≤ 4611686018427387904) :
    Calls Tryz.prog 23 #[.pointer (some ⟨lq, 0, none⟩), .slice ro n rc, .int .i64 ep, .int .i64 fl] w fun e w' => AOpTo B c col w lq (openA ds ep fl) e w' := by
  obtain ⟨R, hR⟩ : ∃ R, Hid (openA ds ep fl = R) := ⟨_, Lib.hid rfl⟩
  rw [hR.out]
  have HRB := Lib.hid h
  have HC := Lib.hid hc
  have HB := Lib.hid hB
  have HN := Lib.hid h.len
  clear h hc hB
  by_cases hbad : ep < 0 ∨ fl < 0 ∨ 1099511627776 < ep ∨ 1099511627776 < fl
  · have HR1 : Hid (R = (none, 1)) := Lib.hid (by rw [← hR.out]; unfold openA; rw [if_pos hbad])
    have HF : Hid (AOpTo B c col w lq R (.returned (.tuple #[.pointer none, .int .i64 1])) w) := Lib.hid ⟨⟨col, Ext.quiet HC.out (Kp.refl _ _), Or.inl ⟨1, HR1.out, rfl⟩⟩⟩
    clear hR
    by_cases h1 : min ep fl < 0
    · clear hbad
      go_enter Tryz.func23, Tryz.ntmps23
      go_wp2_with fail
      go_ret2
      exact HF.out
    · by_cases h2 : 1099511627776 < ep
      · clear hbad
        go_enter Tryz.func23, Tryz.ntmps23
        go_wp2_with fail
        go_ret2
        exact HF.out
      · have h3 : 1099511627776 < fl := by omega
        clear hbad
        go_enter Tryz.func23, Tryz.ntmps23
        go_wp2_with fail
        go_ret2
        exact HF.out
  have h1 : ¬ min ep fl < 0 := by omega
  have h2 : ¬ 1099511627776 < ep := by omega
  have h3 : ¬ 1099511627776 < fl := by omega
  obtain ⟨R0, hR0⟩ : ∃ R0, replayRs (enterA 0 0) ds = R0 := ⟨_, rfl⟩
  have HR0 : Hid (openT ep fl R0 = R) := Lib.hid (by rw [← hR.out, openA_eq ds ep fl hbad, hR0])
  have hb := heap_alloc_new w (.cells #[.int .i64 0, .int .i64 0, .int .i64 0, .int .i64 0, .map none, .pointer (some ⟨lq, 0, none⟩)] 108)
  have kA : Kp Noone w (w.alloc (.cells #[.int .i64 0, .int .i64 0, .int .i64 0, .int .i64 0, .map none, .pointer (some ⟨lq, 0, none⟩)] 108)) := (Kp.refl _ _).alloc _
  have hsz := alloc_size w (.cells #[.int .i64 0, .int .i64 0, .int .i64 0, .int .i64 0, .map none, .pointer (some ⟨lq, 0, none⟩)] 108)
  clear hbad hR
  go_enter Tryz.func23, Tryz.ntmps23
  go_upto_region 4 with fail
  generalize w.alloc (.cells #[.int .i64 0, .int .i64 0, .int .i64 0, .int .i64 0, .map none, .pointer (some ⟨lq, 0, none⟩)] 108) = wA at *
  generalize hq : w.heap.size = q at *
  have eA : Ext B (SA c) col w (fun j => if j = q then c else col j) wA := Ext.one HC.out (kA.none (S := fun j => SA c (col j))) q c (by omega) (by omega) (by have := HB.out; omega) (Or.inl rfl)
  have hen := enter_b B c (fun j => if j = q then c else col j) wA q lq 0 0 hb (if_pos rfl) eA.cols (by have := HB.out; omega) hc0
  have HEA := Lib.hid eA
  have HQ := Lib.hid (And.intro hq hsz)
  have HKA := Lib.hid kA
  have HF3 := Lib.hid (And.intro h1 (And.intro h2 h3))
  clear eA hb kA hsz hq h1 h2 h3
  go_wp2_with fail
  refine hen.mono ?_
  clear hen
  rintro e w1 ⟨rfl, ⟨⟨col1, e1, ha1⟩⟩⟩
  have HX0 : Hid (OpX B c col w q lq ro n ds R0 0 w1) := Lib.hid ⟨⟨col1, enterA 0 0, HEA.out.trans e1, ha1, List.Pairwise.nil, (HRB.out.ext HEA.out (by unfold SA; omega)).ext e1 (by unfold SA; omega), by rw [List.drop_zero]; exact hR0⟩⟩
  clear e1 ha1 hR0
  go_wp2_with fail
  go_loopw [40] (fun v40 wx => ∃ j : Nat, v40 = .int .i64 (j : Int) ∧ j ≤ n ∧ Hid (OpX B c col w q lq ro n ds R0 j wx)) (fun u _ => (4611686018427387905 - intOf u).toNat)
  case atStart => exact ⟨0, rfl, Nat.zero_le _, HX0⟩
  case round =>
    obtain ⟨j, rfl, hj, hx⟩ := hrel
    clear HX0
    obtain ⟨col2, a, e2, ha2, hup, hrb, hrs⟩ := hx.out.ex
    have HE2 := Lib.hid e2
    have HA2 := Lib.hid ha2
    have HUP := Lib.hid hup
    have HRB2 := Lib.hid hrb
    clear hx e2 ha2 hup
    by_cases hlt : j < n
    · have hltz : (j : Int) < (n : Int) := by omega
      have hwj : IntKind.i64.wrap ((j : Int) + 1) = (j : Int) + 1 := IntWalk.i64_in _ (by omega)
      have hjd : j < ds.length := by have := HN.out; omega
      obtain ⟨b, off, x0, xo, xm, xc, hro, -, y0, y1, hdp⟩ := hrb.at9 j hjd
      have HD : Hid (ds.drop j = ds[j] :: ds.drop (j + 1)) := Lib.hid (List.drop_eq_getElem_cons hjd)
      have HSM := Lib.hid (hrb.small _ (List.getElem_mem hjd))
      generalize ds[j] = d at *
      have HDP := Lib.hid hdp
      subst hro
      have hbx := heap_alloc_new wr (.cells #[.int .i64 x0, .slice xo xm xc] 76)
      have kX : Kp Noone wr (wr.alloc (.cells #[.int .i64 x0, .slice xo xm xc] 76)) := (Kp.refl _ _).alloc _
      clear hrb hdp hjd
      go_upto_region 8 with fail
      generalize wr.alloc (.cells #[.int .i64 x0, .slice xo xm xc] 76) = wB at *
      generalize wr.heap.size = gx at *
      obtain ⟨z0, z1⟩ := cells_2v hbx
      have hpa := parse_any xo xm xc d wB (HDP.out.keep kX).1 (by have := HDP.out.1.len; have := HSM.out; omega)
      have HKX := Lib.hid kX
      clear y0 y1 hbx kX
      go_wp2_with fail
      refine hpa.mono ?_
      clear hpa z0 z1
      rintro e w3 ⟨⟨x, m, ok, rfl, hok1, hok2⟩, k3⟩
      have HK3 := Lib.hid (HKX.out.trans k3)
      cases ok with
      | false =>
        have HR9 : Hid (R = (none, 26)) := Lib.hid (by
          rw [← HR0.out, ← hrs, HD.out, replayRs, hok2 rfl]
          rfl)
        clear hrs k3 hok1 hok2
        unfold recV
        go_wp2_with fail
        go_ret2
        exact ⟨⟨col2, (HE2.out.trans (Ext.quiet HE2.out.cols HK3.out)).trans (Ext.quiet (HE2.out.cols.keep HK3.out.size) ((Kp.refl _ _).alloc _)), Or.inl ⟨26, HR9.out, rfl⟩⟩⟩
      | true =>
        obtain ⟨hpx, hov⟩ := hok1 rfl
        have hsome := parseR_some hpx
        have HRS : Hid (replayRs (replayA a x) (ds.drop (j + 1)) = R0) := Lib.hid (by
          rw [← hrs, HD.out, replayRs, hpx])
        have HOV : Hid (ValC (fun j => col2 j = 0) w3 x.val m) := Lib.hid (hov.in.mono (fun b _ d => cols_new HE2.out.cols (by have := d.none; have := HKX.out.size; omega)))
        have HVF := Lib.hid hsome.1.val
        clear hrs k3 hok1 hok2 hpx hov hsome
        unfold recV
        obtain ⟨k, ep9, sl9, ⟨rd, nd⟩, v⟩ := x
        simp only [] at HOV HVF ⊢
        have hbr := heap_alloc_new w3 (.cells #[.int .i64 k, .int .i64 ep9, .int .i64 sl9, .int .i64 rd, .int .i64 nd, .int .i64 v.kind, .slice m.co v.cmds.length m.cc, .slice m.no v.next.length m.nc] 112)
        have kR : Kp Noone w3 (w3.alloc (.cells #[.int .i64 k, .int .i64 ep9, .int .i64 sl9, .int .i64 rd, .int .i64 nd, .int .i64 v.kind, .slice m.co v.cmds.length m.cc, .slice m.no v.next.length m.nc] 112)) := (Kp.refl _ _).alloc _
        go_upto_region 11 with fail
        generalize w3.alloc (.cells #[.int .i64 k, .int .i64 ep9, .int .i64 sl9, .int .i64 rd, .int .i64 nd, .int .i64 v.kind, .slice m.co v.cmds.length m.cc, .slice m.no v.next.length m.nc] 112) = w4 at *
        have HG9 : Hid (wr.heap.size ≤ w3.heap.size) := Lib.hid HK3.out.size
        generalize w3.heap.size = gr at *
        have HK4 := Lib.hid (HK3.out.trans kR)
        have HBR := Lib.hid hbr
        have HOV4 := Lib.hid (HOV.out.keep kR)
        have kd : Kp Noone w4 w4.drew := (Kp.refl _ _).drew
        clear hbr kR
        have hrp := replay_a B c col2 w4.drew q lq a ⟨k, ep9, sl9, ⟨rd, nd⟩, v⟩ m (HA2.out.keep (HK4.out.trans kd)) (HOV4.out.keep kd) (HE2.out.cols.keep (HK4.out.trans kd).size) (by have := HB.out; have := HE2.out.size; have := (HK4.out.trans kd).size; have := HQ.out; omega) hc0 HUP.out HVF.out
        unfold recV at hrp
        simp only [] at hrp
        have HG0 : Hid (col2 gr = 0) := Lib.hid (cols_new HE2.out.cols HG9.out)
        have HS6 : Hid (∀ W, Kp (fun j => SA c (col2 j)) w4 W → (W.cell? ⟨gr, 0, none⟩ = some (.int .i64 k) ∧ W.cell? ⟨gr, 1, none⟩ = some (.int .i64 ep9) ∧ W.cell? ⟨gr, 2, none⟩ = some (.int .i64 sl9) ∧ W.cell? ⟨gr, 3, none⟩ = some (.int .i64 rd)) ∧ W.cell? ⟨gr, 4, none⟩ = some (.int .i64 nd) ∧ W.cell? ⟨gr, 5, none⟩ = some (.int .i64 v.kind) ∧ W.cell? ⟨gr, 6, none⟩ = some (.slice m.co v.cmds.length m.cc) ∧ W.cell? ⟨gr, 7, none⟩ = some (.slice m.no v.next.length m.nc)) := Lib.hid (fun W kk => cells_8v (kk.heap HBR.out (by rw [HG0.out]; unfold SA; omega)))
        have hS1 := HS6.out _ kd.none
        obtain ⟨⟨z0, z1, z2, z3⟩, z4, z5, z6, z7⟩ := HS6.out _ kd.none
        go_region_held3 (fun W => (W.cell? ⟨gr, 0, none⟩ = some (.int .i64 k) ∧ W.cell? ⟨gr, 1, none⟩ = some (.int .i64 ep9) ∧ W.cell? ⟨gr, 2, none⟩ = some (.int .i64 sl9) ∧ W.cell? ⟨gr, 3, none⟩ = some (.int .i64 rd)) ∧ W.cell? ⟨gr, 4, none⟩ = some (.int .i64 nd) ∧ W.cell? ⟨gr, 5, none⟩ = some (.int .i64 v.kind) ∧ W.cell? ⟨gr, 6, none⟩ = some (.slice m.co v.cmds.length m.cc) ∧ W.cell? ⟨gr, 7, none⟩ = some (.slice m.no v.next.length m.nc))
          (first | with_reducible exact hS1 | with_reducible exact hS2)
          (first | (go_at_call 45; refine hrp.mono ?_; rintro e w5 ⟨rfl, ⟨⟨col5, e5, ha5⟩⟩⟩; have hS2 := HS6.out _ (kd.none.trans e5.kp)))
        have HX5 : Hid (OpX B c col w q lq _ n ds R0 (j + 1) w5) := Lib.hid ⟨⟨col5, _, (HE2.out.trans (Ext.quiet HE2.out.cols (HK4.out.trans kd))).trans e5, ha5, up_replay HUP.out _, (HRB2.out.keep (HK4.out.trans kd)).ext e5 (by unfold SA; omega), HRS.out⟩⟩
        clear hS1 hS2 hrp z0 z1 z2 z3 z4 z5 z6 z7 e5 ha5 kd
        go_wp2_with fail
        go_roundw
        case rel => exact ⟨j + 1, rfl, hlt, HX5⟩
        case measure => simp [intOf]; omega
    · obtain rfl : j = n := by omega
      have HRS : Hid (R0 = some a) := Lib.hid (by rw [← hrs, List.drop_eq_nil_of_le (by have := HN.out; omega), replayRs])
      have HRR : Hid (R = (some (openEA a ep fl), 0)) := Lib.hid (by rw [← HR0.out, HRS.out]; rfl)
      obtain ⟨mb, ⟨x0, x1, x2, x3, x4, x5⟩⟩ := HA2.out.cells
      clear hrs hrb hlt x1 x2 x3 x4 x5
      by_cases he1 : a.epoch < ep
      · have HO : Hid (openEA a ep fl = enterA ep fl) := Lib.hid (by unfold openEA; rw [if_pos he1])
        have hen := enter_a B c col2 wr q lq a ep fl HA2.out HE2.out.cols (by have := HB.out; have := HE2.out.size; have := HQ.out; omega) hc0
        go_wp2_with fail
        refine hen.mono ?_
        clear hen x0
        rintro e w5 ⟨rfl, ⟨⟨col5, e5, ha5⟩⟩⟩
        have HF : Hid (AOpTo B c col w lq R (.returned (.tuple #[.pointer (some ⟨q, 0, none⟩), .int .i64 0])) w5) := Lib.hid ⟨⟨col5, HE2.out.trans e5, Or.inr ⟨_, q, HRR.out, rfl, by have := HQ.out; omega, by rw [HO.out]; exact ha5⟩⟩⟩
        clear e5 ha5
        go_wp2_with fail
        go_ret2
        exact HF.out
      · by_cases he2 : ep = a.epoch
        · have HO : Hid (openEA a ep fl = raiseA a fl) := Lib.hid (by unfold openEA; rw [if_neg he1, if_pos he2])
          have hq : (ep == a.epoch) = true := by rw [beq_iff_eq]; exact he2
          have hra := raise_a B c col2 wr q lq a fl HA2.out HE2.out.cols (by have := HB.out; have := HE2.out.size; have := HQ.out; omega) hc0
          clear he2
          go_wp2_with fail
          refine hra.mono ?_
          clear hra x0
          rintro e w5 ⟨rfl, ⟨⟨col5, e5, ha5⟩⟩⟩
          have HF : Hid (AOpTo B c col w lq R (.returned (.tuple #[.pointer (some ⟨q, 0, none⟩), .int .i64 0])) w5) := Lib.hid ⟨⟨col5, HE2.out.trans e5, Or.inr ⟨_, q, HRR.out, rfl, by have := HQ.out; omega, by rw [HO.out]; exact ha5⟩⟩⟩
          clear e5 ha5
          go_wp2_with fail
          go_ret2
          exact HF.out
        · have HO : Hid (openEA a ep fl = a) := Lib.hid (by unfold openEA; rw [if_neg he1, if_neg he2])
          have hq : (ep == a.epoch) = false := by rw [beq_eq_false_iff_ne]; exact he2
          have HF : Hid (AOpTo B c col w lq R (.returned (.tuple #[.pointer (some ⟨q, 0, none⟩), .int .i64 0])) wr) := Lib.hid ⟨⟨col2, HE2.out, Or.inr ⟨_, q, HRR.out, rfl, by have := HQ.out; omega, by rw [HO.out]; exact HA2.out⟩⟩⟩
          clear he2
          go_wp2_with fail
          go_ret2
          exact HF.out

end Go.Proofs.YtgbgbokcohfnpaaGreat

/-
  A log opened, an acceptor on it; THE WALK of fresh.
-/
namespace Go.Proofs.YtgbgbokcohfnpaaGreat
open Go.RowKit

theorem Lg.ext_a {B : Nat} {col col' : Nat → Nat} {w w' : World} {p ql : Nat} {s : DS} {l : LogP} (h : Lg 5 0 col w p ql s l) (hc : Cols B w col) (e : Ext B (SA 8) col w col' w') : Lg 5 0 col' w' p ql s l := by
  obtain ⟨hk, po, pc, hl⟩ := h
  exact ⟨hk.ext hc e (fun x hx => sa_lg x (Or.inl hx)), po, pc, hl.ext e (sa_lg 5 (Or.inr (Or.inl rfl))) (sa_lg 6 (Or.inr (Or.inr rfl)))⟩
theorem LI.opened {i : Nat} {s s' : DS} {n : Int} {l : LogP} {recs : Recs} {m : RD} (hs : Sim m s) (hd : DOk s) (hsm : SmallD s) (hst : s.steps ≤ 300000 * ((i : Int) + 1)) (hi : i ≤ 100000) (h : openF s n = (s', some (l, recs), 0)) : LI (i + 1) s' l := by
  obtain ⟨h1, h2, h3, h4⟩ := open_kept hs hd hsm (by omega) n
  rw [h] at h1 h2 h3
  obtain ⟨-, g2, -⟩ := h1.ok l recs rfl
  have h5 := h4 (by rw [h1.e])
  exact ⟨⟨_, g2, h5.mono (by omega)⟩, h2, by have : (s'.steps : Int) ≤ s.steps + 70 := h3; omega⟩
theorem numbered_mem {k : Nat} {ds : List (List UInt8)} {r : Nat × List UInt8} (h : r ∈ numbered k ds) : r.2 ∈ ds := by
  induction ds generalizing k with
  | nil => simp [numbered] at h
  | cons d t ih =>
    unfold numbered at h
    rcases List.mem_cons.1 h with h | h
    · rw [h]; exact List.mem_cons_self ..
    · exact List.mem_cons_of_mem _ (ih h)
theorem frames_mem {ds : List (List UInt8)} {d : List UInt8} (h : d ∈ ds) : d.length ≤ (frames ds).length := by
  induction ds with
  | nil => cases h
  | cons a r ih =>
    rw [frames_cons, List.length_append]
    rcases List.mem_cons.1 h with rfl | h
    · have := length_frameL d
      omega
    · have := ih h
      omega
theorem split_mem {b d : List UInt8} (h : d ∈ splitL b) : d.length ≤ b.length := Nat.le_trans (frames_mem h) (split_len b)
theorem scan1_small (M : Nat) (f : FoundS) (k : ByteArray) (b : List UInt8) (hf : ∀ r ∈ f.recs, r.2.length ≤ M) (hb : b.length ≤ M) : ∀ r ∈ (scan1 f k b).recs, r.2.length ≤ M := by
  intro r hr
  unfold scan1 at hr
  split at hr
  · exact hf r hr
  · split at hr
    · exact hf r hr
    · rcases List.mem_append.1 hr with hr | hr
      · exact hf r hr
      · have := numbered_mem hr
        exact Nat.le_trans (split_mem (List.mem_of_mem_tail this)) hb
theorem scanL_small (M : Nat) : ∀ (L : List (ByteArray × List UInt8)) (f : FoundS), (∀ r ∈ f.recs, r.2.length ≤ M) → (∀ x ∈ L, x.2.length ≤ M) → ∀ r ∈ (L.foldl (fun f x => scan1 f x.1 x.2) f).recs, r.2.length ≤ M
  | [], _, h, _ => h
  | x :: t, f, h, hx => scanL_small M t _ (scan1_small M f x.1 x.2 h (hx x (List.mem_cons_self ..))) (fun y hy => hx y (List.mem_cons_of_mem _ hy))
theorem scanF_small {s : DS} (h : SmallD s) : ∀ r ∈ (scanF s).recs, r.2.length ≤ 4194304 := by
  unfold scanF scanL
  refine scanL_small 4194304 _ _ (fun r hr => by simp [found0] at hr) (fun x hx => ?_)
  obtain ⟨k, -, rfl⟩ := List.mem_map.1 hx
  exact h.read k
theorem openF_small {s s' : DS} {n : Int} {l : LogP} {recs : Recs} {e : Nat} (h : SmallD s) (ho : openF s n = (s', some (l, recs), e)) : ∀ r ∈ recs, r.2.length ≤ 4194304 := by
  have hs := scanF_small h
  unfold openF at ho
  split at ho
  · cases ho
  · unfold openDrop at ho
    split at ho
    · cases ho
    · split at ho
      · unfold openNew at ho
        split at ho
        · cases ho
        · cases ho
          intro r hr
          cases hr
      · unfold openCut at ho
        split at ho
        · cases ho
        · unfold openSync at ho
          split at ho
          · cases ho
          · cases ho
            exact hs
/-- Records as the log gives them. -/
theorem RecB.of {T : TypeId} {Q : Nat → Prop} {col : Nat → Nat} {w : World} {ro : Option Addr} {rc : Nat} {rh : RH} {recs : Recs} (ho : Own (fun k => (col k = 0 ∧ Q k) ∧ k < w.heap.size) w T 2 ro recs.length rc (recsV rh)) (hr : RecsAt (fun k => col k = 0 ∧ Q k) w rh recs) (hs : ∀ r ∈ recs, r.2.length ≤ 4194304) :
    RecB (fun j => col j = 0) w ro recs.length (recs.map (·.2)) := by
  refine ⟨List.length_map .., fun k hk => ?_, fun d hd => ?_⟩
  · rw [List.length_map] at hk
    have hk2 : k < rh.length := by have := hr.len; omega
    obtain ⟨h1, h2⟩ := hr.get k hk2 hk
    have hl : (recsV rh).length = rh.length * 2 := by
      have := ho.1
      have := hr.len
      omega
    obtain ⟨b, off, e1, hF, hb, h3, -⟩ := ho.at (k := k * 2) (by omega)
    obtain ⟨b', off', e2, -, -, h4, -⟩ := ho.at (k := k * 2 + 1) (by omega)
    rw [e1] at e2
    cases e2
    have hget : ∀ (rh : RH) (k : Nat) (hk : k < rh.length), (recsV rh)[k * 2]? = some (.int .i64 (rh[k].1 : Int)) ∧ (recsV rh)[k * 2 + 1]? = some (.slice rh[k].2.1 rh[k].2.2.1 rh[k].2.2.2) := by
      intro rh
      induction rh with
      | nil => intro k hk; cases hk
      | cons a t ih =>
        intro k hk
        have e : recsV (a :: t) = [.int .i64 (a.1 : Int), .slice a.2.1 a.2.2.1 a.2.2.2] ++ recsV t := by simp [recsV]
        rw [e]
        cases k with
        | zero => exact ⟨rfl, rfl⟩
        | succ k =>
          have := ih k (by simpa using hk)
          rw [List.getElem?_append_right (by simp; omega), List.getElem?_append_right (by simp; omega)]
          have e1 : (k + 1) * 2 - 2 = k * 2 := by omega
          have e2 : (k + 1) * 2 + 1 - 2 = k * 2 + 1 := by omega
          simp only [List.length_cons, List.length_nil, Nat.zero_add, Nat.reduceAdd, e1, e2, List.getElem_cons_succ]
          exact this
    obtain ⟨g1, g2⟩ := hget rh k hk2
    rw [List.getElem?_eq_getElem (by omega)] at g1 g2
    rw [Option.some.inj g1] at h3
    rw [Option.some.inj g2] at h4
    refine ⟨b, off, _, rh[k].2.1, rh[k].2.2.1, rh[k].2.2.2, e1, ⟨hF.1.1, hF.2⟩, h3, ?_, ?_⟩
    · rw [Nat.add_assoc]; exact h4
    · rw [List.getElem_map]
      exact h2.mono (fun j _ d => d.1)
  · obtain ⟨r, hr2, rfl⟩ := List.mem_map.1 hd
    have := hs r hr2
    omega
theorem RecB.nil (P : Nat → Prop) (w : World) (ro : Option Addr) : RecB P w ro 0 [] := ⟨rfl, fun k hk => (by cases hk), fun d hd => (by cases hd)⟩
/-- What fresh leaves. -/
structure AFresh (W : World) (R : OpenR) (e : Ending) (w' : World) : Prop where
  ex : ∃ col' p, Ext W.heap.size (fun c => c ≠ 0) (fun _ => 0) W col' w' ∧ ((R.2.1 = none ∧ R.2.2 ≠ 0 ∧ Dk col' 0 w' p R.1 ∧ e = .returned (.tuple #[.pointer (some ⟨p, 0, none⟩), .pointer none, .int .i64 (R.2.2 : Int)])) ∨
    ∃ l q ql, R = (R.1, some (l, []), 0) ∧ e = .returned (.tuple #[.pointer (some ⟨p, 0, none⟩), .pointer (some ⟨q, 0, none⟩), .int .i64 0]) ∧ AcL col' w' p ql q R.1 l (enterA 0 0) ∧ LI 1 R.1 l)
attribute [local irreducible] openF newF
set_option maxHeartbeats 4000000 in
set_option maxRecDepth 100000 in
theorem fresh_any (room limit : Int) (W : World) : Calls Tryz.prog 10 #[.int .i64 room, .int .i64 limit] W fun e w' => AFresh W (openF (newF room) limit) e w' := by
  have hsim : Sim (newR room) (newF room) := by unfold newF; exact ⟨SimA.nil, rfl, rfl, rfl, rfl⟩
  have hst0 : (newF room).steps = 0 := by unfold newF; rfl
  obtain ⟨R, hR⟩ : ∃ R, openF (newF room) limit = R := ⟨_, rfl⟩
  rw [hR]
  have HR := Lib.hid hR
  have HOS := Lib.hid (open_kept hsim (newF_ok room) (SmallD.new room) (by rw [hst0]; decide) limit).1
  have HLI : Hid (∀ s' l recs, R = (s', some (l, recs), 0) → LI 1 s' l ∧ recs = []) := Lib.hid (fun s' l recs h => by
    refine ⟨LI.opened (i := 0) hsim (newF_ok room) (SmallD.new room) (by rw [hst0]; decide) (by decide) (hR.trans h), ?_⟩
    have := hR.trans h
    rw [openF_new] at this
    unfold openNew at this
    split at this
    · cases this
    · cases this; rfl)
  clear hsim hR
  have HST := Lib.hid hst0
  clear hst0
  go_enter Tryz.func10, Tryz.ntmps10
  go_wp2_with fail
  refine (new_dk W.heap.size (fun _ => 0) 0 room W (Cols.zero _ _) (Nat.le_refl _)).mono ?_
  rintro e w1 ⟨p, c1, rfl, x1, d1⟩
  have X1 := Lib.hid (x1.mono (T := fun c => c ≠ 0) (fun c h => by unfold S3 at h; omega))
  have hop := open_l W.heap.size 5 0 c1 w1 p (newF room) limit d1 x1.cols x1.size (by omega) (by rw [HST.out]; decide) (fun k => (SmallD.new room).read k)
  rw [HR.out] at hop
  clear x1 d1
  go_wp2_with fail
  refine hop.mono ?_
  clear hop
  rintro e w2 hto
  obtain ⟨c2, x2, d2, hcase⟩ := hto.ex
  have X2 := Lib.hid (X1.out.trans (x2.mono (T := fun c => c ≠ 0) (fun c h => by unfold SL S3 at h; omega)))
  have HD2 := Lib.hid d2
  clear hto x2 d2 X1
  rcases hcase with ⟨h, rfl⟩ | ⟨l, recs, ql, ro, rc, rh, he, he0, rfl, hq, hlg, -, -⟩
  · have hne : R.2.2 ≠ 0 := by
      have := HOS.out.none
      rw [HR.out] at this
      exact this h
    have hq : ((R.2.2 : Int) != 0) = true := by simp only [bne_iff_ne, ne_eq]; omega
    have HF : Hid (AFresh W R (.returned (.tuple #[.pointer (some ⟨p, 0, none⟩), .pointer none, .int .i64 (R.2.2 : Int)])) w2) := Lib.hid ⟨⟨c2, p, X2.out, Or.inl ⟨h, hne, HD2.out, rfl⟩⟩⟩
    generalize R.2.2 = er at *
    clear h hne
    go_wp2_with fail
    go_ret3
    exact HF.out
  · obtain ⟨R1, R2, R3⟩ := R
    simp only [] at he he0 HLI HD2 hlg
    subst he he0
    obtain ⟨hli, rfl⟩ := HLI.out R1 l recs rfl
    have HLG := Lib.hid hlg
    have HL1 := Lib.hid hli
    have hoa := openA_a W.heap.size 8 c2 w2 ql ro 0 rc [] 0 0 (RecB.nil _ _ _) X2.out.cols X2.out.size (by decide) (by decide)
    rw [show openA [] 0 0 = (some (enterA 0 0), 0) from rfl] at hoa
    simp only [List.length_nil]
    clear hlg hli hq HLI HR
    go_wp2_with fail
    refine hoa.mono ?_
    clear hoa
    rintro e w3 ⟨⟨c3, e3, hcs⟩⟩
    rcases hcs with ⟨e0, h, -⟩ | ⟨a, q, ha, rfl, hq, hac⟩
    · cases h
    · cases ha
      have HF : Hid (AFresh W (R1, some (l, []), 0) (.returned (.tuple #[.pointer (some ⟨p, 0, none⟩), .pointer (some ⟨q, 0, none⟩), .int .i64 0])) w3) := Lib.hid ⟨⟨c3, p, X2.out.trans (e3.mono (T := fun c => c ≠ 0) (fun c h => by unfold SA at h; omega)), Or.inr ⟨l, q, ql, rfl, rfl, ⟨HLG.out.ext_a X2.out.cols e3, hac⟩, HL1.out⟩⟩⟩
      clear e3 hac hq
      go_wp2_with fail
      go_ret3
      exact HF.out

end Go.Proofs.YtgbgbokcohfnpaaGreat

/-
  PLAIN: what an acceptor's calls keep.
-/
namespace Go.Proofs.YtgbgbokcohfnpaaGreat

/-- All votes lie in the window. -/
def AWin (a : AcS) : Prop := ∀ v ∈ a.votes, v.slot ≤ a.floor + 64
theorem AOk.len {a : AcS} (h : AOk a) (hw : AWin a) : a.votes.length ≤ 64 :=
  up_len h.up a.floor 64 (fun v hv => ⟨(h.vs v hv).2.1, hw v hv⟩)
theorem AOk.enter {e f : Int} (he : 0 ≤ e ∧ e ≤ 1099511627776) (hf : 0 ≤ f ∧ f ≤ 1099511627776) : AOk (enterA e f) :=
  ⟨he, hf, by show (0 : Int) ≤ 0 ∧ (0 : Int) ≤ 1099511627776; decide, by show (0 : Int) ≤ 0 ∧ (0 : Int) ≤ 9; decide, List.Pairwise.nil, fun v hv => by cases hv⟩
theorem AWin.enter (e f : Int) : AWin (enterA e f) := fun v hv => by cases hv
theorem validB_in {b : BalR} (h : validB b = true) : (1 ≤ b.round ∧ b.round ≤ 1099511627776) ∧ 1 ≤ b.node ∧ b.node ≤ 9 := by
  unfold validB at h
  have := of_decide_eq_true h
  omega
theorem AOk.rise {a : AcS} (h : AOk a) {b : BalR} (hv : validB b = true) (hb : belowB b a.prom = false) : AOk { a with prom := b } := by
  have := validB_in hv
  refine ⟨h.ep, h.fl, by show 0 ≤ b.round ∧ b.round ≤ 1099511627776; omega, by show 0 ≤ b.node ∧ b.node ≤ 9; omega, h.up, fun v hv2 => ?_⟩
  obtain ⟨h1, h2, h3, h4, h5, h6⟩ := h.vs v hv2
  exact ⟨h1, h2, h3, h4, h5, belowB_ge hb h6⟩
theorem AOk.raise {a : AcS} (h : AOk a) {f : Int} (hf : f ≤ 1099511627776) : AOk (raiseA a f) := by
  have hfl := h.fl
  refine ⟨h.ep, ?_, h.rd, h.nd, up_filter h.up _, fun v hv => ?_⟩
  · show 0 ≤ max a.floor f ∧ max a.floor f ≤ 1099511627776
    omega
  · obtain ⟨hm, hs⟩ := List.mem_filter.1 hv
    obtain ⟨h1, h2, h3, h4, h5, h6⟩ := h.vs v hm
    exact ⟨h1, (by show max a.floor f < v.slot; simpa using hs), h3, h4, h5, h6⟩
theorem AWin.raise {a : AcS} (h : AWin a) (f : Int) : AWin (raiseA a f) := fun v hv => by
  obtain ⟨hm, -⟩ := List.mem_filter.1 hv
  have := h v hm
  show v.slot ≤ max a.floor f + 64
  omega
/-- A vote that a call takes in: what replay makes of it. -/
theorem replay_vote {a : AcS} {b : BalR} {sl : Int} {v : ValR} (hb : belowB b a.prom = false) (hs : a.floor < sl) (ho : ∀ o, getV sl a.votes = some o → belowB b o.bal = false) :
    replayA a ⟨2, a.epoch, sl, b, v⟩ = { a with prom := b, votes := putV ⟨sl, b, v⟩ a.votes } := by
  unfold replayA
  simp only []
  rw [if_neg (by omega), if_neg (by omega)]
  have hp : promA a b = { a with prom := b } := by
    unfold promA
    by_cases h : belowB a.prom b = true
    · rw [if_pos h]
    · rw [if_neg h]
      have h2 : belowB a.prom b = false := by simpa using h
      rw [belowB_none hb h2]
  rw [hp]
  unfold castA
  simp only []
  rw [if_neg (by omega)]
  have ht : takesA { a with prom := b } ⟨2, a.epoch, sl, b, v⟩ = true := by
    unfold takesA
    simp only []
    rw [decide_eq_true hs]
    cases hg : getV sl a.votes with
    | none => rfl
    | some o => simp [ho o hg]
  rw [ht]
  simp
theorem AOk.vote {a : AcS} (h : AOk a) {b : BalR} {sl : Int} {v : ValR} (hvb : validB b = true) (hb : belowB b a.prom = false) (hs : a.floor < sl) (hs2 : sl ≤ 1099511627776) (hv : valF v = 0) : AOk { a with prom := b, votes := putV ⟨sl, b, v⟩ a.votes } := by
  have hr := h.rise hvb hb
  have hbi := validB_in hvb
  refine ⟨hr.ep, hr.fl, hr.rd, hr.nd, up_putV h.up, fun x hx => ?_⟩
  rcases putV_mem hx with rfl | hx
  · exact ⟨hv, hs, hs2, by show 0 ≤ b.round ∧ b.round ≤ 1099511627776; omega, by show 0 ≤ b.node ∧ b.node ≤ 9; omega, belowB_irr b⟩
  · exact hr.vs x hx
theorem AOk.old {a : AcS} (h : AOk a) {b : BalR} (hb : belowB b a.prom = false) {sl : Int} : ∀ o, getV sl a.votes = some o → belowB b o.bal = false := fun o ho =>
  belowB_ge hb (h.vs o (getV_some ho).1).2.2.2.2.2

/-! ### The calls -/

structure AInv (a : AcS) : Prop where
  ok : AOk a
  win : AWin a
/-- What Prepare does to the state. -/
theorem prep_state (s : DS) (l : LogP) (a : AcS) (b : BalR) (f : Int) : (prepA s l a b f).a = a ∨ (validB b = true ∧ belowB b a.prom = false ∧ (prepA s l a b f).a = { a with prom := b } ∧ (prepA s l a b f).e = 0) := by
  unfold prepA
  split
  · exact Or.inl rfl
  split
  · exact Or.inl rfl
  split
  · exact Or.inl rfl
  rename_i h1 h2 h3
  split
  · unfold prepW
    split
    · exact Or.inl rfl
    · exact Or.inr ⟨by simpa using h2, by simpa using h3, rfl, rfl⟩
  · exact Or.inl rfl
theorem AInv.prep {a : AcS} (h : AInv a) (s : DS) (l : LogP) (b : BalR) (f : Int) : AInv (prepA s l a b f).a := by
  rcases prep_state s l a b f with h1 | ⟨h1, h2, h3, -⟩
  · rw [h1]; exact h
  · rw [h3]; exact ⟨h.ok.rise h1 h2, h.win⟩
/-- What Accept does to the state. -/
theorem acc_state {a : AcS} (h : AOk a) (s : DS) (l : LogP) (b : BalR) (sl : Int) (v : ValR) : (accA s l a b sl v).a = a ∨ (validB b = true ∧ valF v = 0 ∧ belowB b a.prom = false ∧ a.floor < sl ∧ sl ≤ a.floor + 64 ∧ sl ≤ 1099511627776 ∧ (accA s l a b sl v).a = { a with prom := b, votes := putV ⟨sl, b, v⟩ a.votes } ∧ (accA s l a b sl v).e = 0 ∧ (accA s l a b sl v).m = votedM { a with prom := b, votes := putV ⟨sl, b, v⟩ a.votes } b sl v) := by
  unfold accA
  split
  · exact Or.inl rfl
  split
  · exact Or.inl rfl
  split
  · exact Or.inl rfl
  split
  · exact Or.inl rfl
  rename_i h1 h2 h3 h4
  have h1 : validB b = true := by simpa using h1
  have h2 : valF v = 0 := Classical.byContradiction h2
  have h3 : belowB b a.prom = false := by simpa using h3
  have h5 : a.floor < sl ∧ sl ≤ a.floor + 64 ∧ sl ≤ 1099511627776 := by omega
  have core : ∀ r, (accW a ⟨2, a.epoch, sl, b, v⟩ r).a = a ∨ (validB b = true ∧ valF v = 0 ∧ belowB b a.prom = false ∧ a.floor < sl ∧ sl ≤ a.floor + 64 ∧ sl ≤ 1099511627776 ∧ (accW a ⟨2, a.epoch, sl, b, v⟩ r).a = { a with prom := b, votes := putV ⟨sl, b, v⟩ a.votes } ∧ (accW a ⟨2, a.epoch, sl, b, v⟩ r).e = 0 ∧ (accW a ⟨2, a.epoch, sl, b, v⟩ r).m = votedM { a with prom := b, votes := putV ⟨sl, b, v⟩ a.votes } b sl v) := by
    intro r
    unfold accW
    split
    · exact Or.inl rfl
    · have hr := replay_vote (v := v) h3 h5.1 (h.old h3)
      exact Or.inr ⟨h1, h2, h3, h5.1, h5.2.1, h5.2.2, hr, rfl, by simp only []; rw [hr]⟩
  cases getV sl a.votes with
  | none => exact core _
  | some o =>
    unfold accO
    simp only []
    split
    · split
      · exact Or.inl rfl
      · exact Or.inl rfl
    · exact core _
theorem AInv.acc {a : AcS} (h : AInv a) (s : DS) (l : LogP) (b : BalR) (sl : Int) (v : ValR) : AInv (accA s l a b sl v).a := by
  rcases acc_state h.ok s l b sl v with h1 | ⟨h1, h2, h3, h4, h5, h6, h7, -⟩
  · rw [h1]; exact h
  · rw [h7]
    refine ⟨h.ok.vote h1 h3 h4 h6 h2, fun x hx => ?_⟩
    rcases putV_mem hx with rfl | hx
    · exact h5
    · exact h.win x hx
theorem raiseO_state (s : DS) (l : LogP) (a : AcS) (f : Int) : (raiseO s l a f).a = a ∨ (a.floor < f ∧ f ≤ 1099511627776 ∧ (raiseO s l a f).a = raiseA a f) := by
  unfold raiseO
  split
  · exact Or.inl rfl
  split
  · exact Or.inl rfl
  · unfold raiseW
    split
    · exact Or.inl rfl
    · exact Or.inr ⟨by omega, by omega, rfl⟩
theorem AInv.raise {a : AcS} (h : AInv a) (s : DS) (l : LogP) (f : Int) : AInv (raiseO s l a f).a := by
  rcases raiseO_state s l a f with h1 | ⟨h1, h2, h3⟩
  · rw [h1]; exact h
  · rw [h3]; exact ⟨h.ok.raise h2, h.win.raise f⟩
theorem enterO_state (s : DS) (l : LogP) (a : AcS) (e f : Int) : (enterO s l a e f).a = a ∨ (a.epoch < e ∧ e ≤ 1099511627776 ∧ 0 ≤ f ∧ f ≤ 1099511627776 ∧ (enterO s l a e f).a = enterA e f) := by
  unfold enterO
  split
  · exact Or.inl rfl
  · unfold enterW
    split
    · exact Or.inl rfl
    · exact Or.inr ⟨by omega, by omega, by omega, by omega, rfl⟩
theorem AInv.enter {a : AcS} (h : AInv a) (s : DS) (l : LogP) (e f : Int) : AInv (enterO s l a e f).a := by
  rcases enterO_state s l a e f with h1 | ⟨h1, h2, h3, h4, h5⟩
  · rw [h1]; exact h
  · rw [h5]
    have := h.ok.ep
    exact ⟨AOk.enter (by omega) (by omega), AWin.enter _ _⟩
theorem AInv.start : AInv (enterA 0 0) := ⟨AOk.enter (by decide) (by decide), AWin.enter _ _⟩

end Go.Proofs.YtgbgbokcohfnpaaGreat
