/-
  The texts AccTake, AccBd in one: what the claim reaches of them.
-/
import Derived.Test.YtgbgbokcohfnpaaGreatP19
import Derived.Test.YtgbgbokcohfnpaaGreatP06
import Derived.Test.YtgbgbokcohfnpaaGreatP17
import Derived.Test.YtgbgbokcohfnpaaGreatP16
/-
  THE WALKS of value.TakeCmd and value.Read.
-/
namespace Go.Proofs.YtgbgbokcohfnpaaGreat
open Go.RowKit

theorem info_cmd9 : (Tryz.prog.info? 41).map (·.size) = some 8 := by kernel_rfl
theorem info_op9 : (Tryz.prog.info? 39).map (·.size) = some 5 := by kernel_rfl
theorem ints_one8 (l : List Int) : ∀ u ∈ l.map (Value.int .i64), u.oneCell' = true := by
  intro u hu
  obtain ⟨x, -, rfl⟩ := List.mem_map.1 hu
  rfl
theorem Rd.lt9 {G : Nat → Prop} {w : World} {p : Nat} {left : List UInt8} {bad : Nat} (h : Rd G w p left bad) : Rd (fun j => G j ∧ j < w.heap.size) w p left bad := by
  obtain ⟨ao, n, cap, l, k, hh, hb, hoff, hk⟩ := h
  refine ⟨ao, n, cap, l, k, hh, hb, ⟨⟨hoff.1, (Array.getElem?_eq_some_iff.1 hh).1⟩, fun h0 a e => ⟨(hoff.2 h0 a e).1, (hoff.2 h0 a e).2, ?_⟩⟩, hk⟩
  obtain ⟨a2, e2, hl⟩ := hb.row.lt (fun c => h0 (by unfold bv at c; simpa using c))
  rw [e] at e2
  cases e2
  exact hl
theorem Rd.mono {G H : Nat → Prop} {w : World} {p : Nat} {left : List UInt8} {bad : Nat} (h : Rd G w p left bad) (hg : ∀ j, G j → H j) : Rd H w p left bad := by
  obtain ⟨ao, n, cap, l, k, hh, hb, hoff, hk⟩ := h
  exact ⟨ao, n, cap, l, k, hh, hb, ⟨hg _ hoff.1, fun h0 a e => ⟨(hoff.2 h0 a e).1, hg _ (hoff.2 h0 a e).2⟩⟩, hk⟩
/-- What a read of a reader leaves; new blocks may be written too. -/
structure TkTo (G : Nat → Prop) (w : World) (p : Nat) (r : RS9) (w' : World) : Prop where
  rd : Rd G w' p r.1 r.2
  kp : Kp (fun j => j = p) w w'
set_option maxHeartbeats 4000000 in
set_option maxRecDepth 100000 in
theorem takeCmd_any {G : Nat → Prop} (p : Nat) (r : RS9) (w : World) (h : Rd G w p r.1 r.2) :
    Calls Tryz.prog 160 #[.pointer (some ⟨p, 0, none⟩)] w fun e w' => e = .returned (.agg (cmdCs (takeCmd r).2).toArray) ∧ TkTo G w p (takeCmd r).1 w' := by
  obtain ⟨l0, b0⟩ := r
  have HT : Hid (takeCmd (l0, b0) = takeCmd (l0, b0)) := Lib.hid rfl
  obtain ⟨R, hR⟩ : ∃ R, Hid (takeCmd (l0, b0) = R) := ⟨_, Lib.hid rfl⟩
  rw [hR.out]
  have hU := hR.out
  unfold takeCmd at hU
  simp only [takeInts, cmdOf] at hU
  have HU := Lib.hid hU
  have hbz := heap_alloc_new w (.cells #[.int .i64 0, .int .i64 0, .int .i64 0, .int .i64 0, .int .i64 0, .int .i64 0, .int .i64 0, .int .i64 0] 41)
  have kA : Kp Noone w (w.alloc (.cells #[.int .i64 0, .int .i64 0, .int .i64 0, .int .i64 0, .int .i64 0, .int .i64 0, .int .i64 0, .int .i64 0] 41)) := (Kp.refl _ _).alloc _
  have hsz := alloc_size w (.cells #[.int .i64 0, .int .i64 0, .int .i64 0, .int .i64 0, .int .i64 0, .int .i64 0, .int .i64 0, .int .i64 0] 41)
  have HRD := Lib.hid (h.lt9.keep kA)
  have HPL := Lib.hid h.cells.2.2
  clear hU HT h
  simp only [] at HRD HPL
  go_enter Tryz.func160, Tryz.ntmps160
  go_upto_region 1 with fail
  generalize w.alloc (.cells #[.int .i64 0, .int .i64 0, .int .i64 0, .int .i64 0, .int .i64 0, .int .i64 0, .int .i64 0, .int .i64 0] 41) = wA at *
  generalize hg : w.heap.size = g at *
  have HG := Lib.hid (And.intro hg hsz)
  have HBZ := Lib.hid hbz
  have HKA := Lib.hid kA
  clear hbz kA hsz hg
  have hc := readerInt_any p l0 b0 wA HRD.out
  generalize rnum l0 b0 = x1 at *
  go_wp2_with fail
  refine hc.mono ?_
  rintro e w1 ⟨rfl, h1, k1⟩
  have HK1 := Lib.hid k1
  clear hc k1
  have hc := readerInt_any p x1.1.1 x1.1.2 w1 h1
  generalize rnum x1.1.1 x1.1.2 = x2 at *
  clear h1
  go_wp2_with fail
  refine hc.mono ?_
  rintro e w2 ⟨rfl, h1, k1⟩
  have HK2 := Lib.hid (HK1.out.trans k1)
  clear hc k1
  have hc := readerInt_any p x2.1.1 x2.1.2 w2 h1
  generalize rnum x2.1.1 x2.1.2 = x3 at *
  clear h1
  go_wp2_with fail
  refine hc.mono ?_
  rintro e w3 ⟨rfl, h1, k1⟩
  have HK3 := Lib.hid (HK2.out.trans k1)
  have HR3 := Lib.hid h1
  clear hc k1 h1
  go_upto_region 2 with fail
  have hbx := heap_alloc_new w3 (.cells #[.int .i64 (unfoldN x1.2), .int .i64 (unfoldN x2.2), .int .i64 (unfoldN x3.2), .int .i64 0, .int .i64 0, .int .i64 0, .int .i64 0, .int .i64 0] 41)
  have kB : Kp Noone w3 (w3.alloc (.cells #[.int .i64 (unfoldN x1.2), .int .i64 (unfoldN x2.2), .int .i64 (unfoldN x3.2), .int .i64 0, .int .i64 0, .int .i64 0, .int .i64 0, .int .i64 0] 41)) := (Kp.refl _ _).alloc _
  have h1 := HR3.out.keep kB
  generalize w3.alloc (.cells #[.int .i64 (unfoldN x1.2), .int .i64 (unfoldN x2.2), .int .i64 (unfoldN x3.2), .int .i64 0, .int .i64 0, .int .i64 0, .int .i64 0, .int .i64 0] 41) = wB at *
  have HGX : Hid (g + 1 ≤ w3.heap.size) := Lib.hid (by have := HK3.out.size; have := HG.out; omega)
  generalize w3.heap.size = gx at *
  have HBX := Lib.hid hbx
  have HKB := Lib.hid kB
  clear hbx kB
  have hc := readerInt_any p x3.1.1 x3.1.2 wB h1
  generalize rnum x3.1.1 x3.1.2 = x4 at *
  clear h1
  go_wp2_with fail
  refine hc.mono ?_
  rintro e w4 ⟨rfl, h1, k1⟩
  have HK4 := Lib.hid (k1)
  clear hc k1
  have hc := readerInt_any p x4.1.1 x4.1.2 w4 h1
  generalize rnum x4.1.1 x4.1.2 = x5 at *
  clear h1
  go_wp2_with fail
  refine hc.mono ?_
  rintro e w5 ⟨rfl, h1, k1⟩
  have HK5 := Lib.hid (HK4.out.trans k1)
  clear hc k1
  have hc := readerInt_any p x5.1.1 x5.1.2 w5 h1
  generalize rnum x5.1.1 x5.1.2 = x6 at *
  clear h1
  go_wp2_with fail
  refine hc.mono ?_
  rintro e w6 ⟨rfl, h1, k1⟩
  have HK6 := Lib.hid (HK5.out.trans k1)
  clear hc k1
  have hc := readerInt_any p x6.1.1 x6.1.2 w6 h1
  generalize rnum x6.1.1 x6.1.2 = x7 at *
  clear h1
  go_wp2_with fail
  refine hc.mono ?_
  rintro e w7 ⟨rfl, h1, k1⟩
  have HK7 := Lib.hid (HK6.out.trans k1)
  clear hc k1
  have hc := readerInt_any p x7.1.1 x7.1.2 w7 h1
  generalize rnum x7.1.1 x7.1.2 = x8 at *
  clear h1
  go_wp2_with fail
  refine hc.mono ?_
  rintro e w8 ⟨rfl, h1, k1⟩
  have HK8 := Lib.hid (HK7.out.trans k1)
  clear hc k1
  have HBX8 := Lib.hid (HK8.out.heap HBX.out (fun d => by have := HPL.out; have := HGX.out; omega))
  have HR8 := Lib.hid h1
  clear h1
  have hst := setCells_row 3 [.int .i64 (unfoldN x4.2), .int .i64 (unfoldN x5.2), .int .i64 (unfoldN x6.2), .int .i64 (unfoldN x7.2), .int .i64 (unfoldN x8.2)] HBX8.out (by simp)
  simp only [List.take_succ_cons, List.take_zero, List.length_cons, List.length_nil, List.drop_succ_cons, List.drop_nil, List.cons_append, List.nil_append] at hst
  have HST := Lib.hid hst
  have HBZ8 := Lib.hid (hst.2.heap (HK8.out.heap (HKB.out.heap (HK3.out.heap HBZ.out (fun d => by have := HPL.out; omega)) id) (fun d => by have := HPL.out; omega)) (fun d => by have := HGX.out; omega))
  clear hst
  go_upto_region 3 with (refine wpList_store_row rfl 39 (.tmp 22) (.tmp 21) rfl gx 3 [.int .i64 (unfoldN x4.2), .int .i64 (unfoldN x5.2), .int .i64 (unfoldN x6.2), .int .i64 (unfoldN x7.2), .int .i64 (unfoldN x8.2)] rfl rfl (ints_one8 [unfoldN x4.2, unfoldN x5.2, unfoldN x6.2, unfoldN x7.2, unfoldN x8.2]) HBX8.out (by simp) info_op9 ?_)
  generalize w8.setCells gx 3 [.int .i64 (unfoldN x4.2), .int .i64 (unfoldN x5.2), .int .i64 (unfoldN x6.2), .int .i64 (unfoldN x7.2), .int .i64 (unfoldN x8.2)] = w9 at *
  obtain ⟨⟨z0, z1, z2, z3⟩, z4, z5, z6, z7⟩ := cells_8v HST.out.1
  have hsz := setCells_row 0 [.int .i64 (unfoldN x1.2), .int .i64 (unfoldN x2.2), .int .i64 (unfoldN x3.2), .int .i64 (unfoldN x4.2), .int .i64 (unfoldN x5.2), .int .i64 (unfoldN x6.2), .int .i64 (unfoldN x7.2), .int .i64 (unfoldN x8.2)] HBZ8.out (by simp)
  simp only [List.take_zero, List.length_cons, List.length_nil, List.drop_succ_cons, List.drop_nil, List.nil_append, List.append_nil] at hsz
  have HSZ := Lib.hid hsz
  clear hsz
  go_wp2_with (refine wpList_store_row rfl 41 (.tmp 2) (.tmp 23) rfl g 0 [.int .i64 (unfoldN x1.2), .int .i64 (unfoldN x2.2), .int .i64 (unfoldN x3.2), .int .i64 (unfoldN x4.2), .int .i64 (unfoldN x5.2), .int .i64 (unfoldN x6.2), .int .i64 (unfoldN x7.2), .int .i64 (unfoldN x8.2)] rfl rfl (ints_one8 [unfoldN x1.2, unfoldN x2.2, unfoldN x3.2, unfoldN x4.2, unfoldN x5.2, unfoldN x6.2, unfoldN x7.2, unfoldN x8.2]) HBZ8.out (by simp) info_cmd9 ?_)
  refine bodyPost_ret (results_cell_row (p := 2) (ty := 41) rfl _ _ g 41 _ (0, 0) _ (by rfl) HSZ.out.1 Tryz.underlying41 rfl (by kernel_rfl)) rfl ?_
  have e1 := HG.out
  have e2 := HPL.out
  have e3 := HGX.out
  have e4 := HKB.out.size
  have e5 := HK3.out.size
  have K1 : Kp (fun j => j = p) w wB := HKA.out.none.trans (HK3.out.trans HKB.out.none)
  have K2 : Kp (fun j => j = p ∨ g ≤ j) w _ := ((K1.trans HK8.out).mono (T := fun j => j = p ∨ g ≤ j) (fun _ _ d => Or.inl d)).trans ((HST.out.2.mono (T := fun j => j = p ∨ g ≤ j) (fun _ _ d => Or.inr (by omega))).trans (HSZ.out.2.mono (T := fun j => j = p ∨ g ≤ j) (fun _ _ d => Or.inr (by omega))))
  refine ⟨by rw [← HU.out]; rfl, ?_, K2.mono (fun j hj d => d.resolve_right (by omega))⟩
  rw [← HU.out]
  exact ((HR8.out.kp HST.out.2 (fun j d e => by have := d.2; omega)).kp HSZ.out.2 (fun j d e => by have := d.2; omega)).mono (fun j d => d.1)

/-- A region that ends in frames of a block's number and a slice. -/
theorem wp_region_n2 {P : Program} {id : Nat} {ops : Array Oper} {b : Bool} {Q : Exit → Act → World → Prop} {a : Act} {w : World} {F : Nat → Option Addr → Nat → Act} {G : Nat → Option Addr → Nat → World → Prop}
    (h : (Code.region id ops b).wp P (NoPanic fun e a' w' => e = .normal ∧ ∃ n ao cap, a' = F n ao cap ∧ G n ao cap w') a w) (k : ∀ n ao cap w', G n ao cap w' → Q .normal (F n ao cap) w') : (Code.region id ops b).wp P Q a w :=
  Code.wp_mono (fun e a' w' q => by
    obtain ⟨rfl, n, ao, cap, rfl, hg⟩ := NoPanic.imp e a' w' q
    exact k n ao cap w' hg) h
/-- While a value's commands are read. -/
structure TkX (G : Nat → Prop) (wB : World) (p gx z : Nat) (k : Int) (n : Nat) (T : RS9 × List CmdR) (j : Nat) (wx : World) : Prop where
  ex : ∃ (ao : Option Addr) (cap : Nat) (cs : List CmdR) (r : RS9), cs.length = j ∧ wx.heap[gx]? = some (.cells #[.int .i64 k, .slice ao j cap, .slice none 0 0] 34 (0, 0)) ∧ Own (fun b => z ≤ b) wx 41 8 ao j cap (cmdsV cs) ∧ Rd G wx p r.1 r.2 ∧ T = ((takeCmds (n - j) r).1, cs ++ (takeCmds (n - j) r).2)
  kp : Kp (fun b => b = p ∨ b = gx ∨ z ≤ b) wB wx
/-- While a value's members are read. -/
structure TnX (G : Nat → Prop) (wB : World) (p gx z : Nat) (k : Int) (co : Option Addr) (cn cc : Nat) (n : Nat) (T : RS9 × List Int) (j : Nat) (wx : World) : Prop where
  ex : ∃ (ao : Option Addr) (cap : Nat) (cs : List Int) (r : RS9), cs.length = j ∧ wx.heap[gx]? = some (.cells #[.int .i64 k, .slice co cn cc, .slice ao j cap] 34 (0, 0)) ∧ Own (fun b => z ≤ b) wx 3 1 ao j cap (cs.map (Value.int .i64)) ∧ Rd G wx p r.1 r.2 ∧ T = ((takeNs (n - j) r).1, cs ++ (takeNs (n - j) r).2)
  kp : Kp (fun b => b = p ∨ b = gx ∨ z ≤ b) wB wx
set_option maxHeartbeats 4000000 in
set_option maxRecDepth 100000 in
theorem readVal_any {G : Nat → Prop} (p : Nat) (r : RS9) (w : World) (h : Rd G w p r.1 r.2) :
    Calls Tryz.prog 118 #[.pointer (some ⟨p, 0, none⟩)] w fun e w' => (∃ m, e = .returned (valV (readV r).2 m) ∧ ValOwn (Ex Noone w w') w' (readV r).2 m) ∧ TkTo G w p (readV r).1 w' := by
  obtain ⟨i0, hi, hz0, hz1, hz2⟩ := info_parts (P := Tryz.prog) (e := 41) (z := .agg #[.int .i64 0, .int .i64 0, .int .i64 0, .int .i64 0, .int .i64 0, .int .i64 0, .int .i64 0, .int .i64 0]) (size := 8) (bytes := 64) (by kernel_rfl)
  obtain ⟨j0, hj0, jz0, jz1, jz2⟩ := info_parts (P := Tryz.prog) (e := 3) (z := .int .i64 0) (size := 1) (bytes := 8) (by kernel_rfl)
  have hg0 := heap_alloc_new w (.cells #[.int .i64 0, .slice none 0 0, .slice none 0 0] 34)
  have kA : Kp Noone w (w.alloc (.cells #[.int .i64 0, .slice none 0 0, .slice none 0 0] 34)) := (Kp.refl _ _).alloc _
  have hsz := alloc_size w (.cells #[.int .i64 0, .slice none 0 0, .slice none 0 0] 34)
  have HRD := Lib.hid (h.lt9.keep kA)
  have HPL := Lib.hid h.cells.2.2
  obtain ⟨l0, b0⟩ := r
  simp only [] at HRD
  obtain ⟨R, hR⟩ : ∃ R, Hid (readV (l0, b0) = R) := ⟨_, Lib.hid rfl⟩
  rw [hR.out]
  have HU : Hid (readV0 (rcount l0 b0 2).2 (rcount (rcount l0 b0 2).1.1 (rcount l0 b0 2).1.2 8) = R) := Lib.hid hR.out
  clear h hR
  go_enter Tryz.func118, Tryz.ntmps118
  go_upto_region 1 with fail
  generalize w.alloc (.cells #[.int .i64 0, .slice none 0 0, .slice none 0 0] 34) = wA at *
  generalize hg : w.heap.size = g at *
  have HG := Lib.hid (And.intro hg hsz)
  have HBZ := Lib.hid hg0
  have HKA := Lib.hid kA
  clear hg0 kA hsz hg
  have hk2 := rc_le9 (l0, b0) 2 2 rfl
  have hc := readerCount_any p l0 b0 2 wA HRD.out (by decide) (by decide)
  unfold rc at hk2
  simp only [] at hk2
  generalize rcount l0 b0 2 = K at *
  have HK2 := Lib.hid hk2
  clear hk2
  go_wp2_with fail
  refine hc.mono ?_
  clear hc
  rintro e w1 ⟨rfl, h1, k1⟩
  have HK1 := Lib.hid k1
  have HR1 := Lib.hid h1
  clear h1 k1
  have hbx := heap_alloc_new w1 (.cells #[.int .i64 (K.2 : Int), .slice none 0 0, .slice none 0 0] 34)
  have kB : Kp Noone w1 (w1.alloc (.cells #[.int .i64 (K.2 : Int), .slice none 0 0, .slice none 0 0] 34)) := (Kp.refl _ _).alloc _
  have hsB := alloc_size w1 (.cells #[.int .i64 (K.2 : Int), .slice none 0 0, .slice none 0 0] 34)
  go_upto_region 2 with fail
  generalize w1.alloc (.cells #[.int .i64 (K.2 : Int), .slice none 0 0, .slice none 0 0] 34) = wB at *
  have HGX : Hid (g + 1 ≤ w1.heap.size) := Lib.hid (by have := HK1.out.size; have := HG.out; omega)
  generalize w1.heap.size = gx at *
  have HBX := Lib.hid hbx
  have HKB := Lib.hid kB
  have HSB := Lib.hid hsB
  have hn8 := rc_le9 K.1 8 8 rfl
  have hc := readerCount_any p K.1.1 K.1.2 8 wB (HR1.out.keep kB) (by decide) (by decide)
  unfold rc at hn8
  clear hbx kB hsB
  generalize rcount K.1.1 K.1.2 8 = N at *
  obtain ⟨⟨l2, b2⟩, n⟩ := N
  simp only [] at hn8 hc
  have HU1 : Hid (readV1 K.2 (takeCmds n (l2, b2)) = R) := Lib.hid HU.out
  go_wp2_with fail
  refine hc.mono ?_
  clear hc
  rintro e w2 ⟨rfl, h1, k1⟩
  have HX0 : Hid (TkX (fun j => G j ∧ j < g) wB p gx (gx + 1) K.2 n (takeCmds n (l2, b2)) 0 w2) := Lib.hid ⟨⟨none, 0, [], (l2, b2), rfl, k1.heap HBX.out (fun d => by have := HPL.out; have := HGX.out; omega), Own.nil _ _ _ _ _, h1, by rw [Nat.sub_zero, List.nil_append]⟩, k1.mono (fun _ _ d => Or.inl d)⟩
  clear h1 k1
  generalize takeCmds n (l2, b2) = T at *
  go_wp2_with fail
  go_loopw [9] (fun v9 wx => ∃ j : Nat, v9 = .int .i64 (j : Int) ∧ j ≤ n ∧ Hid (TkX (fun j => G j ∧ j < g) wB p gx (gx + 1) K.2 n T j wx)) (fun u _ => (4194305 - intOf u).toNat)
  case atStart => exact ⟨0, rfl, Nat.zero_le _, HX0⟩
  case round =>
    obtain ⟨j, rfl, hj, hx⟩ := hrel
    clear HX0
    obtain ⟨⟨ao, cap, cs, r, hcs, hbx, hown, hrd, hT⟩, hkx⟩ := hx.out
    by_cases hlt : j < n
    · have hltz : (j : Int) < (n : Int) := by omega
      have hwj : IntKind.i64.wrap ((j : Int) + 1) = (j : Int) + 1 := IntWalk.i64_in _ (by omega)
      have HT : Hid (T = ((takeCmds (n - (j + 1)) (takeCmd r).1).1, (cs ++ [(takeCmd r).2]) ++ (takeCmds (n - (j + 1)) (takeCmd r).1).2)) := Lib.hid (by
        rw [hT, show n - j = (n - (j + 1)) + 1 by omega, takeCmds]
        simp)
      have hct := fun W (kk : Kp Noone wr W) => takeCmd_any (G := fun j => G j ∧ j < g) p r W (hrd.keep kk)
      generalize takeCmd r = C at *
      have hct : ∀ W, Kp Noone wr W → Calls Tryz.prog 160 #[.pointer (some ⟨p, 0, none⟩)] W fun e w' => e = .returned (.agg #[.int .i64 C.2.sess, .int .i64 C.2.seq, .int .i64 C.2.ack, .int .i64 C.2.op.kind, .int .i64 C.2.op.reg, .int .i64 C.2.op.tgt, .int .i64 C.2.op.re, .int .i64 C.2.op.im]) ∧ TkTo (fun j => G j ∧ j < g) W p C.1 w' := hct
      have HKX := Lib.hid hkx
      have HBX1 := Lib.hid hbx
      have HOW := Lib.hid (hown.mono (G := fun b => gx + 1 ≤ b ∧ b < wr.heap.size) (fun b hb d => ⟨d, hb⟩))
      have HCS := Lib.hid hcs
      have k0 : Kp Noone wr wr.drew := (Kp.refl _ _).drew
      obtain ⟨y0, y1, y2⟩ := cells_3v (k0.heap hbx id)
      obtain ⟨z0, z1, z2⟩ := cells_3v hbx
      clear hx hcs hbx hown hrd hT hkx
      go_upto_region 4 with fail
      apply wp_region_n2 (G := fun _ o2 c2 wz => TkX (fun j => G j ∧ j < g) wB p gx (gx + 1) K.2 n T (j + 1) wz ∧ wz.heap[gx]? = some (.cells #[.int .i64 (K.2 : Int), .slice o2 (j + 1) c2, .slice none 0 0] 34 (0, 0)))
      case h =>
        go_region_law (first
          | (go_simp; go_at_call 160; refine (hct _ k0).mono ?_; rintro e w3 ⟨rfl, ht3⟩; have hb3 := ht3.kp.heap (k0.heap HBX1.out id) (fun d => by have := HPL.out; have := HGX.out; omega); obtain ⟨y0, y1, y2⟩ := cells_3v hb3; have kC : Kp Noone w3 (w3.alloc (.cells #[.int .i64 C.2.sess, .int .i64 C.2.seq, .int .i64 C.2.ack, .int .i64 C.2.op.kind, .int .i64 C.2.op.reg, .int .i64 C.2.op.tgt, .int .i64 C.2.op.re, .int .i64 C.2.op.im] 41)) := (Kp.refl _ _).alloc _; have hrow : Row (w3.alloc (.cells #[.int .i64 C.2.sess, .int .i64 C.2.seq, .int .i64 C.2.ack, .int .i64 C.2.op.kind, .int .i64 C.2.op.reg, .int .i64 C.2.op.tgt, .int .i64 C.2.op.re, .int .i64 C.2.op.im] 41)) (some ⟨w3.heap.size, 0, none⟩) (cmdCs C.2) := Row.ofHeap (heap_alloc_new w3 (.cells #[.int .i64 C.2.sess, .int .i64 C.2.seq, .int .i64 C.2.ack, .int .i64 C.2.op.kind, .int .i64 C.2.op.reg, .int .i64 C.2.op.tgt, .int .i64 C.2.op.re, .int .i64 C.2.op.im] 41)); have hoC := ((HOW.out.keep k0).kp ht3.kp (fun b d e => by have := HPL.out; have := HGX.out; omega)).keep kC; have hbC := kC.heap hb3 id; obtain ⟨v0, v1, v2⟩ := cells_3v hbC)
          | (refine step_append_gen rfl (.tmp 12) (.tmp 15) 31 rfl 41 i0 (.agg #[.int .i64 0, .int .i64 0, .int .i64 0, .int .i64 0, .int .i64 0, .int .i64 0, .int .i64 0, .int .i64 0]) 8 64 Tryz.underlying31 hi hz0 hz1 hz2 rfl ao j cap rfl (some ⟨w3.heap.size, 0, none⟩) 1 1 rfl _ _ hoC (cmdCs C.2) rfl hrow (ints_one8 [C.2.sess, C.2.seq, C.2.ack, C.2.op.kind, C.2.op.reg, C.2.op.tgt, C.2.op.re, C.2.op.im]) (by omega) (by unfold maxLen; omega) ?_; intro o2 c2 w4 ho4 k4; have hb4 := k4.heap hbC (fun d => by omega); obtain ⟨y0, y1, y2⟩ := cells_3v hb4; have yf := frz hb4; have yf1 := yf 1; have hs4 := set1_of3 (x := .slice o2 (j + 1) c2) hb4))
        all_goals (
          generalize w3.heap.size = gq at *
          refine NoPanic.normal ⟨rfl, gq, o2, c2, rfl, ?_⟩
          have hw3 := ht3.kp.size
          have hk0 := k0.size
          have hkx := HKX.out.size
          have hgx := HGX.out
          have hpl := HPL.out
          have hsb := HSB.out
          have hk4 := k4.size
          have hkc := kC.size
          have KW : Kp (fun b => b = p ∨ b = gx ∨ gx + 1 ≤ b) wr w4 := ((k0.none.trans (ht3.kp.mono (fun _ _ d => Or.inl d))).trans kC.none).trans (k4.mono (fun b _ d => Or.inr (Or.inr d.1)))
          refine ⟨⟨⟨o2, c2, cs ++ [C.2], C.1, by rw [List.length_append, HCS.out]; rfl, hs4.1, ?_, ?_, HT.out⟩, (HKX.out.trans KW).trans (hs4.2.mono (fun _ _ d => Or.inr (Or.inl d)))⟩, hs4.1⟩
          · rw [cmdsV_app, show cmdsV [C.2] = cmdCs C.2 by unfold cmdsV; simp]
            exact (ho4.kp hs4.2 (fun b d e => by rcases d with d | d <;> omega)).mono (fun b _ d => by rcases d with d | d <;> omega)
          · exact (((ht3.rd.keep kC).kp k4 (fun b d e => by have := d.2; omega)).kp hs4.2 (fun b d e => by have := d.2; omega)))
      case k =>
        rintro gq o2 c2 w5 ⟨hX, hbx⟩
        have HX := Lib.hid hX
        clear hX hct y0 y1 y2 z0 z1 z2 k0 hbx
        go_wp2_with fail
        go_roundw
        case rel => exact ⟨j + 1, rfl, hlt, HX⟩
        case measure => exact meas_small j n hlt (by omega)
    · obtain rfl : j = n := by omega
      have HT : Hid (T = (r, cs)) := Lib.hid (by rw [hT, Nat.sub_self]; simp [takeCmds])
      have HK3 := Lib.hid hkx
      have HB3 := Lib.hid hbx
      have HO3 := Lib.hid (hown.mono (G := fun b => gx + 1 ≤ b ∧ b < wr.heap.size) (fun b hb d => ⟨d, hb⟩))
      have HCS := Lib.hid hcs
      have hm7 := rc_le9 r 7 7 rfl
      have hc := readerCount_any p r.1 r.2 7 wr hrd (by decide) (by decide)
      have HU2 : Hid (readV2 K.2 cs (rcount r.1 r.2 7) = R) := Lib.hid (by rw [← HU1.out, HT.out]; rfl)
      unfold rc at hm7
      generalize rcount r.1 r.2 7 = N2 at *
      obtain ⟨⟨l3, b3⟩, m⟩ := N2
      simp only [] at hm7 hc
      clear hx hcs hbx hown hrd hT hkx hlt
      go_wp2_with fail
      refine hc.mono ?_
      clear hc
      rintro e w3 ⟨rfl, h1, k1⟩
      have HX0 : Hid (TnX (fun j => G j ∧ j < g) wr p gx wr.heap.size K.2 ao j cap m (takeNs m (l3, b3)) 0 w3) := Lib.hid ⟨⟨none, 0, [], (l3, b3), rfl, k1.heap HB3.out (fun d => by have := HPL.out; have := HGX.out; omega), Own.nil _ _ _ _ _, h1, by rw [Nat.sub_zero, List.nil_append]⟩, k1.mono (fun _ _ d => Or.inl d)⟩
      have HGR : Hid (gx + 1 ≤ wr.heap.size) := Lib.hid (by have := HK3.out.size; have := HSB.out; omega)
      have HU3 : Hid (readV3 K.2 cs (takeNs m (l3, b3)) = R) := Lib.hid HU2.out
      generalize takeNs m (l3, b3) = T2 at *
      generalize hgz : wr.heap.size = gz at *
      have HGZ := Lib.hid hgz
      clear h1 k1 hgz
      go_wp2_with fail
      go_loopw [21] (fun v21 wx => ∃ i : Nat, v21 = .int .i64 (i : Int) ∧ i ≤ m ∧ Hid (TnX (fun j => G j ∧ j < g) wr p gx gz K.2 ao j cap m T2 i wx)) (fun u _ => (4194305 - intOf u).toNat)
      case atStart => exact ⟨0, rfl, Nat.zero_le _, HX0⟩
      case round =>
        obtain ⟨i, rfl, hi9, hx⟩ := hrel
        clear HX0
        obtain ⟨⟨ao2, cap2, cs2, r2, hcs, hbx, hown, hrd, hT⟩, hkx⟩ := hx.out
        by_cases hlt : i < m
        · have hltz : (i : Int) < (m : Int) := by omega
          have hwi : IntKind.i64.wrap ((i : Int) + 1) = (i : Int) + 1 := IntWalk.i64_in _ (by omega)
          have HT2 : Hid (T2 = ((takeNs (m - (i + 1)) (rcount r2.1 r2.2 9).1).1, (cs2 ++ [((rcount r2.1 r2.2 9).2 : Int)]) ++ (takeNs (m - (i + 1)) (rcount r2.1 r2.2 9).1).2)) := Lib.hid (by
            rw [hT, show m - i = (m - (i + 1)) + 1 by omega, takeNs]
            simp)
          have hct := fun W (kk : Kp Noone wr W) => readerCount_any p r2.1 r2.2 9 W (hrd.keep kk) (by decide) (by decide)
          generalize rcount r2.1 r2.2 9 = C at *
          have HKX := Lib.hid hkx
          have HBX1 := Lib.hid hbx
          have HOW := Lib.hid (hown.mono (G := fun b => gz ≤ b ∧ b < wr.heap.size) (fun b hb d => ⟨d, hb⟩))
          have HCS2 := Lib.hid hcs
          have k0 : Kp Noone wr wr.drew := (Kp.refl _ _).drew
          obtain ⟨y0, y1, y2⟩ := cells_3v (k0.heap hbx id)
          obtain ⟨z0, z1, z2⟩ := cells_3v hbx
          clear hx hcs hbx hown hrd hT hkx
          go_upto_region 8 with fail
          apply wp_region_n2 (G := fun _ o2 c2 wz => TnX (fun j => G j ∧ j < g) _ p gx gz K.2 ao j cap m T2 (i + 1) wz)
          case h =>
            go_region_law (first
              | (go_simp; go_at_call 117; refine (hct _ k0).mono ?_; rintro e w3 ⟨rfl, hr3, kp3⟩; have hb3 := kp3.heap (k0.heap HBX1.out id) (fun d => by have := HPL.out; have := HGX.out; omega); obtain ⟨y0, y1, y2⟩ := cells_3v hb3; have kC : Kp Noone w3 (w3.alloc (.cells #[.int .i64 (C.2 : Int)] 3)) := (Kp.refl _ _).alloc _; have hrow : Row (w3.alloc (.cells #[.int .i64 (C.2 : Int)] 3)) (some ⟨w3.heap.size, 0, none⟩) [.int .i64 (C.2 : Int)] := Row.ofHeap (heap_alloc_new w3 (.cells #[.int .i64 (C.2 : Int)] 3)); have hoC := ((HOW.out.keep k0).kp kp3 (fun b d e => by have := HPL.out; have := HGX.out; have := HGR.out; omega)).keep kC; have hbC := kC.heap hb3 id; obtain ⟨v0, v1, v2⟩ := cells_3v hbC)
              | (refine step_append_gen rfl (.tmp 24) (.tmp 27) 32 rfl 3 j0 (.int .i64 0) 1 8 Tryz.underlying32 hj0 jz0 jz1 jz2 rfl ao2 i cap2 rfl (some ⟨w3.heap.size, 0, none⟩) 1 1 rfl _ _ hoC [.int .i64 (C.2 : Int)] rfl hrow (ints_one8 [(C.2 : Int)]) (by omega) (by unfold maxLen; omega) ?_; intro o2 c2 w4 ho4 k4; have hb4 := k4.heap hbC (fun d => by have := HGR.out; omega); obtain ⟨y0, y1, y2⟩ := cells_3v hb4; have yf := frz hb4; have yf2 := yf 2; have hs4 := set2_of3 (x := .slice o2 (i + 1) c2) hb4))
            all_goals (
              have hw3 := kp3.size
              have hk0 := k0.size
              have hkx := HKX.out.size
              have hgx := HGX.out
              have hpl := HPL.out
              have hgr := HGR.out
              have hgz := HGZ.out
              have hk4 := k4.size
              have hkc := kC.size
              generalize w3.heap.size = gq at *
              refine NoPanic.normal ⟨rfl, gq, o2, c2, rfl, ?_⟩
              have KW : Kp (fun b => b = p ∨ b = gx ∨ gz ≤ b) wr w4 := ((k0.none.trans (kp3.mono (fun _ _ d => Or.inl d))).trans kC.none).trans (k4.mono (fun b _ d => Or.inr (Or.inr d.1)))
              refine ⟨⟨o2, c2, cs2 ++ [(C.2 : Int)], C.1, by rw [List.length_append, HCS2.out]; rfl, hs4.1, ?_, ?_, HT2.out⟩, (HKX.out.trans KW).trans (hs4.2.mono (fun _ _ d => Or.inr (Or.inl d)))⟩
              · rw [List.map_append]
                exact (ho4.kp hs4.2 (fun b d e => by rcases d with d | d <;> omega)).mono (fun b _ d => by rcases d with d | d <;> omega)
              · exact (((hr3.keep kC).kp k4 (fun b d e => by have := d.2; omega)).kp hs4.2 (fun b d e => by have := d.2; omega)))
          case k =>
            intro gq o2 c2 w5 hX
            have HX := Lib.hid hX
            clear hX hct y0 y1 y2 z0 z1 z2 k0
            go_wp2_with fail
            go_roundw
            case rel => exact ⟨i + 1, rfl, hlt, HX⟩
            case measure => exact meas_small i m hlt (by omega)
        · obtain rfl : i = m := by omega
          have hT2 : T2 = (r2, cs2) := by rw [hT, Nat.sub_self]; simp [takeNs]
          have HRR : Hid (R = (r2, ⟨K.2, cs, cs2⟩)) := Lib.hid (by rw [← HU3.out, hT2]; rfl)
          have e1 := HG.out
          have e2 := HPL.out
          have e3 := HGX.out
          have e4 := HGR.out
          have e5 := HGZ.out
          have e6 := HSB.out
          have e7 := HK1.out.size
          have e8 := HK3.out.size
          have hgk := hkx.heap (HK3.out.heap (HKB.out.heap (HK1.out.heap HBZ.out (fun d => by omega)) id) (fun d => by omega)) (fun d => by omega)
          obtain ⟨z0, z1, z2⟩ := cells_3v hbx
          obtain ⟨y0, y1, y2⟩ := cells_3v hgk
          have yf := frz hgk
          have yf0 := yf 0
          have yf1 := yf 1
          have yf2 := yf 2
          have HT := Lib.hid (three_set (x := .int .i64 (K.2 : Int)) (y := .slice ao j cap) (z := .slice ao2 i cap2) hgk)
          have KA : Kp (fun b => b = p ∨ g ≤ b) w wr := (((HKA.out.none (S := fun b => b = p ∨ g ≤ b)).trans (HK1.out.mono (fun _ _ d => Or.inl d))).trans (HKB.out.none (S := fun b => b = p ∨ g ≤ b))).trans ((HK3.out.mono (T := fun b => b = p ∨ g ≤ b) (fun b _ d => by rcases d with d | d | d; exact Or.inl d; exact Or.inr (by omega); exact Or.inr (by omega))).trans (hkx.mono (T := fun b => b = p ∨ g ≤ b) (fun b _ d => by rcases d with d | d | d; exact Or.inl d; exact Or.inr (by omega); exact Or.inr (by omega))))
          have HKA2 := Lib.hid KA
          have HO5 : Hid (Own (fun b => g ≤ b ∧ b ≠ g) wr 41 8 ao j cap (cmdsV cs)) := Lib.hid ((HO3.out.kp hkx (fun b d e => by omega)).mono (fun b _ d => by omega))
          have HO6 : Hid (Own (fun b => g ≤ b ∧ b ≠ g) wr 3 1 ao2 i cap2 (cs2.map (Value.int .i64))) := Lib.hid (hown.mono (fun b _ d => by omega))
          have HRD6 := Lib.hid hrd
          have HLC := Lib.hid (And.intro HCS.out hcs)
          have HE := Lib.hid (And.intro e1 e2)
          clear hT hT2 e1 e2 e3 e4 e5 e6 e7 e8 hgk hbx yf KA hx hcs hown hrd hkx hlt
          go_wp2_with fail
          refine bodyPost_ret (results_cell_row (p := 2) (ty := 34) rfl _ _ g 34 _ (0, 0) _ (by rfl) HT.out.1 Tryz.underlying34 rfl (by kernel_rfl)) rfl ?_
          have e1 := HE.out
          rw [HRR.out]
          refine ⟨⟨⟨ao, cap, ao2, cap2⟩, ?_, ⟨?_, ?_⟩⟩, ⟨?_, ?_⟩⟩
          · unfold valV
            simp only []
            rw [HLC.out.1, HLC.out.2]
          · show Own _ _ _ _ _ cs.length _ _
            rw [HLC.out.1]
            exact (HO5.out.kp HT.out.2 (fun b d e => d.2 e)).mono (fun b hb d => Or.inr ⟨by omega, hb⟩)
          · show Own _ _ _ _ _ cs2.length _ _
            rw [HLC.out.2]
            exact (HO6.out.kp HT.out.2 (fun b d e => d.2 e)).mono (fun b hb d => Or.inr ⟨by omega, hb⟩)
          · exact (HRD6.out.kp HT.out.2 (fun b d e => by have := d.2; omega)).mono (fun b d => d.1)
          · exact (HKA2.out.trans (HT.out.2.mono (T := fun b => b = p ∨ g ≤ b) (fun b _ d => Or.inr (by omega)))).mono (fun b hb d => d.resolve_right (by omega))

end Go.Proofs.YtgbgbokcohfnpaaGreat

/-
  PLAIN: bounds of a log that are kept from call to call, for many calls.
-/
namespace Go.Proofs.YtgbgbokcohfnpaaGreat
open Go.RowKit

theorem RB.lokB {i : Nat} {m : RLog} {s : DS} {l : LogP} (h : RB i m) (hi : i ≤ 100000) (hs : SimW m s l) : LOk l ∧ l.next < 4611686018427387000 ∧ l.size < 4611686018427380000 ∧ l.pieces.length ≤ 1000000 := by
  obtain ⟨h1, h2⟩ := hs.last h.ne
  have hl := hs.ps
  have ht := h.ps _ (tailP_mem h.ne)
  have hn : l.next ≤ 1099516000000 := by rw [h1]; unfold nextP9; omega
  have hz : l.size ≤ 904194304 := by rw [h2]; omega
  have hp : l.pieces.length ≤ 1000000 := by
    rw [← hl]
    unfold heads
    rw [List.length_map]
    have := h.len
    omega
  refine ⟨⟨by rw [← hs.lim]; exact h.lim, fun c => ?_, fun x hx => ?_, fun x hx => ?_, by omega, by omega, by omega⟩, by omega, by omega, hp⟩
  · rw [c] at hl
    exact h.ne (List.map_eq_nil_iff.1 hl)
  · rw [← hl] at hx
    obtain ⟨p, hp, rfl⟩ := List.mem_map.1 hx
    exact (h.ps p hp).1
  · rw [← hl] at hx
    obtain ⟨p, hp, rfl⟩ := List.mem_map.1 hx
    have := (h.ps p hp).2.1
    show p.first ≤ _
    omega
/-- A log behind i calls. -/
structure LI (i : Nat) (s : DS) (l : LogP) : Prop where
  ex : ∃ m, SimW m s l ∧ RB i m
  sm : SmallD s
  st : s.steps ≤ 300000 * ((i : Int) + 1)
theorem LI.mono {i j : Nat} {s : DS} {l : LogP} (h : LI i s l) (hij : i ≤ j) : LI j s l := by
  obtain ⟨⟨m, h1, h2⟩, h3, h4⟩ := h
  exact ⟨⟨m, h1, h2.mono hij⟩, h3, by omega⟩
theorem LI.bd {i : Nat} {s : DS} {l : LogP} (h : LI i s l) (hi : i ≤ 100000) : LOk l ∧ l.next < 4611686018427387000 ∧ l.size < 4611686018427380000 ∧ l.pieces.length ≤ 1000000 ∧ s.steps < 4611686018420000000 := by
  obtain ⟨⟨m, h1, h2⟩, h3, h4⟩ := h
  obtain ⟨a, b, c, d⟩ := h2.lokB hi h1
  exact ⟨a, b, c, d, by omega⟩
theorem LI.append {i : Nat} {s : DS} {l : LogP} (h : LI i s l) (hi : i ≤ 100000) (hd : DOk s) (d : List UInt8) : LI (i + 1) (appendLF s l d).1 (appendLF s l d).2.1 := by
  obtain ⟨⟨m, h1, h2⟩, h3, h4⟩ := h
  have a1 := append_sim h1 h2.ne hd (by omega) d
  have a2 := appendLF_steps s l d
  exact ⟨⟨_, a1.1, h2.append d⟩, h3.appendL l d, by omega⟩
theorem LI.sync {i : Nat} {s : DS} {l : LogP} (h : LI i s l) (_hi : i ≤ 100000) (hd : DOk s) : LI (i + 1) (syncLF s l).1 (syncLF s l).2.1 := by
  obtain ⟨⟨m, h1, h2⟩, h3, h4⟩ := h
  have a1 := sync_sim h1 h2.ne hd
  have a2 := syncLF_steps s l
  exact ⟨⟨_, a1.1, h2.sync⟩, h3.syncL l, by omega⟩
theorem LI.trim {i : Nat} {s : DS} {l : LogP} (h : LI i s l) (hi : i ≤ 100000) (hd : DOk s) (idx : Int) : LI (i + 1) (trimLF s l idx).1 (trimLF s l idx).2.1 := by
  obtain ⟨⟨m, h1, h2⟩, h3, h4⟩ := h
  have hl := h2.len
  have a1 := trim_sim h1 h2.ne hd idx (by omega)
  have a2 := trimLF_steps s l idx
  have a3 : l.pieces.length = m.ps.length := by rw [← h1.ps]; unfold heads; rw [List.length_map]
  exact ⟨⟨_, a1.1.1, h2.trim idx a1.2⟩, h3.trimL l idx, by omega⟩

end Go.Proofs.YtgbgbokcohfnpaaGreat
