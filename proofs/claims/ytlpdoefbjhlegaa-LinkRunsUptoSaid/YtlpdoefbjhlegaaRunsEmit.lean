/-
  THE WALK of the document's Emit.
-/
import Derived.Test.YtlpdoefbjhlegaaRunsIn
namespace Go.Proofs.Ytlpdoefbjhlegaa
open Go.RowKit

attribute [local irreducible] numL parse inR lowR

/-- Frames whose row and bytes lie in blocks of one kind, the row apart from the bytes. -/
def FrsZ (Z : Nat → Prop) (w : World) (fo : Option Addr) (n cap : Nat) (fs : List (List UInt8)) : Prop :=
  ∃ (hs : Hs) (A D : Nat → Prop), (∀ k, A k → Z k ∧ k < w.heap.size) ∧ (∀ k, D k → Z k ∧ k < w.heap.size) ∧ (∀ k, A k → ¬ D k) ∧ fs.length = n ∧ hs.length = n ∧ Own A w 31 1 fo n cap (headsL hs) ∧ ∀ j (h1 : j < hs.length) (h2 : j < fs.length), DataAt D w hs[j] fs[j]
theorem FrsAt.frsZ {z : Nat} {w : World} {fo : Option Addr} {n cap : Nat} {fs : List (List UInt8)} (h : FrsAt z w fo n cap fs) : FrsZ (fun k => z ≤ k) w fo n cap fs := by
  obtain ⟨hs, A, D, h1, h2, h3, h4, h5, h6, h7⟩ := h
  exact ⟨hs, fun k => A k ∧ k < w.heap.size, fun k => D k ∧ k < w.heap.size, fun k c => ⟨h1 k c.1, c.2⟩, fun k c => ⟨h2 k c.1, c.2⟩, fun k c d => h3 k c.1 d.1, h4, h5, h6.mono (fun k hk c => ⟨c, hk⟩), fun j a b => (h7.at j a b).mono (fun k hk c => ⟨c, hk⟩)⟩
theorem FrsZ.kp {Z S : Nat → Prop} {w w' : World} {fo : Option Addr} {n cap : Nat} {fs : List (List UInt8)} (h : FrsZ Z w fo n cap fs) (k : Kp S w w') (hS : ∀ j, Z j → j < w.heap.size → ¬ S j) : FrsZ Z w' fo n cap fs := by
  obtain ⟨hs, A, D, h1, h2, h3, h4, h5, h6, h7⟩ := h
  have hs := k.size
  exact ⟨_, A, D, fun j c => ⟨(h1 j c).1, Nat.lt_of_lt_of_le (h1 j c).2 hs⟩, fun j c => ⟨(h2 j c).1, Nat.lt_of_lt_of_le (h2 j c).2 hs⟩, h3, h4, h5, h6.kp k (fun j c => hS j (h1 j c).1 (h1 j c).2), fun j a b => (h7 j a b).kp k (fun i c => hS i (h2 i c).1 (h2 i c).2)⟩
theorem FrsZ.mono {Z Y : Nat → Prop} {w : World} {fo : Option Addr} {n cap : Nat} {fs : List (List UInt8)} (h : FrsZ Z w fo n cap fs) (hq : ∀ j, j < w.heap.size → Z j → Y j) : FrsZ Y w fo n cap fs := by
  obtain ⟨hs, A, D, h1, h2, h3, h4, h5, h6, h7⟩ := h
  exact ⟨hs, A, D, fun j c => ⟨hq j (h1 j c).2 (h1 j c).1, (h1 j c).2⟩, fun j c => ⟨hq j (h2 j c).2 (h2 j c).1, (h2 j c).2⟩, h3, h4, h5, h6, h7⟩
theorem FrsZ.bss {Z : Nat → Prop} {w : World} {fo : Option Addr} {n cap : Nat} {fs : List (List UInt8)} (h : FrsZ Z w fo n cap fs) : BSS w fo n cap fs := by
  obtain ⟨hs, A, D, h1, h2, h3, h4, h5, h6, h7⟩ := h
  exact ⟨h4, h6.2.1, h6.2.2.1, hs, h5, h6.row, fun j a b => (h7 j a b).1⟩
theorem FrsZ.frsP {Z : Nat → Prop} {w : World} {fo : Option Addr} {n cap : Nat} {fs : List (List UInt8)} (h : FrsZ Z w fo n cap fs) : FrsP Z w fo n cap fs := by
  obtain ⟨hs, A, D, h1, h2, h3, h4, h5, h6, h7⟩ := h
  refine ⟨h4, h6.2.1, h6.2.2.1, hs, h5, h6.row, fun hn a ha => (h1 _ (h6.rowP.here (fun e => ?_) a ha)).1, fun j a b => (h7 j a b).mono (fun k _ c => (h2 k c).1)⟩
  have := congrArg List.length e
  simp [headsL] at this
  rw [this] at h5
  simp at h5
  exact hn h5.symm
/-- Frames that a call has made. -/
def NewFrs (w w' : World) (fo : Option Addr) (n cap : Nat) (fs : List (List UInt8)) : Prop := FrsP (fun j => w.heap.size ≤ j) w' fo n cap fs
/-- One frame more: its bytes were made between w1 and w5; then its head's slice; then the row grows. -/
theorem FrsZ.snoc {Z : Nat → Prop} {w1 w5 w6 w7 : World} {hs : Hs} {A D : Nat → Prop} {n : Nat} {fs : List (List UInt8)} {x : List UInt8} {xo : Option Addr} {xc : Nat} {fo' : Option Addr} {cap' : Nat}
    (hA : ∀ k, A k → Z k ∧ k < w1.heap.size) (hD : ∀ k, D k → Z k ∧ k < w1.heap.size) (hAD : ∀ k, A k → ¬ D k) (hn : fs.length = n) (hhs : hs.length = n) (hd : ∀ j (h1 : j < hs.length) (h2 : j < fs.length), DataAt D w1 hs[j] fs[j])
    (hx : Own (Ex Noone w1 w5) w5 5 1 xo x.length xc (bv x)) (k15 : Kp Noone w1 w5) (k56 : Kp Noone w5 w6) (ho : Own (Ex A w6 w7) w7 31 1 fo' (n + 1) cap' (headsL hs ++ [.slice xo x.length xc])) (k67 : Kp A w6 w7) :
    FrsZ (fun k => Z k ∨ w1.heap.size ≤ k) w7 fo' (n + 1) cap' (fs ++ [x]) := by
  have s15 := k15.size
  have s56 := k56.size
  have s67 := k67.size
  refine ⟨hs ++ [(xo, x.length, xc)], fun k => A k ∨ (w6.heap.size ≤ k ∧ k < w7.heap.size), fun k => D k ∨ (w1.heap.size ≤ k ∧ k < w5.heap.size), fun k c => ?_, fun k c => ?_, fun k c d => ?_, by simp [hn], by simp [hhs], ?_, fun j h1 h2 => ?_⟩
  · rcases c with c | c
    · exact ⟨Or.inl (hA k c).1, by have := (hA k c).2; omega⟩
    · exact ⟨Or.inr (by omega), c.2⟩
  · rcases c with c | c
    · exact ⟨Or.inl (hD k c).1, by have := (hD k c).2; omega⟩
    · exact ⟨Or.inr c.1, by omega⟩
  · rcases c with c | c
    · rcases d with d | d
      · exact hAD k c d
      · have := (hA k c).2; omega
    · rcases d with d | d
      · have := (hD k d).2; omega
      · omega
  · have e : headsL (hs ++ [(xo, x.length, xc)]) = headsL hs ++ [.slice xo x.length xc] := by simp [headsL]
    rw [e]
    exact ho
  · by_cases hj : j < hs.length
    · have hj2 : j < fs.length := by omega
      rw [List.getElem_append_left hj, List.getElem_append_left hj2]
      exact (((hd j hj hj2).kp (k15.trans k56) (fun _ _ c => c)).kp k67 (fun a c e => hAD a e c)).mono (fun _ _ c => Or.inl c)
    · have ej : j = hs.length := by simp at h1; omega
      subst ej
      rw [List.getElem_append_right (by omega), List.getElem_append_right (by omega)]
      have e0 : hs.length - fs.length = 0 := by omega
      simp only [Nat.sub_self, e0, List.getElem_singleton]
      have hdx : DataAt (fun k => w1.heap.size ≤ k ∧ k < w5.heap.size) w5 (xo, x.length, xc) x := (Own.dataAt (s := (xo, x.length, xc)) hx).mono (fun k _ c => Ex.none c)
      exact ((hdx.kp k56 (fun _ _ c => c)).kp k67 (fun a c e => by have := (hA a e).2; omega)).mono (fun _ _ c => Or.inr c)

theorem updH_dataE (retry now : Int) (h : OutH) : (updH retry now h).data = h.data := by unfold updH; split <;> rfl
theorem grow_own {z e : Nat} {w8 w9 : World} {fo : Option Addr} {n fc : Nat} {x y : List UInt8} (h : Own (Ex (fun j => z ≤ j) w8 w9) w9 e 1 fo n fc (bv x ++ bv y)) (s : z ≤ w8.heap.size) : Own (fun j => z ≤ j) w9 e 1 fo n fc (bv (x ++ y)) := by
  have he : bv (x ++ y) = bv x ++ bv y := by simp [bv]
  rw [he]
  exact h.mono (fun j _ c => by
    rcases c with c | c
    · exact c
    · have := c.1; omega)

/-- While the acknowledgements' frames are made. -/
structure EmA (P : Nat → Prop) (w0 : World) (g : Nat) (m : RL) (r : RR) (fv iv : Value) (w : World) : Prop where
  ex : ∃ (k : Nat) (fo : Option Addr) (fcap : Nat), iv = .int .i64 ((2 * k : Nat) : Int) ∧ k ≤ m.acks.length ∧ fv = .slice fo k fcap ∧ MSt (fun j => P j ∧ j < g) w0 g m r w ∧ FrsAt (g + 3) w fo k fcap ((m.acks.take k).map ackFr)

/-- While the messages' frames are made. -/
structure EmB (P : Nat → Prop) (w0 : World) (g : Nat) (m : RL) (r : RR) (pre : List (List UInt8)) (now : Int) (fv ov jv : Value) (w : World) : Prop where
  ex : ∃ (k : Nat) (fo : Option Addr) (n fcap : Nat) (oo : Option Addr) (oc : Nat) (O : Nat → Prop), jv = .int .i64 (k : Int) ∧ k ≤ m.out.length ∧ fv = .slice fo n fcap ∧ ov = .slice oo k oc ∧ MSt (fun j => P j ∧ j < g) w0 g m r w ∧
    (∀ j, O j → g + 3 ≤ j ∧ j < w.heap.size) ∧ Own O w 62 4 oo k oc (outC ((m.out.take k).map (updH m.retry now)) (r.hs.take k)) ∧ FrsZ (fun j => g + 3 ≤ j ∧ ¬ O j) w fo n fcap (pre ++ datK m.boot m.retry now (baseOf m.out) m.out k)

/-- Behind one message: its own copy is as it shall be; its frame is made, if it was due. -/
structure EmC (P : Nat → Prop) (w0 : World) (g gh : Nat) (m : RL) (r : RR) (O : Nat → Prop) (X : OutH) (hx : Option Addr × Nat × Nat) (oo : Option Addr) (k oc : Nat) (outs : List Value) (fs : List (List UInt8)) (fv : Value) (w : World) : Prop where
  ex : ∃ (fo : Option Addr) (n fcap : Nat), fv = .slice fo n fcap ∧ w.heap[gh]? = some (.cells #[.int .i64 X.num, .slice hx.1 hx.2.1 hx.2.2, .bool X.sent, .int .i64 X.time] 62 (0, 0)) ∧ MSt (fun j => P j ∧ j < g) w0 g m r w ∧
    (∀ j, O j → g + 3 ≤ j ∧ j < w.heap.size) ∧ Own O w 62 4 oo k oc outs ∧ FrsZ (fun j => g + 3 ≤ j ∧ ¬ O j) w fo n fcap fs

set_option maxHeartbeats 2000000 in
set_option maxRecDepth 100000 in
theorem emitR_any (P : Nat → Prop) (m : RL) (r : RR) (now : Int) (w : World) (h : RefAt P w m r) (hok : RefOk m) (hnow : -9223372036854775808 ≤ now ∧ now ≤ 9223372036854775807) :
    Calls Try.prog 14 #[linkV m r, .int .i64 now] w fun e w' => ∃ r' fo fcap, e = .returned (.tuple #[linkV (emitR m now).1 r', .slice fo (emitR m now).2.length fcap]) ∧ RefTo P w (emitR m now).1 r' w' ∧ NewFrs w w' fo (emitR m now).2.length fcap (emitR m now).2 := by
  obtain ⟨i0, hi, hz0, hz1, hz2⟩ := info_parts info_heldR
  obtain ⟨j0, hj, hj0, hj1, hj2⟩ := info_parts info_u8
  obtain ⟨l0, hl, hl0, hl1, hl2⟩ := info_parts info_bytesL
  have HO := Lib.hid hok
  have HM : MSt (fun j => P j ∧ j < w.heap.size) w w.heap.size m r (((w.alloc (.cells (linkC m r) 29)).alloc (.cells #[.int .i64 0, .int .i64 0, .int .i64 0, .slice none 0 0, .slice none 0 0, .int .i64 0, .int .i64 0, .slice none 0 0] 29)).alloc (.cells #[] 31)) := by
    obtain ⟨k2, hB, hRr⟩ := two_new w m r #[.int .i64 0, .int .i64 0, .int .i64 0, .slice none 0 0, .slice none 0 0, .int .i64 0, .int .i64 0, .slice none 0 0] 29
    have kA := (Kp.refl Noone ((w.alloc (.cells (linkC m r) 29)).alloc (.cells #[.int .i64 0, .int .i64 0, .int .i64 0, .slice none 0 0, .slice none 0 0, .int .i64 0, .int .i64 0, .slice none 0 0] 29))).alloc (.cells #[] 31)
    exact ⟨k2.trans kA, rfl, kA.heap hB id, kA.heap hRr id, (h.mono (Q := fun j => P j ∧ j < w.heap.size) (fun j hj c => ⟨c, hj⟩)).kp (k2.trans kA) (fun _ _ c => c), by simp⟩
  have hal := hok.acksL
  have HAN := Lib.hid hok.acksN
  clear h hok
  unfold linkV
  unfold linkC at HM
  go_enter Try.func14, Try.ntmps14
  go_wp2_with fail
  generalize hgw : w.heap.size = g at *
  generalize ((w.alloc _).alloc _).alloc _ = wA at *
  obtain ⟨⟨b0, b1, b2, b3⟩, ⟨b4, b5, b6, b7⟩, bf⟩ := cells_eight HM.box
  have HHM := Lib.hid HM
  clear HM
  go_loopw [6, 7] (fun fv iv wr => EmA P w g m r fv iv wr) (fun _ v _ => m.acks.length * 2 - (intOf v).toNat)
  case atStart => exact EmA.mk ⟨0, _, 0, by rfl, by omega, rfl, HHM.out, FrsAt.nil _ _ _⟩
  case round =>
    obtain ⟨k, fo, fcap, rfl, hk, rfl, hms, hfr⟩ := hrel.ex
    obtain ⟨⟨b0, b1, b2, b3⟩, ⟨b4, b5, b6, b7⟩, bf⟩ := cells_eight hms.box
    by_cases hlt : k < m.acks.length
    · obtain ⟨n1, n2⟩ := ackC_get m.acks k hlt
      obtain ⟨ab, ao, hao, hc1⟩ := hms.ref.acks.row.at4 n1
      obtain ⟨ab', ao', hao', hc2⟩ := hms.ref.acks.row.at4 n2
      rw [hao] at hao'
      cases hao'
      rw [hao] at b4
      have hb := HAN.out _ (List.getElem_mem hlt)
      obtain ⟨x1, hx1⟩ := Int.eq_ofNat_of_zero_le (show (0 : Int) ≤ m.acks[k].1 by omega)
      obtain ⟨x2, hx2⟩ := Int.eq_ofNat_of_zero_le (show (0 : Int) ≤ m.acks[k].2 by omega)
      rw [hx1, hx2] at hb
      rw [hx1] at hc1
      rw [hx2] at hc2
      have hS : Hid ((m.acks.take (k + 1)).map ackFr = (m.acks.take k).map ackFr ++ [numL 2 ++ numL x1 ++ numL x2]) := Lib.hid (by
        rw [List.take_succ_eq_append_getElem hlt, List.map_append]
        simp [ackFr, hx1, hx2])
      have hwi : IntKind.i64.wrap (((2 * k : Nat) : Int) + 1) = ((2 * k : Nat) : Int) + 1 := IntWalk.i64_in _ (by omega)
      have hwi2 : IntKind.i64.wrap (((2 * k : Nat) : Int) + 2) = ((2 * k : Nat) : Int) + 2 := IntWalk.i64_in _ (by omega)
      have hwb1 : IntKind.u64.wrap (x1 : Int) = (x1 : Int) := IntWalk.u64_in _ (by omega)
      have hwb2 : IntKind.u64.wrap (x2 : Int) = (x2 : Int) := IntWalk.u64_in _ (by omega)
      clear n1 n2 hao hx1 hx2
      rw [Nat.mul_comm k 2] at hc1 hc2
      have hnl : ∀ u, (numL u).length ≤ 9 := fun u => by rw [length_numL]; have := sizeN_le u; omega
      have hnl2 := hnl 2
      have hnlx1 := hnl x1
      have hnlx2 := hnl x2
      have hw64a : W64 x1 := by unfold W64; omega
      have hw64b : W64 x2 := by unfold W64; omega
      have hbg := hms.big
      have HMS := Lib.hid hms
      have HFR := Lib.hid hfr
      have hik : 2 * k + 1 < m.acks.length * 2 := by omega
      have hi128 : m.acks.length * 2 ≤ 128 := by omega
      clear hms hfr hrel
      generalize hI : 2 * k = i at *
      generalize hN : m.acks.length * 2 = nA at *
      have HI2 := Lib.hid hI
      have HN2 := Lib.hid hN
      clear hI hN
      have hi0 : (0 : Int) ≤ (i : Int) := by omega
      have hi1 : (i : Int) < (nA : Int) := by omega
      have hi2 : (i : Int) + 1 < (nA : Int) := by omega
      have hi3 : i < nA := by omega
      go_wp2_with fail
      have hab := World.block_lt_of_cell? _ _ hc1
      simp only [] at hab
      have kD : Kp Noone wr wr.drew := (Kp.refl _ _).drew
      have d4 := kD.cell b4 id
      have d1 := kD.cell hc1 id
      clear b0 b1 b2 b3 b4 b5 b6 b7 bf hc1
      go_region_held3 (fun w' => w'.cell? ⟨g, 4, none⟩ = some (.slice (some ⟨ab, ao, none⟩) nA r.kc) ∧ w'.cell? ⟨ab, ao + i, none⟩ = some (.int .i64 (x1 : Int)))
        (first | exact ⟨by assumption, by assumption⟩)
        (first
          | ((fail_if_success (go_at_call_of 24 x1)); go_at_call 24; refine (refNum_any 2 _ (by unfold W64; omega)).mono ?_; rintro e w' ⟨yo, yc, rfl, hy, kw⟩; have d4 := kw.cell d4 id; have d1 := kw.cell d1 id; have k4 := kD.trans kw)
          | (go_at_call_of 24 x1; refine (refNum_any x1 w' hw64a).mono ?_; rintro e w2 ⟨zo, zc, rfl, hz, kw2⟩; have d4 := kw2.cell d4 id; have d1 := kw2.cell d1 id; have k5 := k4.trans kw2)
          | ((change Own _ _ _ _ _ _ _ _ at hz); refine step_append_gen rfl (.tmp 22) (.tmp 29) 31 (by dsimp only) 5 j0 (.int .u8 0) 1 1 Try.underlying31 hj hj0 hj1 hj2 rfl yo (numL 2).length yc (by rfl) zo (numL x1).length zc (by rfl) _ _ (hy.keep kw2) (bv (numL x1)) (by rw [length_bv, Nat.mul_one]) hz.bs.row (bv_one _) (by omega) (by unfold maxLen; omega) ?_; intro fo7 fc7 w7 ho7 k7; have d4 := k7.cell d4 (fun c => by have := (Ex.none c).1; simp at this; omega); have d1 := k7.cell d1 (fun c => by have := (Ex.none c).1; simp at this; omega)))
      have edr : wr.drew.heap.size = wr.heap.size := rfl
      have k57 : Kp Noone wr w7 := k5.fin k7 (fun j c => Or.inr (by have := (Ex.none c).1; omega))
      have s27 := k7.size
      have skw2 := kw2.size
      have skw := kw.size
      have hfo : Own (fun j => wr.heap.size ≤ j) w7 5 1 fo7 ((numL 2).length + (numL x1).length) fc7 (bv (numL 2 ++ numL x1)) := by
        have e : bv (numL 2 ++ numL x1) = bv (numL 2) ++ bv (numL x1) := by simp [bv]
        rw [e]
        exact ho7.mono (fun j _ c => by
          rcases c with c | c
          · have := (Ex.none c).1; omega
          · have := c.1; omega)
      have hc2' := k57.cell hc2 id
      obtain ⟨fhs, fA, fD, fz1, fz2, fAD, fln, fhl, fow, fda⟩ := HFR.out
      have fow2 := fow.mono (G := fun j => fA j ∧ j < wr.heap.size) (fun j hj c => ⟨c, hj⟩)
      have FD := Lib.hid fda
      have hfl : k ≤ 64 := by omega
      clear fow fda ho7 k7 hy hz kw kw2 k4 k5 d1 hc2 HFR
      go_wp2_with fail
      refine (refNum_any x2 _ hw64b).mono ?_
      rintro e w8 ⟨vo, vc, rfl, hv, kv⟩
      have d4 := kv.cell d4 id
      go_wp2_with (at_builtin; refine wpList_append_gen _ rfl (.tmp 32) (.tmp 40) 31 rfl 5 j0 (.int .u8 0) 1 1 Try.underlying31 hj hj0 hj1 hj2 rfl fo7 ((numL 2).length + (numL x1).length) fc7 rfl vo (numL x2).length vc rfl _ _ (hfo.keep kv) (bv (numL x2)) (by rw [length_bv, Nat.mul_one]) hv.bs.row (bv_one _) (by omega) (by unfold maxLen; omega) ?_)
      intro fo9 fc9 w9 ho9 k9
      have hXl : (numL 2 ++ numL x1 ++ numL x2).length = (numL 2).length + (numL x1).length + (numL x2).length := by rw [List.length_append, List.length_append]
      have kv9 : Kp Noone wr w9 := (k57.trans kv).fin k9 (fun j c => Or.inr c)
      have s79 := kv.size
      have s99 := k9.size
      have hx9 : Own (Ex Noone wr w9) w9 5 1 fo9 (numL 2 ++ numL x1 ++ numL x2).length fc9 (bv (numL 2 ++ numL x1 ++ numL x2)) := by
        rw [hXl]
        have e : bv (numL 2 ++ numL x1 ++ numL x2) = bv (numL 2 ++ numL x1) ++ bv (numL x2) := by simp [bv]
        rw [e]
        exact ho9.mono (fun j hj c => by
          rcases c with c | c
          · exact Or.inr ⟨c, hj⟩
          · exact Or.inr ⟨by omega, hj⟩)
      have hXb : (numL 2 ++ numL x1 ++ numL x2).length ≤ 30 := by omega
      rw [← hXl]
      clear hXl
      generalize numL 2 ++ numL x1 ++ numL x2 = X at *
      have kal : Kp Noone w9 (w9.alloc (.cells #[.slice fo9 X.length fc9] 31)) := (Kp.refl _ _).alloc _
      go_wp2_with (at_builtin; refine wpList_append_gen _ rfl (.tmp 31) (.tmp 42) 39 rfl 31 l0 (.slice none 0 0) 1 24 Try.underlying39 hl hl0 hl1 hl2 rfl fo k fcap rfl (some ⟨w9.heap.size, 0, none⟩) 1 1 rfl _ _ (fow2.keep (kv9.trans kal)) [.slice fo9 X.length fc9] rfl (Row.ofHeap (heap_alloc_new w9 _)) (by intro u hu; simp at hu; subst hu; rfl) (by omega) (by unfold maxLen; omega) ?_)
      intro go gcap w10 ho10 k10
      have hfs : FrsAt (g + 3) w10 go (k + 1) gcap ((m.acks.take (k + 1)).map ackFr) := by
        rw [hS.out]
        exact FrsAt.snoc hbg (fun j c => fz1 j c.1) fz2 (fun j c => fAD j c.1) (fun j c => c.2) fln fhl FD.out (Kp.refl _ _) hx9 kv9 kal ho10 k10
      have HMS10 := (HMS.out.keep (kv9.trans kal)).out3 k10 (fun j c => by have := fz1 j c.1; omega) (fun j c d => by have := fz1 j d.1; omega)
      have hi22 : Value.int .i64 ((i : Int) + 2) = .int .i64 ((2 * (k + 1) : Nat) : Int) := by
        have h1 := HI2.out
        have h2 : ((2 * (k + 1) : Nat) : Int) = (i : Int) + 2 := by omega
        rw [h2]
      have R := Lib.hid (EmA.mk (P := P) (w0 := w) (iv := .int .i64 ((i : Int) + 2)) ⟨k + 1, go, gcap, hi22, by omega, rfl, HMS10, hfs⟩)
      clear hfs HMS10 ho10 k10 hx9 kv9 kal ho9 k9 fow2 FD hv kv hfo k57 d4 hc2'
      go_wp2_with fail
      go_roundw
      case rel => exact R.out
      case measure =>
        have h1 := HN2.out
        have h2 := HI2.out
        simp [intOf]; omega
    · obtain rfl : k = m.acks.length := by omega
      rw [List.take_length] at hfr
      have HMS := Lib.hid hms
      have HFR := Lib.hid hfr
      clear hms hfr hrel
      go_upto_region 8 with fail
      have hk4 : Kp (fun j => j = g) wr (wr.setCell ⟨g, 4, none⟩ (.slice none 0 0)) := (Kp.refl (fun j => j = g) wr).setCell (p := ⟨g, 4, none⟩) (fun _ => rfl) _
      have HM2 : MSt (fun j => P j ∧ j < g) w g { m with acks := [] } ⟨r.oo, r.oc, none, 0, r.co, r.cc, r.hs⟩ (wr.setCell ⟨g, 4, none⟩ (.slice none 0 0)) := by
        refine HMS.out.boxed hk4 ((heap_set_cell (n := 4) (u := .slice none 0 0) HMS.out.box).trans (by simp [linkC])) ?_ (fun j c => by omega)
        have h0 := HMS.out.ref
        exact ⟨h0.outs, h0.hlen, h0.data, RowP.nil _ _ _, h0.came⟩
      have HF2 : FrsZ (fun k => g + 3 ≤ k) (wr.setCell ⟨g, 4, none⟩ (.slice none 0 0)) fo m.acks.length fcap (m.acks.map ackFr) := HFR.out.frsZ.kp hk4 (fun j c _ d => by omega)
      generalize wr.setCell ⟨g, 4, none⟩ (.slice none 0 0) = w2 at *
      clear b0 b1 b2 b3 b4 b5 b6 b7 bf hk4 HMS HFR
      obtain ⟨⟨b0, b1, b2, b3⟩, ⟨b4, b5, b6, b7⟩, bf⟩ := cells_eight HM2.box
      have kal : Kp Noone w2 (w2.alloc (.cells #[] 62)) := (Kp.refl _ _).alloc _
      have b3' := kal.cell b3 id
      have HM3 := HM2.keep kal
      have HF3 := HF2.kp kal (fun _ _ _ d => d)
      go_wp2_with fail
      generalize w2.alloc (.cells #[] 62) = w3 at *
      generalize w2.heap.size = g2 at *
      have HM3H := Lib.hid HM3
      have HF3H := Lib.hid HF3
      have hol := HO.out.outL
      have hrt := HO.out.retry
      have hbt := HO.out.boot
      have HON := Lib.hid HO.out.outN
      clear b0 b1 b2 b3 b4 b5 b6 b7 bf b3' HM2 HF2 kal HM3 HF3
      go_loopw [6, 9, 49] (fun fv ov jv wr => EmB P w g { m with acks := [] } ⟨r.oo, r.oc, none, 0, r.co, r.cc, r.hs⟩ (m.acks.map ackFr) now fv ov jv wr) (fun _ _ v _ => m.out.length - (intOf v).toNat)
      case atStart => exact EmB.mk ⟨0, fo, m.acks.length, fcap, _, 0, Noone, by rfl, Nat.zero_le _, rfl, rfl, HM3H.out, fun _ c => c.elim, Own.nil _ _ _ _ _, by simpa [datK] using HF3H.out.mono (fun j _ c => ⟨c, fun d => d⟩)⟩
      case round =>
        obtain ⟨k, fo2, n2, fc2, oo, oc, O, rfl, hk, rfl, rfl, hms, hO, hown, hfz⟩ := hrel.ex
        clear HM3H HF3H
        simp only [] at hk
        by_cases hlt : k < m.out.length
        · have hrl := hms.ref.hlen
          obtain ⟨rb, ro, hro, r0, r1, r2, r3⟩ := Row.four hms.ref.outs.row hrl k hlt (by simp only [] at hrl ⊢; omega)
          obtain ⟨rb', ro', hro', z0, -, -, -⟩ := Row.four hms.ref.outs.row hrl 0 (by simp only []; omega) (by simp only [] at hrl ⊢; omega)
          rw [hro] at hro'
          cases hro'
          simp only [Nat.zero_mul, Nat.add_zero] at hro r0 r1 r2 r3 z0
          obtain ⟨⟨b0, b1, b2, b3⟩, ⟨b4, b5, b6, b7⟩, bf⟩ := cells_eight hms.box
          simp only [] at b0 b1 b2 b3 b4 b5 b6 b7
          rw [hro] at b3
          have hb1 := HON.out _ (List.getElem_mem hlt)
          have hb0 := HON.out _ (List.getElem_mem (show 0 < m.out.length by omega))
          have hdj := hms.ref.data k (by simp only [] at hrl ⊢; omega) hlt
          simp only [] at hdj
          have HSK : Hid (skipH m.retry now m.out[k] = (m.out[k].sent && (decide (m.out[k].time ≤ now) && decide (now - m.out[k].time < m.retry)))) := Lib.hid rfl
          have HUP : Hid (updH m.retry now m.out[k] = if skipH m.retry now m.out[k] then m.out[k] else { m.out[k] with sent := true, time := now }) := Lib.hid rfl
          have HMS := Lib.hid hms
          have HOW := Lib.hid hown
          have HFZ := Lib.hid hfz
          have hwj : IntKind.i64.wrap ((k : Int) + 1) = (k : Int) + 1 := IntWalk.i64_in _ (by omega)
          have hk0 : (0 : Int) ≤ (k : Int) := by omega
          have hk1 : (k : Int) < (m.out.length : Int) := by omega
          have HT1 := Lib.hid (show (m.out.take (k + 1)).map (updH m.retry now) = (m.out.take k).map (updH m.retry now) ++ [updH m.retry now m.out[k]] by rw [List.take_succ_eq_append_getElem hlt, List.map_append]; rfl)
          have HKL := Lib.hid (show (datK m.boot m.retry now (baseOf m.out) m.out k).length ≤ 64 by unfold datK; rw [List.length_map]; exact Nat.le_trans (List.length_filter_le _ _) (by rw [List.length_take]; omega))
          have HD1 := Lib.hid (fun h => datK_skip m.boot m.retry now (baseOf m.out) m.out k hlt h)
          have HD2 := Lib.hid (fun h => datK_due m.boot m.retry now (baseOf m.out) m.out k hlt h)
          have HBA := Lib.hid (baseOf_eq m.out (by omega))
          have HHT := Lib.hid (show r.hs.take (k + 1) = r.hs.take k ++ [r.hs[k]'(by simp only [] at hrl; omega)] from List.take_succ_eq_append_getElem _)
          generalize r.hs[k]'(by simp only [] at hrl; omega) = hx at *
          obtain ⟨ho, hm2, hc⟩ := hx
          generalize m.out[k] = X at *
          generalize m.out[0].num = yb at *
          obtain ⟨y, dat, sb, tm⟩ := X
          simp only [] at r0 r1 r2 r3 hb1 hdj HSK HUP
          clear hms hown hfz hrel hro hrl
          go_upto_region 13 with fail
          have kB : Kp Noone wr (wr.alloc (.cells #[.int .i64 y, .slice ho hm2 hc, .bool sb, .int .i64 tm] 62)) := (Kp.refl _ _).alloc _
          have hhB := heap_alloc_new wr (.cells #[.int .i64 y, .slice ho hm2 hc, .bool sb, .int .i64 tm] 62)
          have hbS : wr.heap.size < (wr.alloc (.cells #[.int .i64 y, .slice ho hm2 hc, .bool sb, .int .i64 tm] 62)).heap.size := (Array.getElem?_eq_some_iff.1 hhB).1
          have z0B := kB.cell z0 id
          have hrb := World.block_lt_of_cell? _ _ z0
          simp only [] at hrb
          have B0 := kB.cell b0 id
          have B1 := kB.cell b1 id
          have B3 := kB.cell b3 id
          clear r0 r1 r2 r3 b0 b1 b2 b3 b4 b5 b6 b7 bf z0
          generalize wr.alloc (.cells #[.int .i64 y, .slice ho hm2 hc, .bool sb, .int .i64 tm] 62) = wB at *
          generalize hgh : wr.heap.size = gh at *
          have hc0 : wB.cell? ⟨gh, 0, none⟩ = some (.int .i64 y) := by rw [cell_of_row wB gh 0 _ _ _ hhB]; rfl
          have hc1 : wB.cell? ⟨gh, 1, none⟩ = some (.slice ho hm2 hc) := by rw [cell_of_row wB gh 1 _ _ _ hhB]; rfl
          have hc2 : wB.cell? ⟨gh, 2, none⟩ = some (.bool sb) := by rw [cell_of_row wB gh 2 _ _ _ hhB]; rfl
          have hc3 : wB.cell? ⟨gh, 3, none⟩ = some (.int .i64 tm) := by rw [cell_of_row wB gh 3 _ _ _ hhB]; rfl
          obtain ⟨hy1, hy2, hdl0, ht1, ht2⟩ := hb1
          go_cut [83] from 57 to 83 (fun v wx => v = .bool (!skipH m.retry now ⟨y, dat, sb, tm⟩) ∧ Kp Noone wB wx)
          case first =>
            have hwr : IntKind.u64.wrap m.retry = m.retry := IntWalk.u64_in _ (by omega)
            cases sb with
            | false =>
              go_wp2_with fail
              go_meet
              case rel => exact ⟨by rw [HSK.out]; rfl, Kp.refl _ _⟩
            | true =>
              by_cases h1 : tm ≤ now
              · have hu : IntKind.u64.wrap (IntKind.u64.wrap now - IntKind.u64.wrap tm) = now - tm := by
                  simp [IntKind.wrap, IntKind.bits, IntKind.signed]; omega
                have h1' : ¬ now < tm := by omega
                by_cases h2 : m.retry ≤ now - tm
                · have H1 := Lib.hid h1
                  have H2 := Lib.hid h2
                  go_wp2_with fail
                  go_meet
                  case rel => exact ⟨by rw [HSK.out, decide_eq_true H1.out, decide_eq_false (show ¬ (now - tm < m.retry) by have := H2.out; omega)]; rfl, Kp.refl _ _⟩
                · have H1 := Lib.hid h1
                  have H2 := Lib.hid h2
                  go_wp2_with fail
                  go_meet
                  case rel => exact ⟨by rw [HSK.out, decide_eq_true H1.out, decide_eq_true (show now - tm < m.retry by have := H2.out; omega)]; rfl, Kp.refl _ _⟩
              · have H1 := Lib.hid h1
                have h1' : now < tm := by omega
                go_wp2_with fail
                go_meet
                case rel => exact ⟨by rw [HSK.out, decide_eq_false (show ¬ (tm ≤ now) by have := H1.out; omega)]; rfl, Kp.refl _ _⟩
          case rest =>
          obtain ⟨rfl, kx⟩ := hcut
          have hhc := kx.heap hhB id
          have HMSB := Lib.hid (show MSt _ w g _ _ wr from HMS.out)
          have kBx := kB.trans kx
          have HMS1 := HMS.out.keep kBx
          have HOW1 := HOW.out.keep kBx
          have HFZ1 := (HFZ.out.mono (Y := fun j => (g + 3 ≤ j ∧ ¬ O j) ∧ j ≠ gh) (fun j hj c => ⟨c, by omega⟩)).kp kBx (fun _ _ _ c => c)
          have HDX := Lib.hid (hdj.kp kBx (fun _ _ c => c))
          have hOg : ∀ j, O j → j ≠ gh := fun j c => by have := hO j c; omega
          have b0C := kx.cell B0 id
          have b3C := kx.cell B3 id
          have z0C := kx.cell z0B id
          have hO1 : ∀ j, O j → g + 3 ≤ j ∧ j < wc.heap.size := fun j c => by have h1 := hO j c; have h2 := kx.size; omega
          clear hc0 hc1 hc2 hc3 B0 B1 B3 z0B kB kBx kx hhB HMS HOW HFZ
          go_upto_if 83 with fail
          go_cut [6, 12] from 50 to 119 (fun fv _ wx => EmC P w g gh { m with acks := [] } ⟨r.oo, r.oc, none, 0, r.co, r.cc, r.hs⟩ O (updH m.retry now ⟨y, dat, sb, tm⟩) (ho, hm2, hc) oo k oc (outC ((m.out.take k).map (updH m.retry now)) (r.hs.take k)) (m.acks.map ackFr ++ datK m.boot m.retry now (baseOf m.out) m.out (k + 1)) fv wx)
          case first =>
            cases hsk : skipH m.retry now ⟨y, dat, sb, tm⟩ with
            | true =>
              have R := Lib.hid (EmC.mk (fv := .slice fo2 n2 fc2) ⟨fo2, n2, fc2, rfl, (show wc.heap[gh]? = some (.cells #[.int .i64 (updH m.retry now ⟨y, dat, sb, tm⟩).num, .slice (ho, hm2, hc).1 (ho, hm2, hc).2.1 (ho, hm2, hc).2.2, .bool (updH m.retry now ⟨y, dat, sb, tm⟩).sent, .int .i64 (updH m.retry now ⟨y, dat, sb, tm⟩).time] 62 (0, 0)) by rw [HUP.out, hsk]; exact hhc), HMS1, hO1, HOW1, (show FrsZ _ wc fo2 n2 fc2 (m.acks.map ackFr ++ datK m.boot m.retry now (baseOf m.out) m.out (k + 1)) by rw [HD1.out hsk]; exact HFZ1.mono (fun _ _ c => c.1))⟩)
              clear hsk HMS1 HOW1 HFZ1 hhc b0C b3C z0C
              go_wp2_with fail
              go_meet
              case rel => exact R.out
            | false =>
              have hnx2 := HO.out.next
              obtain ⟨xb, hxb⟩ := Int.eq_ofNat_of_zero_le (show (0 : Int) ≤ m.boot by omega)
              obtain ⟨xy, hxy⟩ := Int.eq_ofNat_of_zero_le (show (0 : Int) ≤ y by omega)
              obtain ⟨xz, hxz⟩ := Int.eq_ofNat_of_zero_le (show (0 : Int) ≤ yb by omega)
              have hlen := HDX.out.1.len
              simp only [] at hlen
              have HX : Hid (datFr m.boot (baseOf m.out) ⟨y, dat, sb, tm⟩ = numL 1 ++ numL xb ++ numL xy ++ numL xz ++ (numL hm2 ++ dat)) := Lib.hid (by
                rw [HBA.out, hxb, hxy, hxz]
                simp [datFr, hlen])
              have hc2 : wc.cell? ⟨gh, 2, none⟩ = some (.bool sb) := by rw [cell_of_row wc gh 2 _ _ _ hhc]; rfl
              have hc3 : wc.cell? ⟨gh, 3, none⟩ = some (.int .i64 tm) := by rw [cell_of_row wc gh 3 _ _ _ hhc]; rfl
              have hwb1 : IntKind.u64.wrap (xb : Int) = (xb : Int) := IntWalk.u64_in _ (by omega)
              have hwb2 : IntKind.u64.wrap (xy : Int) = (xy : Int) := IntWalk.u64_in _ (by omega)
              have hwb3 : IntKind.u64.wrap (xz : Int) = (xz : Int) := IntWalk.u64_in _ (by omega)
              have hw64b : W64 xb := by unfold W64; omega
              have hw64y : W64 xy := by unfold W64; omega
              have hw64z : W64 xz := by unfold W64; omega
              have hdl : hm2 ≤ 65472 := by omega
              have hm0 : (0 : Int) < (m.out.length : Int) := by omega
              have hnl : ∀ u, (numL u).length ≤ 9 := fun u => by rw [length_numL]; have := sizeN_le u; omega
              have hnl1 := hnl 1
              have hnlb := hnl xb
              have hnly := hnl xy
              have hnlz := hnl xz
              have hnlm := hnl hm2
              have HE2 := Lib.hid (HD2.out hsk)
              have hbz : ∀ i, wc.frozen? ⟨gh, i, none⟩ = false := fun i => by simp [World.frozen?, hhc]
              have HXB := Lib.hid hxb
              have HXY := Lib.hid hxy
              have HXZ := Lib.hid hxz
              clear hxb hxy hxz
              go_upto_region 16 with fail
              have hk4 : Kp (fun j => j = gh) wc ((wc.setCell ⟨gh, 2, none⟩ (.bool true)).setCell ⟨gh, 3, none⟩ (.int .i64 now)) := ((Kp.refl (fun j => j = gh) wc).setCell (p := ⟨gh, 2, none⟩) (fun _ => rfl) _).setCell (p := ⟨gh, 3, none⟩) (fun _ => rfl) _
              have hh2 : ((wc.setCell ⟨gh, 2, none⟩ (.bool true)).setCell ⟨gh, 3, none⟩ (.int .i64 now)).heap[gh]? = some (.cells #[.int .i64 y, .slice ho hm2 hc, .bool true, .int .i64 now] 62 (0, 0)) := (heap_set_cell (heap_set_cell hhc)).trans (by simp)
              have hbig := HMS1.big
              have hgg : g + 3 ≤ gh := by have := HMSB.out.big; omega
              have HMS2 := HMS1.out3 hk4 (fun j c => by omega) (fun j c d => by omega)
              have HOW2 := HOW1.kp hk4 (fun j c d => hOg j c d)
              have HFZ2 := HFZ1.kp hk4 (fun j c _ d => c.2 d)
              have HDX2 := Lib.hid (HDX.out.kp hk4 (fun j c d => by omega))
              have b0D := hk4.cell b0C (fun d => by simp only [] at d; omega)
              have b3D := hk4.cell b3C (fun d => by simp only [] at d; omega)
              have z0D := hk4.cell z0C (fun d => by simp only [] at d; omega)
              have sz2 := hk4.size
              have hO2 : ∀ j, O j → g + 3 ≤ j ∧ j < ((wc.setCell ⟨gh, 2, none⟩ (.bool true)).setCell ⟨gh, 3, none⟩ (.int .i64 now)).heap.size := fun j c => by have h1 := hO1 j c; omega
              clear hhc hc2 hc3 hbz hk4 HMS1 HOW1 HFZ1 HDX b0C b3C z0C hO1 sz2 hbig
              generalize (wc.setCell ⟨gh, 2, none⟩ (.bool true)).setCell ⟨gh, 3, none⟩ (.int .i64 now) = w2 at *
              have hghl : gh < w2.heap.size := (Array.getElem?_eq_some_iff.1 hh2).1
              have g0 : w2.cell? ⟨gh, 0, none⟩ = some (.int .i64 (xy : Int)) := by rw [cell_of_row w2 gh 0 _ _ _ hh2]; simp [HXY.out]
              have g1 : w2.cell? ⟨gh, 1, none⟩ = some (.slice ho hm2 hc) := by rw [cell_of_row w2 gh 1 _ _ _ hh2]; rfl
              rw [HXB.out] at b0D
              rw [HXZ.out] at z0D
              have hfl : n2 ≤ 128 := by
                obtain ⟨fhs, fA, fD, fz1, fz2, fAD, fln, fhl, fow, fda⟩ := HFZ2
                have e1 := HKL.out
                rw [List.length_append, List.length_map] at fln
                simp only [] at fln
                omega
              have kD : Kp Noone w2 w2.drew := (Kp.refl _ _).drew
              have d0 := kD.cell b0D id
              have HUE : Hid (updH m.retry now ⟨y, dat, sb, tm⟩ = ⟨y, dat, true, now⟩) := Lib.hid (by rw [HUP.out, hsk]; rfl)
              clear hsk
              go_region_held3 (fun w' => w'.cell? ⟨g, 0, none⟩ = some (.int .i64 (xb : Int)))
                (first | assumption)
                (first
                  | ((fail_if_success (go_at_call_of 24 xb)); go_at_call 24; refine (refNum_any 1 _ (by unfold W64; omega)).mono ?_; rintro e w' ⟨yo, yc, rfl, hy, kw⟩; have d0 := kw.cell d0 id; have k4 := kD.trans kw)
                  | (go_at_call_of 24 xb; refine (refNum_any xb w' hw64b).mono ?_; rintro e w3 ⟨zo, zc, rfl, hz, kw2⟩; have d0 := kw2.cell d0 id; have k5 := k4.trans kw2)
                  | ((change Own _ _ _ _ _ _ _ _ at hz); refine step_append_gen rfl (.tmp 87) (.tmp 91) 31 (by dsimp only) 5 j0 (.int .u8 0) 1 1 Try.underlying31 hj hj0 hj1 hj2 rfl yo (numL 1).length yc (by rfl) zo (numL xb).length zc (by rfl) _ _ (hy.keep kw2) (bv (numL xb)) (by rw [length_bv, Nat.mul_one]) hz.bs.row (bv_one _) (by omega) (by unfold maxLen; omega) ?_; intro fo7 fc7 w7 ho7 k7; have d0 := k7.cell d0 (fun c => by have := (Ex.none c).1; simp at this; omega)))
              have edr : w2.drew.heap.size = w2.heap.size := rfl
              have k57 : Kp Noone w2 w7 := k5.fin k7 (fun j c => Or.inr (by have := (Ex.none c).1; omega))
              have s27 := k7.size
              have skw2 := kw2.size
              have skw := kw.size
              have hfo : Own (fun j => w2.heap.size ≤ j) w7 5 1 fo7 ((numL 1).length + (numL xb).length) fc7 (bv (numL 1 ++ numL xb)) := by
                have e : bv (numL 1 ++ numL xb) = bv (numL 1) ++ bv (numL xb) := by simp [bv]
                rw [e]
                exact ho7.mono (fun j _ c => by
                  rcases c with c | c
                  · have := (Ex.none c).1; omega
                  · have := c.1; omega)
              have X1l : (numL 1 ++ numL xb).length = (numL 1).length + (numL xb).length := List.length_append
              rw [← X1l] at hfo ⊢
              clear ho7 k7 hy hz kw kw2 k4 k5 d0 b0D
              have X1b : (numL 1 ++ numL xb).length ≤ 18 := by omega
              clear X1l
              generalize numL 1 ++ numL xb = X1 at *
              have e0 := k57.cell g0 id
              go_wp2_with fail
              refine (refNum_any xy _ hw64y).mono ?_
              rintro e w8 ⟨vo, vc, rfl, hv, kv⟩
              go_wp2_with (at_builtin; refine wpList_append_gen _ rfl (.tmp 93) (.tmp 97) 31 rfl 5 j0 (.int .u8 0) 1 1 Try.underlying31 hj hj0 hj1 hj2 rfl fo7 X1.length fc7 rfl vo (numL xy).length vc rfl _ _ (hfo.keep kv) (bv (numL xy)) (by rw [length_bv, Nat.mul_one]) hv.bs.row (bv_one _) (by omega) (by unfold maxLen; omega) ?_)
              intro fo9 fc9 w9 ho9 k9
              have k59 : Kp Noone w2 w9 := (k57.trans kv).fin k9 (fun j c => Or.inr c)
              have s78 := kv.size
              have s79 := k57.size
              have hf9 := grow_own ho9 (by omega)
              have X2l : (X1 ++ numL xy).length = X1.length + (numL xy).length := List.length_append
              rw [← X2l] at hf9 ⊢
              have X2b : (X1 ++ numL xy).length ≤ 27 := by omega
              clear ho9 k9 hv kv hfo e0 X2l
              generalize X1 ++ numL xy = X2 at *
              have e1 := k59.cell b3D id
              have e2 := k59.cell z0D id
              go_wp2_with fail
              refine (refNum_any xz _ hw64z).mono ?_
              rintro e w10 ⟨vo2, vc2, rfl, hv2, kv2⟩
              go_wp2_with (at_builtin; refine wpList_append_gen _ rfl (.tmp 99) (.tmp 106) 31 rfl 5 j0 (.int .u8 0) 1 1 Try.underlying31 hj hj0 hj1 hj2 rfl fo9 X2.length fc9 rfl vo2 (numL xz).length vc2 rfl _ _ (hf9.keep kv2) (bv (numL xz)) (by rw [length_bv, Nat.mul_one]) hv2.bs.row (bv_one _) (by omega) (by unfold maxLen; omega) ?_)
              intro fo11 fc11 w11 ho11 k11
              have k511 : Kp Noone w2 w11 := (k59.trans kv2).fin k11 (fun j c => Or.inr c)
              have s910 := kv2.size
              have s99 := k59.size
              have hf11 := grow_own ho11 (by omega)
              have X3l : (X2 ++ numL xz).length = X2.length + (numL xz).length := List.length_append
              rw [← X3l] at hf11 ⊢
              have X3b : (X2 ++ numL xz).length ≤ 36 := by omega
              clear ho11 k11 hv2 kv2 hf9 e1 e2 X3l
              generalize X2 ++ numL xz = X3 at *
              have e3 := k511.cell g1 id
              have HDX3 := HDX2.out.kp k511 (fun _ _ c => c)
              have hdb := HDX3.1
              simp only [] at hdb
              go_wp2_with fail
              refine (refText_any ho hm2 hc dat _ hdb (by omega)).mono ?_
              rintro e w12 ⟨vo3, vc3, rfl, hv3, kv3⟩
              have T1l : (numL hm2 ++ dat).length ≤ 65500 := by rw [List.length_append]; omega
              generalize numL hm2 ++ dat = T1 at *
              go_wp2_with (at_builtin; refine wpList_append_gen _ rfl (.tmp 109) (.tmp 112) 31 rfl 5 j0 (.int .u8 0) 1 1 Try.underlying31 hj hj0 hj1 hj2 rfl fo11 X3.length fc11 rfl vo3 T1.length vc3 rfl _ _ (hf11.keep kv3) (bv T1) (by rw [length_bv, Nat.mul_one]) hv3.bs.row (bv_one _) (by omega) (by unfold maxLen; omega) ?_)
              intro fo13 fc13 w13 ho13 k13
              have k513 : Kp Noone w2 w13 := (k511.trans kv3).fin k13 (fun j c => Or.inr c)
              have s112 := kv3.size
              have s113 := k511.size
              have s114 := k513.size
              have hf13 := grow_own ho13 (by omega)
              have X4l : (X3 ++ T1).length = X3.length + T1.length := List.length_append
              rw [← X4l] at hf13 ⊢
              clear X4l
              have X4b : (X3 ++ T1).length ≤ 65600 := by rw [List.length_append]; omega
              generalize X3 ++ T1 = X4 at *
              have hx13 : Own (Ex Noone w2 w13) w13 5 1 fo13 X4.length fc13 (bv X4) := hf13.mono (fun j hj c => Or.inr ⟨c, hj⟩)
              obtain ⟨fhs, fA, fD, fz1, fz2, fAD, fln, fhl, fow, fda⟩ := HFZ2
              have kal : Kp Noone w13 (w13.alloc (.cells #[.slice fo13 X4.length fc13] 31)) := (Kp.refl _ _).alloc _
              clear ho13 k13 hv3 kv3 hf11 e3 HDX3 hdb hf13
              go_wp2_with (at_builtin; refine wpList_append_gen _ rfl (.tmp 108) (.tmp 114) 39 rfl 31 l0 (.slice none 0 0) 1 24 Try.underlying39 hl hl0 hl1 hl2 rfl fo2 n2 fc2 rfl (some ⟨w13.heap.size, 0, none⟩) 1 1 rfl _ _ (fow.keep (k513.trans kal)) [.slice fo13 X4.length fc13] rfl (Row.ofHeap (heap_alloc_new w13 _)) (by intro u hu; simp at hu; subst hu; rfl) (by omega) (by unfold maxLen; omega) ?_)
              intro go gcap w14 ho14 k14
              have sA := kal.size
              have s14 := k14.size
              have hnew := (FrsZ.snoc fz1 fz2 fAD fln fhl fda hx13 k513 kal ho14 k14).mono (Y := fun j => g + 3 ≤ j ∧ ¬ O j) (fun j _ c => by
                rcases c with c | c
                · exact c.1
                · exact ⟨by omega, fun d => by have := hO2 j d; omega⟩)
              have HMS14 := (HMS2.keep (k513.trans kal)).out3 k14 (fun j c => by have := fz1 j c; omega) (fun j c d => by have := fz1 j d; omega)
              have hh14 := k14.heap ((k513.trans kal).heap hh2 id) (fun c => (fz1 gh c).1.2 rfl)
              have HOW14 := (HOW2.keep (k513.trans kal)).kp k14 (fun j c d => (fz1 j d).1.1.2 c)
              have hO14 : ∀ j, O j → g + 3 ≤ j ∧ j < w14.heap.size := fun j c => by have := hO2 j c; omega
              have R := Lib.hid (EmC.mk (P := P) (w0 := w) (g := g) (gh := gh) (m := { m with acks := [] }) (X := updH m.retry now ⟨y, dat, sb, tm⟩) (hx := (ho, hm2, hc)) (fs := m.acks.map ackFr ++ datK m.boot m.retry now (baseOf m.out) m.out (k + 1)) (fv := .slice go (n2 + 1) gcap) ⟨go, n2 + 1, gcap, rfl, by rw [HUE.out]; exact hh14, HMS14, hO14, HOW14, by rw [HE2.out, HX.out, ← List.append_assoc]; exact hnew⟩)
              clear hnew HMS14 hh14 HOW14 hO14 ho14 k14 kal hx13 fow fda k513 k511 k59 k57 HMS2 HOW2 hh2 g0 g1
              go_wp2_with fail
              go_meet
              case rel => exact R.out
          case rest =>
            obtain ⟨fo3, n3, fc3, rfl, hh3, hms3, hO3, hown3, hfz3⟩ := hcut.ex
            clear HMS1 HOW1 HFZ1 hhc hO1 hO b0C b3C z0C
            have hrl3 := hms3.ref.hlen
            simp only [] at hrl3
            have HL1 : Hid ((r.hs.take k).length = ((m.out.take k).map (updH m.retry now)).length) := Lib.hid (by simp; omega)
            have hbig3 := hms3.big
            generalize updH m.retry now ⟨y, dat, sb, tm⟩ = U at *
            have hpair : outC [U] [(ho, hm2, hc)] = [.int .i64 U.num, .slice ho hm2 hc, .bool U.sent, .int .i64 U.time] := rfl
            have HPA := Lib.hid hpair
            clear hpair
            generalize U.num = un at *
            generalize U.sent = us at *
            generalize U.time = ut at *
            have c0 : wc.cell? ⟨gh, 0, none⟩ = some (.int .i64 un) := by rw [cell_of_row wc gh 0 _ _ _ hh3]; rfl
            have c1 : wc.cell? ⟨gh, 1, none⟩ = some (.slice ho hm2 hc) := by rw [cell_of_row wc gh 1 _ _ _ hh3]; rfl
            have c2 : wc.cell? ⟨gh, 2, none⟩ = some (.bool us) := by rw [cell_of_row wc gh 2 _ _ _ hh3]; rfl
            have c3 : wc.cell? ⟨gh, 3, none⟩ = some (.int .i64 ut) := by rw [cell_of_row wc gh 3 _ _ _ hh3]; rfl
            have kal2 : Kp Noone wc (wc.alloc (.cells #[.int .i64 un, .slice ho hm2 hc, .bool us, .int .i64 ut] 62)) := (Kp.refl _ _).alloc _
            have hrow4 : Row (wc.alloc (.cells #[.int .i64 un, .slice ho hm2 hc, .bool us, .int .i64 ut] 62)) (some ⟨wc.heap.size, 0, none⟩) [.int .i64 un, .slice ho hm2 hc, .bool us, .int .i64 ut] := Row.ofHeap (heap_alloc_new wc _)
            have hone4 : ∀ u ∈ [Value.int .i64 un, .slice ho hm2 hc, .bool us, .int .i64 ut], u.oneCell' = true := by intro u hu; simp at hu; rcases hu with rfl | rfl | rfl | rfl <;> rfl
            have HMS3 := Lib.hid hms3
            have HFZ3 := Lib.hid (hfz3.mono (Y := fun j => (g + 3 ≤ j ∧ ¬ O j) ∧ j < wc.heap.size) (fun j hj c => ⟨c, hj⟩))
            clear hh3 hms3 hfz3
            go_wp2_with (at_builtin; refine wpList_append_gen _ rfl (.tmp 116) (.tmp 118) 26 rfl 62 i0 (.agg #[.int .i64 0, .slice none 0 0, .bool false, .int .i64 0]) 4 48 Try.underlying26 hi hz0 hz1 hz2 rfl oo k oc rfl (some ⟨wc.heap.size, 0, none⟩) 1 1 rfl _ _ (hown3.keep kal2) [.int .i64 un, .slice ho hm2 hc, .bool us, .int .i64 ut] rfl hrow4 hone4 (by omega) (by unfold maxLen; omega) ?_)
            intro ao3 c3' w9 ho9 k9
            have hsa := kal2.size
            have hs9 := k9.size
            have HM9 := (HMS3.out.keep kal2).out3 k9 (fun j c => by have := hO3 j c; omega) (fun j c d => by have := hO3 j d; omega)
            have HF9 := ((HFZ3.out.kp kal2 (fun _ _ _ c => c)).kp k9 (fun j c _ d => c.1.2 d)).mono (Y := fun j => g + 3 ≤ j ∧ ¬ Ex O (wc.alloc (.cells #[.int .i64 un, .slice ho hm2 hc, .bool us, .int .i64 ut] 62)) w9 j) (fun j _ c => ⟨c.1.1, fun d => by
              rcases d with d | d
              · exact c.1.2 d
              · have := d.1; omega⟩)
            have R := Lib.hid (EmB.mk (P := P) (w0 := w) (g := g) (m := { m with acks := [] }) (r := ⟨r.oo, r.oc, none, 0, r.co, r.cc, r.hs⟩) (pre := m.acks.map ackFr) (now := now) (fv := .slice fo3 n3 fc3) (ov := .slice ao3 (k + 1) c3') (jv := .int .i64 ((k + 1 : Nat) : Int)) ⟨k + 1, fo3, n3, fc3, ao3, c3', _, rfl, by simp only []; omega, rfl, rfl, HM9, fun j c => by
              rcases c with c | c
              · have := hO3 j c; omega
              · have := c.1; have := c.2; omega, by
              show Own _ w9 _ 4 ao3 (k + 1) c3' (outC ((m.out.take (k + 1)).map (updH m.retry now)) (r.hs.take (k + 1)))
              rw [HT1.out, HHT.out, outC_append _ _ _ _ HL1.out, HPA.out]
              simpa only [List.map_take] using ho9, HF9⟩)
            clear HM9 HF9 ho9 k9 hown3 kal2 hrow4 hone4 c0 c1 c2 c3
            go_wp2_with fail
            go_roundw
            case rel => exact R.out
            case measure => simp [intOf]; omega
        · obtain rfl : k = m.out.length := by omega
          have hrl := hms.ref.hlen
          simp only [] at hrl
          have hro : RefAt (fun j => (P j ∧ j < g) ∨ g + 3 ≤ j) wr (emitR m now).1 ⟨oo, oc, none, 0, r.co, r.cc, r.hs⟩ := by
            have h0 := hms.ref
            rw [List.take_length, show r.hs.take m.out.length = r.hs by rw [← hrl, List.take_length]] at hown
            refine ⟨?_, by simpa [emitR] using hrl, fun j h1 h2 => ?_, h0.acks.mono (fun _ _ c => Or.inl c), h0.came.mono (fun _ _ c => Or.inl c)⟩
            · show RowP _ wr oo (m.out.map (updH m.retry now)).length oc (outC (m.out.map (updH m.retry now)) r.hs)
              rw [List.length_map]
              exact hown.rowP.mono (fun j _ c => Or.inr (hO j c).1)
            · have h3 : j < m.out.length := by simpa [emitR] using h2
              have h4 := (h0.data j h1 h3).mono (E := fun j => (P j ∧ j < g) ∨ g + 3 ≤ j) (fun _ _ c => Or.inl c)
              have h5 : ((emitR m now).1.out[j]'h2).data = m.out[j].data := by
                simp only [emitR, List.getElem_map]
                exact updH_dataE _ _ _
              rw [h5]
              exact h4
          have hL : (emitR m now).1.out.length = m.out.length := by simp [emitR]
          have hF2 : (emitR m now).2 = m.acks.map ackFr ++ datK m.boot m.retry now (baseOf m.out) m.out m.out.length := by simp [emitR, datK]
          have hbs := hfz.bss
          simp only [] at hbs
          rw [← hF2] at hbs
          have hbl := hbs.len
          rw [← hbl] at hbs
          obtain ⟨M1, hM1⟩ : ∃ M1, emitR m now = M1 := ⟨_, rfl⟩
          have e1 : M1.1.boot = m.boot ∧ M1.1.retry = m.retry ∧ M1.1.next = m.next ∧ M1.1.acks = [] ∧ M1.1.peer = m.peer ∧ M1.1.below = m.below ∧ M1.1.came = m.came := by rw [← hM1]; exact ⟨rfl, rfl, rfl, rfl, rfl, rfl, rfl⟩
          obtain ⟨e1, e2', e3, e4, e5, e6, e7⟩ := e1
          rw [hM1] at hro hL hbs hbl
          have hms1 := hms.setOut M1.1 ⟨oo, oc, none, 0, r.co, r.cc, r.hs⟩ (by simp [linkC, e1, e2', e3, e4, e5, e6, e7]) hro (fun j c => by omega)
          have hf := hms1.fin (P := P) (fun j c => c)
          rw [e1, e2', e3, e4, e5, e6, e7, hL] at hf
          simp only [List.length_nil, Nat.zero_mul] at hf
          have hkF : Kp (fun j => j = g ∨ j = g + 1) wr (wr.setCell ⟨g, 3, none⟩ (.slice oo m.out.length oc)) := Kp.setCell (Kp.refl _ _) (fun _ => Or.inl rfl) _
          have hfzF := hfz.kp (set8_kpS hkF (Or.inr rfl) (.int .i64 m.boot) (.int .i64 m.retry) (.int .i64 m.next) (.slice oo m.out.length oc) (.slice none 0 0) (.int .i64 m.peer) (.int .i64 m.below) (.slice r.co m.came.length r.cc)) (fun j c _ d => by omega)
          have hgg := hms.hg
          have hbsF := (show NewFrs w _ _ _ _ _ from hfzF.frsP.mono (fun j _ c => by omega))
          simp only [] at hbsF
          rw [← hF2, ← hbl, hM1] at hbsF
          obtain ⟨⟨b0, b1, b2, b3⟩, ⟨b4, b5, b6, b7⟩, bf⟩ := cells_eight hms.box
          obtain ⟨⟨p0, p1, p2, p3⟩, ⟨p4, p5, p6, p7⟩, pf⟩ := cells_eight hms.ans
          have HF := Lib.hid hf
          have HBF := Lib.hid hbsF
          have HM1 := Lib.hid hM1
          clear hf hbsF hfzF hkF hbs hms1 hro hF2 e1 e2' e3 e4 e5 e6 e7 hM1 hown hfz hms hL hrl
          subst hbl
          go_wp2_with fail
          obtain rfl := HM1.out
          refine bodyPost_ret (v := .tuple #[linkV (emitR m now).1 ⟨oo, oc, none, 0, r.co, r.cc, r.hs⟩, .slice fo2 (emitR m now).2.length fc2]) ?_ rfl ⟨⟨oo, oc, none, 0, r.co, r.cc, r.hs⟩, fo2, fc2, rfl, HF.out.1, HBF.out⟩
          exact results_row_tmp (fn := Try.f14) (p := 4) (u := 5) rfl _ _ (g + 1) _ rfl HF.out.2 rfl

end Go.Proofs.Ytlpdoefbjhlegaa
