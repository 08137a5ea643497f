/-
  WalRefA, WalRefB, WalRefC, WalRefD in one text.
-/
import Derived.Test.YtigdhdclfdojgaaGreatWalPlain
import Derived.Test.YtigdhdclfdojgaaGreatPackSeal
import Derived.Test.YtigdhdclfdojgaaGreatWalSimAll
import Derived.Test.YtigdhdclfdojgaaGreatRefDiskA
import Derived.Test.YtigdhdclfdojgaaGreatSnapRefAll
/-
  THE WALKS of the document's log: Name, Frame, Header.
-/
namespace Go.Proofs.YtigdhdclfdojgaaGreat
open Go.RowKit

/-- The last k digits. -/
def sufW (n k : Nat) : List UInt8 := (dig6 n).drop (6 - k)
theorem sufW_step (n k : Nat) (h : k < 6) : dg (n / 10 ^ k) :: sufW n k = sufW n (k + 1) := by
  match k, h with
  | 0, _ => simp [sufW, dig6]
  | 1, _ => simp [sufW, dig6]
  | 2, _ => simp [sufW, dig6]
  | 3, _ => simp [sufW, dig6]
  | 4, _ => simp [sufW, dig6]
  | 5, _ => simp [sufW, dig6]
theorem sufW_all (n : Nat) : sufW n 6 = dig6 n := rfl
theorem bytes_append (a b : List UInt8) : (⟨a.toArray⟩ : ByteArray) ++ ⟨b.toArray⟩ = ⟨(a ++ b).toArray⟩ := by
  apply ByteArray.ext
  simp [ByteArray.data_append]
set_option maxHeartbeats 2000000 in
set_option maxRecDepth 100000 in
theorem name_ref (n : Nat) (w : World) (hn : n ≤ 999999) : Calls Tryz.prog 58 #[.int .i64 (n : Int)] w fun e w' => e = .returned (.string (walName n)) ∧ Kp Noone w w' := by
  have HN := Lib.hid hn
  clear hn
  go_enter Tryz.func58, Tryz.ntmps58
  go_wp2_with fail
  go_loopw [0, 3, 4] (fun v s u wr => ∃ k : Nat, k ≤ 6 ∧ v = .int .i64 ((n / 10 ^ k : Nat) : Int) ∧ s = .string ⟨(sufW n k).toArray⟩ ∧ u = .int .i64 (k : Int) ∧ Kp Noone w wr) (fun _ _ u _ => 6 - (intOf u).toNat)
  case atStart => exact ⟨0, by omega, by simp, rfl, rfl, Kp.refl _ _⟩
  case round =>
    obtain ⟨k, hk, rfl, rfl, rfl, kq⟩ := hrel
    by_cases hk6 : k < 6
    · have hst := sufW_step n k hk6
      have hpd : n / 10 ^ (k + 1) = n / 10 ^ k / 10 := by rw [Nat.pow_succ, Nat.div_div_eq_div_mul]
      have hxl : n / 10 ^ k ≤ 999999 := Nat.le_trans (Nat.div_le_self _ _) HN.out
      have HPD := Lib.hid hpd
      have HST := Lib.hid hst
      have hdv := dg_val (n / 10 ^ k)
      have hsl : (⟨(sufW n k).toArray⟩ : ByteArray).size ≤ 6 := by
        show (sufW n k).toArray.size ≤ 6
        rw [List.size_toArray]
        unfold sufW
        rw [List.length_drop]
        show 6 - (6 - k) ≤ 6
        omega
      generalize n / 10 ^ k = x at *
      generalize sufW n k = l at *
      have kA : ∀ o : Obj, Kp Noone w (wr.alloc o) := fun o => kq.alloc o
      have hcv : (convert 42 9 (.slice (some ⟨wr.heap.size, 0, none⟩) 1 1)).run Tryz.prog (wr.alloc (.cells #[.int .u8 (48 + (x : Int) % 10)] 5)) = .ok (.string ⟨#[dg x]⟩) (wr.alloc (.cells #[.int .u8 (48 + (x : Int) % 10)] 5)) :=
        run_convert_bytes_back _ 42 9 5 ⟨wr.heap.size, 0, none⟩ 1 [dg x] Tryz.underlying42 Tryz.underlying5 Tryz.underlying9 (fun j hj => by
          have hj0 : j = 0 := by simpa using hj
          subst hj0
          rw [Addr.add_lit, cell_of_row _ wr.heap.size _ _ _ _ (heap_alloc_new wr _)]
          simp [hdv])
      have hki : (k : Int) < 6 := by omega
      have hsx : (⟨#[dg x]⟩ : ByteArray).size ≤ 1 := Nat.le_refl _
      have happ : (⟨#[dg x]⟩ : ByteArray) ++ ⟨l.toArray⟩ = ⟨(dg x :: l).toArray⟩ := bytes_append [dg x] l
      have HAP := Lib.hid happ
      have HKA := Lib.hid (kA (.cells #[.int .u8 (48 + (x : Int) % 10)] 5))
      clear hst hpd kq hdv happ kA
      go_wp2_with fail
      go_roundw
      case rel => exact ⟨k + 1, by omega, by rw [HPD.out, Int.natCast_ediv]; rfl, by rw [HAP.out, HST.out], by go_num, HKA.out⟩
      case measure => simp [intOf]; omega
    · obtain rfl : k = 6 := by omega
      rw [sufW_all]
      have hap : (⟨#[119, 97, 108, 45]⟩ : ByteArray) ++ ⟨(dig6 n).toArray⟩ = walName n := bytes_append [119, 97, 108, 45] (dig6 n)
      go_wp2_with fail
      go_ret
      exact ⟨rfl, kq⟩
theorem frame_ref (bo : Option Addr) (m c : Nat) (d : List UInt8) (w : World) (hb : BS w bo m c d) (hm : m ≤ 70368744177000) :
    Calls Tryz.prog 64 #[.slice bo m c] w (NewB w (frameL d)) := by
  have HL := Lib.hid hb.len
  go_enter Tryz.func64, Tryz.ntmps64
  go_wp2_with fail
  refine (refSeal_any bo m c d w hb (by omega)).mono ?_
  rintro e w1 ⟨b1, c1, rfl, o1, k1⟩
  have hb1 := o1.bs
  have ht := refText_any b1 (m + 8) c1 _ w1 hb1 (by omega)
  have HE : Hid (numL (m + 8) ++ (d ++ eightL (sumN d)) = frameL d) := Lib.hid (by unfold frameL sealL; rw [HL.out])
  rw [HE.out] at ht
  have HK := Lib.hid k1
  clear o1 hb1 k1
  go_wp2_with fail
  refine ht.mono ?_
  rintro e w2 ⟨b2, c2, rfl, o2, k2⟩
  go_wp2_with fail
  go_ret
  have hz := HK.out.size
  exact ⟨b2, c2, rfl, o2.mono (fun j _ h => Or.inr ⟨by have := (Ex.none h).1; omega, (Ex.none h).2⟩), HK.out.trans k2⟩
set_option maxHeartbeats 1000000 in
theorem header_ref (num first : Nat) (w : World) (hn : num ≤ 999999) (hf : first ≤ 4611686018427387904) :
    Calls Tryz.prog 82 #[.int .i64 (num : Int), .int .i64 (first : Int)] w (NewB w (headerL num first)) := by
  obtain ⟨i0, hi, hz0, hz1, hz2⟩ := info_parts info_u8
  have hwt : IntKind.u64.wrap (num : Int) = (num : Int) := IntWalk.u64_in _ (by omega)
  have hws : IntKind.u64.wrap (first : Int) = (first : Int) := IntWalk.u64_in _ (by omega)
  have n1 : (numL num).length ≤ 9 := by have := sizeN_le num; rw [length_numL]; omega
  have n2 : (numL first).length ≤ 9 := by have := sizeN_le first; rw [length_numL]; omega
  have hN1 := fun w => refNum_any num w (by unfold W64; omega)
  have hN2 := fun w => refNum_any first w (by unfold W64; omega)
  have hH : headerL num first = frameL (numL num ++ numL first) := rfl
  rw [hH]
  clear hH
  generalize numL num = l1 at *
  generalize numL first = l2 at *
  have HFR := Lib.hid (fun bo c w hb => frame_ref bo (l1 ++ l2).length c (l1 ++ l2) w hb (by rw [List.length_append]; omega))
  generalize frameL (l1 ++ l2) = FL at *
  unfold NewB at hN1 hN2
  generalize ha1 : l1.length = a1 at *
  generalize ha2 : l2.length = a2 at *
  have HA2 := Lib.hid ha2
  have HLen : Hid ((l1 ++ l2).length = a1 + a2) := Lib.hid (by rw [List.length_append, ha1, ha2])
  rw [HLen.out] at HFR
  clear ha1 ha2
  go_enter Tryz.func82, Tryz.ntmps82
  go_wp2_with fail
  refine (hN1 _).mono ?_
  rintro e w1 ⟨b1, c1, rfl, o1, k1⟩
  clear hN1
  go_wp2_with fail
  refine (hN2 _).mono ?_
  rintro e w2 ⟨b2, c2, rfl, o2, k2⟩
  clear hN2
  have s1 := k1.size
  have o1b := (o1.mono (G := fun j => w.heap.size ≤ j ∧ j < w1.heap.size) (fun j _ c => Ex.none c)).keep k2
  have o2b := o2.bs
  go_wp2_with (at_builtin; refine wpList_append_gen _ rfl (.tmp 7) (.tmp 10) 42 rfl 5 i0 (.int .u8 0) 1 1 Tryz.underlying42 hi hz0 hz1 hz2 rfl b1 a1 c1 rfl b2 a2 c2 rfl _ (bv l1) o1b (bv l2) (by rw [length_bv, HA2.out, Nat.mul_one]) o2b.row (bv_one _) (by omega) (by unfold maxLen; omega) ?_)
  intro b3 c3 w3 o3 k3
  rw [bv_append] at o3
  have HK3 := Lib.hid ((k1.trans k2).fin k3 (fun j c => Or.inr c.1))
  have hb3 := o3.bs
  have hz3 := HK3.out.size
  clear o3 k3 o1b o2b o1 o2 k1 k2
  go_wp2_with fail
  refine (HFR.out b3 c3 w3 hb3).mono ?_
  rintro e w4 ⟨b4, c4, rfl, o4, k4⟩
  go_wp2_with fail
  go_ret
  exact ⟨b4, c4, rfl, o4.mono (fun j _ h => Or.inr ⟨by have := (Ex.none h).1; omega, (Ex.none h).2⟩), HK3.out.trans k4⟩

end Go.Proofs.YtigdhdclfdojgaaGreat

/-
  Slices of records and of pieces of the document's log: where they lie, how they grow; THE WALKS of its Bytes and number.
-/
namespace Go.Proofs.YtigdhdclfdojgaaGreat
open Go.RowKit

theorem Ext.tint {B i : Nat} {col : Nat → Nat} {w w' : World} (hc : Cols B w col) (hB : B ≤ w.heap.size) (k : Kp (Col col i) w w') : Ext B (fun c => c = i) col w (paint col w w' i) w' := by
  refine ⟨hc.paint hB k.size i, fun j hj => ?_, fun j hj hn => ?_, k.mono (fun j _ c => c)⟩
  · unfold Proofs.YtigdhdclfdojgaaGreat.paint
    rw [if_neg (by omega)]
  · unfold Proofs.YtigdhdclfdojgaaGreat.paint at hn ⊢
    by_cases h : w.heap.size ≤ j ∧ j < w'.heap.size
    · rw [if_pos h]
    · rw [if_neg h] at hn
      have := hc j hn
      omega
abbrev Sls9 := List (Option Addr × Nat × Nat)
def hdrs9 (hs : Sls9) : List Value := hs.map fun h => .slice h.1 h.2.1 h.2.2
theorem hdrs9_snoc (hs : Sls9) (x : Option Addr × Nat × Nat) : hdrs9 (hs ++ [x]) = hdrs9 hs ++ [.slice x.1 x.2.1 x.2.2] := by simp [hdrs9]
theorem hdrs9_one (bo : Option Addr) (m c : Nat) : ∀ u ∈ [Value.slice bo m c], u.oneCell' = true := by
  intro u hu
  simp at hu
  subst hu
  rfl
/-- A slice of texts in blocks of one kind. -/
structure RRec (P : Nat → Prop) (w : World) (ao : Option Addr) (n cap : Nat) (recs : List (List UInt8)) : Prop where
  len : recs.length = n
  le : n ≤ cap
  max : cap ≤ maxLen
  get : ∀ i (h : i < recs.length), ∃ b off bo m c, ao = some ⟨b, off, none⟩ ∧ b < w.heap.size ∧ P b ∧ w.cell? ⟨b, off + i, none⟩ = some (.slice bo m c) ∧ DataP P w bo m c recs[i]
theorem RRec.kp {P S : Nat → Prop} {w w' : World} {ao : Option Addr} {n cap : Nat} {recs : List (List UInt8)} (h : RRec P w ao n cap recs) (k : Kp S w w') (hd : ∀ j, j < w.heap.size → P j → ¬ S j) : RRec P w' ao n cap recs := by
  refine ⟨h.len, h.le, h.max, fun i hi => ?_⟩
  obtain ⟨b, off, bo, m, c, h1, h2, h3, h4, h5⟩ := h.get i hi
  exact ⟨b, off, bo, m, c, h1, Nat.lt_of_lt_of_le h2 k.size, h3, k.cell h4 (hd _ h2 h3), h5.kp k hd⟩
theorem RRec.keep {P : Nat → Prop} {w w' : World} {ao : Option Addr} {n cap : Nat} {recs : List (List UInt8)} (h : RRec P w ao n cap recs) (k : Kp Noone w w') : RRec P w' ao n cap recs := h.kp k (fun _ _ _ c => c)
theorem RRec.mono {P Q : Nat → Prop} {w : World} {ao : Option Addr} {n cap : Nat} {recs : List (List UInt8)} (h : RRec P w ao n cap recs) (hq : ∀ j, j < w.heap.size → P j → Q j) : RRec Q w ao n cap recs := by
  refine ⟨h.len, h.le, h.max, fun i hi => ?_⟩
  obtain ⟨b, off, bo, m, c, h1, h2, h3, h4, h5⟩ := h.get i hi
  exact ⟨b, off, bo, m, c, h1, h2, hq _ h2 h3, h4, h5.mono hq⟩
theorem RRec.nil (P : Nat → Prop) (w : World) (ao : Option Addr) : RRec P w ao 0 0 [] := ⟨rfl, Nat.le_refl _, by simp [maxLen], fun i h => by simp at h⟩
/-- Without the first. -/
theorem RRec.tail {P : Nat → Prop} {w : World} {g off n cap : Nat} {recs : List (List UInt8)} (h : RRec P w (some ⟨g, off, none⟩) n cap recs) (hn : 1 ≤ n) : RRec P w (some ⟨g, off + 1, none⟩) (n - 1) (cap - 1) recs.tail := by
  refine ⟨by rw [List.length_tail, h.len], by have := h.le; omega, by have := h.max; omega, fun i hi => ?_⟩
  rw [List.length_tail] at hi
  obtain ⟨b, o2, bo, m, c, h1, h2, h3, h4, h5⟩ := h.get (i + 1) (by omega)
  cases h1
  refine ⟨g, off + 1, bo, m, c, rfl, h2, h3, by rw [show off + 1 + i = off + (i + 1) by omega]; exact h4, ?_⟩
  rw [List.getElem_tail]
  exact h5
/-- A slice of pieces in blocks of one kind. -/
structure RPs (P : Nat → Prop) (w : World) (ao : Option Addr) (n cap : Nat) (ps : List PcS) : Prop where
  len : ps.length = n
  le : n ≤ cap
  max : cap ≤ maxLen
  get : ∀ i (h : i < ps.length), ∃ b off ro rc, ao = some ⟨b, off, none⟩ ∧ b < w.heap.size ∧ P b ∧ w.cell? ⟨b, off + i * 3, none⟩ = some (.int .i64 (ps[i].num : Int)) ∧ w.cell? ⟨b, off + i * 3 + 1, none⟩ = some (.int .i64 (ps[i].first : Int)) ∧
    w.cell? ⟨b, off + i * 3 + 2, none⟩ = some (.slice ro ps[i].recs.length rc) ∧ RRec P w ro ps[i].recs.length rc ps[i].recs
theorem RPs.kp {P S : Nat → Prop} {w w' : World} {ao : Option Addr} {n cap : Nat} {ps : List PcS} (h : RPs P w ao n cap ps) (k : Kp S w w') (hd : ∀ j, j < w.heap.size → P j → ¬ S j) : RPs P w' ao n cap ps := by
  refine ⟨h.len, h.le, h.max, fun i hi => ?_⟩
  obtain ⟨b, off, ro, rc, h1, h2, h3, h4, h5, h6, h7⟩ := h.get i hi
  exact ⟨b, off, ro, rc, h1, Nat.lt_of_lt_of_le h2 k.size, h3, k.cell h4 (hd _ h2 h3), k.cell h5 (hd _ h2 h3), k.cell h6 (hd _ h2 h3), h7.kp k hd⟩
theorem RPs.keep {P : Nat → Prop} {w w' : World} {ao : Option Addr} {n cap : Nat} {ps : List PcS} (h : RPs P w ao n cap ps) (k : Kp Noone w w') : RPs P w' ao n cap ps := h.kp k (fun _ _ _ c => c)
theorem RPs.mono {P Q : Nat → Prop} {w : World} {ao : Option Addr} {n cap : Nat} {ps : List PcS} (h : RPs P w ao n cap ps) (hq : ∀ j, j < w.heap.size → P j → Q j) : RPs Q w ao n cap ps := by
  refine ⟨h.len, h.le, h.max, fun i hi => ?_⟩
  obtain ⟨b, off, ro, rc, h1, h2, h3, h4, h5, h6, h7⟩ := h.get i hi
  exact ⟨b, off, ro, rc, h1, h2, hq _ h2 h3, h4, h5, h6, h7.mono hq⟩
theorem RPs.nil (P : Nat → Prop) (w : World) (ao : Option Addr) : RPs P w ao 0 0 [] := ⟨rfl, Nat.le_refl _, by simp [maxLen], fun i h => by simp at h⟩

/-! ### Growing lists: the list's own blocks have colour c, what it holds lies in blocks of colour 0 -/
theorem DataP.col {P : Nat → Prop} {B : Nat} {S : Nat → Prop} {col col' : Nat → Nat} {w w' : World} {ao : Option Addr} {n cap : Nat} {l : List UInt8} (h : DataP (fun j => col j = 0 ∧ P j) w ao n cap l) (e : Ext B S col w col' w') (h0 : ¬ S 0) : DataP (fun j => col' j = 0 ∧ P j) w' ao n cap l :=
  ((h.mono (Q := fun j => (col j = 0 ∧ P j) ∧ j < w.heap.size) (fun j hj c => ⟨c, hj⟩)).kp e.kp (fun j _ c a => by rw [c.1.1] at a; exact h0 a)).mono (fun j _ c => ⟨(e.old j c.2).trans c.1.1, c.1.2⟩)
theorem RRec.col {P : Nat → Prop} {B : Nat} {S : Nat → Prop} {col col' : Nat → Nat} {w w' : World} {ao : Option Addr} {n cap : Nat} {l : List (List UInt8)} (h : RRec (fun j => col j = 0 ∧ P j) w ao n cap l) (e : Ext B S col w col' w') (h0 : ¬ S 0) : RRec (fun j => col' j = 0 ∧ P j) w' ao n cap l :=
  ((h.mono (Q := fun j => (col j = 0 ∧ P j) ∧ j < w.heap.size) (fun j hj c => ⟨c, hj⟩)).kp e.kp (fun j _ c a => by rw [c.1.1] at a; exact h0 a)).mono (fun j _ c => ⟨(e.old j c.2).trans c.1.1, c.1.2⟩)
theorem Own.colE {B c e sz : Nat} {S : Nat → Prop} {col col' : Nat → Nat} {w w' : World} {ao : Option Addr} {n cap : Nat} {xs : List Value} (h : Own (Col col c) w e sz ao n cap xs) (x : Ext B S col w col' w') (h1 : ¬ S c) : Own (Col col' c) w' e sz ao n cap xs :=
  ((h.mono (G := fun j => Col col c j ∧ j < w.heap.size) (fun j hj d => ⟨d, hj⟩)).kp x.kp (fun j d a => by have d1 : col j = c := d.1; rw [d1] at a; exact h1 a)).mono (fun j _ d => (x.old j d.2).trans d.1)
structure RecP (P : Nat → Prop) (c : Nat) (col : Nat → Nat) (w : World) (ao : Option Addr) (cap : Nat) (hs : Sls9) (recs : List (List UInt8)) : Prop where
  own : Own (Col col c) w 42 1 ao recs.length cap (hdrs9 hs)
  len : hs.length = recs.length
  get : ∀ i (h1 : i < hs.length) (h2 : i < recs.length), DataP (fun j => col j = 0 ∧ P j) w hs[i].1 hs[i].2.1 hs[i].2.2 recs[i]
theorem RecP.ext {P : Nat → Prop} {B c : Nat} {S : Nat → Prop} {col col' : Nat → Nat} {w w' : World} {ao : Option Addr} {cap : Nat} {hs : Sls9} {recs : List (List UInt8)} (h : RecP P c col w ao cap hs recs) (e : Ext B S col w col' w') (h0 : ¬ S 0) (h1 : ¬ S c) : RecP P c col' w' ao cap hs recs :=
  ⟨h.own.colE e h1, h.len, fun i a b => (h.get i a b).col e h0⟩
theorem RecP.keep {P : Nat → Prop} {c : Nat} {col : Nat → Nat} {w w' : World} {ao : Option Addr} {cap : Nat} {hs : Sls9} {recs : List (List UInt8)} (h : RecP P c col w ao cap hs recs) (k : Kp Noone w w') : RecP P c col w' ao cap hs recs :=
  ⟨h.own.keep k, h.len, fun i a b => (h.get i a b).keep k⟩
theorem RecP.nil (P : Nat → Prop) (c : Nat) (col : Nat → Nat) (w : World) (ao : Option Addr) : RecP P c col w ao 0 [] [] := ⟨Own.nil _ _ _ _ _, rfl, fun i h => by simp at h⟩
theorem RecP.push {P : Nat → Prop} {B c : Nat} {col : Nat → Nat} {wB w6 : World} {ao : Option Addr} {cap : Nat} {hs : Sls9} {recs : List (List UInt8)} (h : RecP P c col wB ao cap hs recs) (hc : Cols B wB col) (hB : B ≤ wB.heap.size) (hc0 : c ≠ 0) (k6 : Kp (Col col c) wB w6) {bo : Option Addr} {m bc : Nat} {d : List UInt8} {ao' : Option Addr} {cap' : Nat}
    (ho : Own (Ex (Col col c) wB w6) w6 42 1 ao' (recs.length + 1) cap' (hdrs9 hs ++ [.slice bo m bc])) (hd : DataP (fun j => col j = 0 ∧ P j) wB bo m bc d) : RecP P c (paint col wB w6 c) w6 ao' cap' (hs ++ [(bo, m, bc)]) (recs ++ [d]) := by
  have xp := Ext.tint (B := B) hc hB k6
  refine ⟨?_, by rw [List.length_append, List.length_append, h.len]; rfl, fun j h1 h2 => ?_⟩
  · rw [hdrs9_snoc, List.length_append]
    exact ho.painted
  · by_cases hj : j < hs.length
    · have hj2 : j < recs.length := by have := h.len; omega
      have e1 : (hs ++ [(bo, m, bc)])[j] = hs[j] := List.getElem_append_left hj
      have e2 : (recs ++ [d])[j] = recs[j] := List.getElem_append_left hj2
      rw [e1, e2]
      exact (h.get j hj hj2).col xp (by omega)
    · have hl := h.len
      have hj1 : j = hs.length := by rw [List.length_append] at h1; simp at h1; omega
      have e1 : (hs ++ [(bo, m, bc)])[j] = (bo, m, bc) := by subst hj1; simp
      have e2 : (recs ++ [d])[j] = d := by
        have : j = recs.length := by omega
        subst this
        simp
      rw [e1, e2]
      exact hd.col xp (by omega)
theorem RecP.rrec {P Q : Nat → Prop} {B c : Nat} {col : Nat → Nat} {w : World} {ao : Option Addr} {cap : Nat} {hs : Sls9} {recs : List (List UInt8)} (h : RecP P c col w ao cap hs recs) (hc : Cols B w col) (hc0 : c ≠ 0) (hP : ∀ j, B ≤ j → j < w.heap.size → Q j) (hQ : ∀ j, j < w.heap.size → col j = 0 ∧ P j → Q j) : RRec Q w ao recs.length cap recs := by
  refine ⟨rfl, h.own.2.1, h.own.2.2.1, fun i hi => ?_⟩
  have hlen : (hdrs9 hs).length = hs.length := by simp [hdrs9]
  have hi2 : i < hs.length := by rw [h.len]; exact hi
  obtain ⟨g, off, rfl, hF, hg, hc1, -⟩ := h.own.at (k := i) (by omega)
  have hF1 : col g = c := hF
  refine ⟨g, off, hs[i].1, hs[i].2.1, hs[i].2.2, rfl, hg, hP g (by have := hc g (by omega); omega) hg, ?_, (h.get i hi2 hi).mono hQ⟩
  rw [hc1]
  simp [hdrs9]

abbrev Phs := List (Option Addr × Nat)
def pcsV : List PcS → Phs → List Value
  | p :: r, h :: t => .int .i64 (p.num : Int) :: .int .i64 (p.first : Int) :: .slice h.1 p.recs.length h.2 :: pcsV r t
  | _, _ => []
theorem pcsV_snoc : ∀ (ps : List PcS) (hs : Phs) (p : PcS) (h : Option Addr × Nat), ps.length = hs.length → pcsV (ps ++ [p]) (hs ++ [h]) = pcsV ps hs ++ [.int .i64 (p.num : Int), .int .i64 (p.first : Int), .slice h.1 p.recs.length h.2]
  | [], [], p, h, _ => rfl
  | a :: r, b :: t, p, h, e => by
    have := pcsV_snoc r t p h (by simpa using e)
    simp only [List.cons_append, pcsV, this]
  | [], _ :: _, _, _, e => by simp at e
  | _ :: _, [], _, _, e => by simp at e
theorem pcsV_length : ∀ (ps : List PcS) (hs : Phs), ps.length = hs.length → (pcsV ps hs).length = ps.length * 3
  | [], [], _ => rfl
  | a :: r, b :: t, e => by
    have := pcsV_length r t (by simpa using e)
    simp only [pcsV, List.length_cons, this]
    omega
  | [], _ :: _, e => by simp at e
  | _ :: _, [], e => by simp at e
theorem pcsV_get : ∀ (ps : List PcS) (hs : Phs) (i : Nat) (h : i < ps.length) (h2 : i < hs.length), (pcsV ps hs)[i * 3]? = some (.int .i64 (ps[i].num : Int)) ∧ (pcsV ps hs)[i * 3 + 1]? = some (.int .i64 (ps[i].first : Int)) ∧ (pcsV ps hs)[i * 3 + 2]? = some (.slice hs[i].1 ps[i].recs.length hs[i].2)
  | a :: r, b :: t, 0, _, _ => ⟨rfl, rfl, rfl⟩
  | a :: r, b :: t, i + 1, h, h2 => by
    have := pcsV_get r t i (by simpa using h) (by simpa using h2)
    have e : (i + 1) * 3 = i * 3 + 3 := by omega
    rw [e]
    exact this
  | [], _, _, h, _ => by simp at h
  | _ :: _, [], _, _, h => by simp at h
structure PcsP (P : Nat → Prop) (c : Nat) (col : Nat → Nat) (w : World) (ao : Option Addr) (cap : Nat) (hs : Phs) (ps : List PcS) : Prop where
  own : Own (Col col c) w 57 3 ao ps.length cap (pcsV ps hs)
  len : ps.length = hs.length
  get : ∀ i (h1 : i < hs.length) (h2 : i < ps.length), RRec (fun j => col j = 0 ∧ P j) w hs[i].1 ps[i].recs.length hs[i].2 ps[i].recs
theorem PcsP.ext {P : Nat → Prop} {B c : Nat} {S : Nat → Prop} {col col' : Nat → Nat} {w w' : World} {ao : Option Addr} {cap : Nat} {hs : Phs} {ps : List PcS} (h : PcsP P c col w ao cap hs ps) (e : Ext B S col w col' w') (h0 : ¬ S 0) (h1 : ¬ S c) : PcsP P c col' w' ao cap hs ps :=
  ⟨h.own.colE e h1, h.len, fun i a b => (h.get i a b).col e h0⟩
theorem PcsP.keep {P : Nat → Prop} {c : Nat} {col : Nat → Nat} {w w' : World} {ao : Option Addr} {cap : Nat} {hs : Phs} {ps : List PcS} (h : PcsP P c col w ao cap hs ps) (k : Kp Noone w w') : PcsP P c col w' ao cap hs ps :=
  ⟨h.own.keep k, h.len, fun i a b => (h.get i a b).keep k⟩
theorem PcsP.nil (P : Nat → Prop) (c : Nat) (col : Nat → Nat) (w : World) (ao : Option Addr) : PcsP P c col w ao 0 [] [] := ⟨Own.nil _ _ _ _ _, rfl, fun i h => by simp at h⟩
theorem PcsP.push {P : Nat → Prop} {B c : Nat} {col : Nat → Nat} {wB w6 : World} {ao : Option Addr} {cap : Nat} {hs : Phs} {ps : List PcS} (h : PcsP P c col wB ao cap hs ps) (hc : Cols B wB col) (hB : B ≤ wB.heap.size) (hc0 : c ≠ 0) (k6 : Kp (Col col c) wB w6) {ro : Option Addr} {rc : Nat} {p : PcS} {ao' : Option Addr} {cap' : Nat}
    (ho : Own (Ex (Col col c) wB w6) w6 57 3 ao' (ps.length + 1) cap' (pcsV ps hs ++ [.int .i64 (p.num : Int), .int .i64 (p.first : Int), .slice ro p.recs.length rc])) (hd : RRec (fun j => col j = 0 ∧ P j) wB ro p.recs.length rc p.recs) : PcsP P c (paint col wB w6 c) w6 ao' cap' (hs ++ [(ro, rc)]) (ps ++ [p]) := by
  have xp := Ext.tint (B := B) hc hB k6
  refine ⟨?_, by rw [List.length_append, List.length_append, h.len]; rfl, fun j h1 h2 => ?_⟩
  · rw [pcsV_snoc ps hs p (ro, rc) h.len, List.length_append]
    exact ho.painted
  · by_cases hj : j < hs.length
    · have hj2 : j < ps.length := by have := h.len; omega
      have e1 : (hs ++ [(ro, rc)])[j] = hs[j] := List.getElem_append_left hj
      have e2 : (ps ++ [p])[j] = ps[j] := List.getElem_append_left hj2
      rw [e1, e2]
      exact (h.get j hj hj2).col xp (by omega)
    · have hl := h.len
      have hj1 : j = hs.length := by rw [List.length_append] at h1; simp at h1; omega
      have e1 : (hs ++ [(ro, rc)])[j] = (ro, rc) := by subst hj1; simp
      have e2 : (ps ++ [p])[j] = p := by
        have : j = ps.length := by omega
        subst this
        simp
      rw [e1, e2]
      exact hd.col xp (by omega)
theorem PcsP.rps {P Q : Nat → Prop} {B c : Nat} {col : Nat → Nat} {w : World} {ao : Option Addr} {cap : Nat} {hs : Phs} {ps : List PcS} (h : PcsP P c col w ao cap hs ps) (hc : Cols B w col) (hc0 : c ≠ 0) (hP : ∀ j, B ≤ j → j < w.heap.size → Q j) (hQ : ∀ j, j < w.heap.size → col j = 0 ∧ P j → Q j) : RPs Q w ao ps.length cap ps := by
  refine ⟨rfl, h.own.2.1, h.own.2.2.1, fun i hi => ?_⟩
  have hlen := pcsV_length ps hs h.len
  have hi2 : i < hs.length := by rw [← h.len]; exact hi
  have hg := pcsV_get ps hs i hi hi2
  obtain ⟨g, off, rfl, hF, hgl, hc1, -⟩ := h.own.at (k := i * 3) (by omega)
  obtain ⟨g2, off2, hgo, -, -, hc2, -⟩ := h.own.at (k := i * 3 + 1) (by omega)
  cases hgo
  obtain ⟨g2, off2, hgo, -, -, hc3, -⟩ := h.own.at (k := i * 3 + 2) (by omega)
  cases hgo
  have hF1 : col g = c := hF
  refine ⟨g, off, hs[i].1, hs[i].2, rfl, hgl, hP g (by have := hc g (by omega); omega) hgl, ?_, ?_, ?_, (h.get i hi2 hi).mono hQ⟩
  · rw [hc1]
    have := hg.1
    rw [List.getElem?_eq_getElem (by omega)] at this
    exact this
  · rw [Nat.add_assoc, hc2]
    have := hg.2.1
    rw [List.getElem?_eq_getElem (by omega)] at this
    exact this
  · rw [Nat.add_assoc, hc3]
    have := hg.2.2
    rw [List.getElem?_eq_getElem (by omega)] at this
    exact this

end Go.Proofs.YtigdhdclfdojgaaGreat

/-
  THE WALKS of the document's log: Bytes, number.
-/
namespace Go.Proofs.YtigdhdclfdojgaaGreat
open Go.RowKit

theorem cells_3f {w : World} {p e : Nat} {a b c : Value} (h : w.heap[p]? = some (.cells #[a, b, c] e (0, 0))) :
    w.cell? ⟨p, 0, none⟩ = some a ∧ w.cell? ⟨p, 1, none⟩ = some b ∧ w.cell? ⟨p, 2, none⟩ = some c := by
  refine ⟨?_, ?_, ?_⟩
  all_goals (rw [cell_of_row w p _ _ e (0, 0) h]; rfl)
theorem RRec.at {P : Nat → Prop} {w : World} {ao : Option Addr} {n cap : Nat} {recs : List (List UInt8)} (h : RRec P w ao n cap recs) {j : Nat} (hj : j < n) : ∃ g off xo xm xc, ∃ hl : j < recs.length, ao = some ⟨g, off, none⟩ ∧ w.cell? ⟨g, off + j, none⟩ = some (.slice xo xm xc) ∧ DataP P w xo xm xc recs[j] := by
  have hl := h.len
  have hj2 : j < recs.length := by omega
  obtain ⟨b, off, bo, m, c, h1, -, -, h4, h5⟩ := h.get j hj2
  exact ⟨b, off, bo, m, c, hj2, h1, h4, h5⟩
theorem frames_take (ds : List (List UInt8)) (j : Nat) (h : j < ds.length) : frames (ds.take (j + 1)) = frames (ds.take j) ++ frameL ds[j] := by
  rw [List.take_succ_eq_append_getElem h, frames_append, frames_cons, frames_nil, List.append_nil]
theorem frames_take_le (ds : List (List UInt8)) (j : Nat) : (frames (ds.take j)).length ≤ (frames ds).length := by
  have h : frames ds = frames (ds.take j) ++ frames (ds.drop j) := by rw [← frames_append, List.take_append_drop]
  rw [h, List.length_append]
  omega
/-- Between two frames. -/
structure ByR (wA : World) (p : PcS) (va vi : Value) (wr : World) : Prop where
  ex : ∃ (j : Nat) (ao : Option Addr) (m cap : Nat), va = .slice ao m cap ∧ vi = .int .i64 (j : Int) ∧ j ≤ p.recs.length ∧ Own (fun i => wA.heap.size ≤ i) wr 5 1 ao m cap (bv (headerL p.num p.first ++ frames (p.recs.take j))) ∧ Kp Noone wA wr
set_option maxHeartbeats 4000000 in
set_option maxRecDepth 100000 in
theorem bytes_ref (P : Nat → Prop) (ro : Option Addr) (rc : Nat) (p : PcS) (w : World) (h : RRec P w ro p.recs.length rc p.recs) (hn : p.num ≤ 999999) (hf : p.first ≤ 4611686018427387904) (hl : (pieceD p).length ≤ 281474976) :
    Calls Tryz.prog 63 #[.agg #[.int .i64 (p.num : Int), .int .i64 (p.first : Int), .slice ro p.recs.length rc]] w (NewB w (pieceD p)) := by
  obtain ⟨i0, hi, hz0, hz1, hz2⟩ := info_parts info_u8
  have hmx := h.max
  have hle := h.le
  have hpl : (pieceD p).length = (headerL p.num p.first).length + (frames p.recs).length := by unfold pieceD; rw [List.length_append]
  have kA : Kp Noone w (w.alloc (.cells #[.int .i64 (p.num : Int), .int .i64 (p.first : Int), .slice ro p.recs.length rc] 57)) := (Kp.refl _ _).alloc _
  have hx := heap_alloc_new w (.cells #[.int .i64 (p.num : Int), .int .i64 (p.first : Int), .slice ro p.recs.length rc] 57)
  have HH := Lib.hid (fun W => header_ref p.num p.first W hn hf)
  have HR := Lib.hid (h.keep kA)
  have HK := Lib.hid kA
  have HPL := Lib.hid (And.intro hpl hl)
  obtain ⟨n, hnr⟩ : ∃ n, Hid (p.recs.length = n) := ⟨_, Lib.hid rfl⟩
  rw [hnr.out] at hx hle ⊢
  have hn63 : n ≤ 9223372036854775807 := by unfold maxLen at hmx; omega
  clear hpl kA h hn hf hl hmx hle
  go_enter Tryz.func63, Tryz.ntmps63
  go_upto_region 1 with fail
  rw [hnr.out] at HK HR
  generalize w.alloc (.cells #[.int .i64 (p.num : Int), .int .i64 (p.first : Int), .slice ro n rc] 57) = wA at *
  generalize hgx : w.heap.size = gx at *
  have hxl := (Array.getElem?_eq_some_iff.1 hx).1
  obtain ⟨y0, y1, y2⟩ := cells_3f hx
  go_wp2_with fail
  refine (HH.out _).mono ?_
  rintro e w1 ⟨ao, cap, rfl, ho1, k1⟩
  obtain ⟨y0, y1, y2⟩ := cells_3f (k1.heap hx id)
  have R0 : Hid (ByR wA p (.slice ao (headerL p.num p.first).length cap) (.int .i64 0) w1) := Lib.hid ⟨⟨0, ao, _, cap, rfl, rfl, Nat.zero_le _, by rw [List.take_zero, frames_nil, List.append_nil]; exact ho1.mono (fun j _ c => (Ex.none c).1), k1⟩⟩
  clear ho1 k1
  generalize hhl : (headerL p.num p.first).length = hl0 at *
  have HHL := Lib.hid hhl
  clear hhl
  go_wp2_with fail
  go_loopw [3, 13] (fun va vi wr => ByR wA p va vi wr) (fun _ vi _ => n - (intOf vi).toNat)
  case atStart => exact R0.out
  case round =>
    clear R0 y0 y1 y2
    obtain ⟨j, ao2, m, cap2, rfl, rfl, hj, ho, kr⟩ := hrel.ex
    clear hrel
    rw [hnr.out] at hj
    obtain ⟨y0, y1, y2⟩ := cells_3f (kr.heap hx id)
    have HO := Lib.hid ho
    have HKR := Lib.hid kr
    have hml := ho.bs.len
    rw [List.length_append, HHL.out] at hml
    have hft := frames_take_le p.recs j
    clear ho kr
    by_cases hlt : j < n
    · obtain ⟨g, off, xo, xm, xc, hjl, rfl, hck, hd⟩ := HR.out.at hlt
      have hst := frames_take p.recs j hjl
      have hft1 := frames_take_le p.recs (j + 1)
      rw [hst, List.length_append] at hft1
      have hck := HKR.out.cell hck id
      have hb := hd.1.keep HKR.out
      have hbl := hb.len
      have hfl := length_frameL p.recs[j]
      generalize p.recs[j] = d at *
      have hHP := HPL.out
      have hfr := frame_ref xo xm xc d wr hb (by omega)
      have HST := Lib.hid hst
      obtain ⟨q, hq⟩ : ∃ q, Hid ((frameL d).length = q) := ⟨_, Lib.hid rfl⟩
      rw [hq.out] at hft1 hfl
      have hmq : m + q ≤ 281474976 := by omega
      have hwj : IntKind.i64.wrap ((j : Int) + 1) = (j : Int) + 1 := IntWalk.i64_in _ (by omega)
      clear hft hft1 hst hd hb hbl hfl hml hHP
      go_wp2_with fail
      refine hfr.mono ?_
      clear hfr
      rintro e w2 ⟨bo, bc, rfl, o2, k2⟩
      rw [hq.out] at o2 ⊢
      have ho2 := HO.out.keep k2
      have hob := o2.bs
      have hlq : (bv (frameL d)).length = q * 1 := by rw [length_bv, hq.out, Nat.mul_one]
      go_wp2_with (at_builtin; refine wpList_append_gen _ rfl (.tmp 16) (.tmp 22) 42 rfl 5 i0 (.int .u8 0) 1 1 Tryz.underlying42 hi hz0 hz1 hz2 rfl ao2 m cap2 rfl bo q bc rfl (fun i => wA.heap.size ≤ i) (bv (headerL p.num p.first ++ frames (p.recs.take j))) ho2 (bv (frameL d)) hlq hob.row (bv_one _) (by omega) (by unfold maxLen; omega) ?_)
      intro ao3 cap3 w3 o3 k3
      rw [bv_append, List.append_assoc, ← HST.out] at o3
      have hz2 := (HKR.out.trans k2).size
      have R : Hid (ByR wA p (.slice ao3 (m + q) cap3) (.int .i64 ((j : Int) + 1)) w3) := Lib.hid ⟨⟨j + 1, ao3, m + q, cap3, rfl, rfl, by rw [hnr.out]; omega, o3.mono (fun i _ c => c.elim id (fun c => by have := c.1; omega)), (HKR.out.trans k2).fin k3 (fun i c => Or.inr c)⟩⟩
      clear ho2 hob o3 k3 o2 k2 HO HKR
      go_wp2_with fail
      go_roundw
      case rel => exact R.out
      case measure => simp [intOf]; omega
    · obtain rfl : j = n := by omega
      have hall : p.recs.take j = p.recs := List.take_of_length_le (by rw [hnr.out]; exact Nat.le_refl _)
      have hoo := HO.out
      rw [hall] at hoo
      have HOO : Hid (Own (fun i => wA.heap.size ≤ i) wr 5 1 ao2 m cap2 (bv (pieceD p))) := Lib.hid hoo
      have hmp : Hid ((pieceD p).length = m) := Lib.hid HOO.out.bs.len
      clear hoo hall hml hft HO
      go_wp2_with fail
      go_ret
      have hzA := HK.out.size
      refine ⟨ao2, cap2, by rw [hmp.out]; rfl, ?_, HK.out.trans HKR.out⟩
      rw [hmp.out]
      exact HOO.out.mono (fun i hi c => Or.inr ⟨by omega, hi⟩)

/-! ### number -/
def numZ : List UInt8 → Int → Int
  | [], n => n
  | c :: r, n => numZ r (10 * n + (c.toNat : Int) - 48)
theorem numZ_append : ∀ (a b : List UInt8) (n : Int), numZ (a ++ b) n = numZ b (numZ a n)
  | [], _, _ => rfl
  | _ :: r, b, _ => numZ_append r b _
theorem numZ_dg (x : Nat) (r : List UInt8) (n : Int) : numZ (dg x :: r) n = numZ r (10 * n + (x : Int) % 10) := by
  show numZ r (10 * n + ((dg x).toNat : Int) - 48) = _
  rw [dg_val]
  congr 1
  omega
theorem numZ_of (n : Nat) (hn : n ≤ 999999) : numZ (dig6 n) 0 = (n : Int) := by
  unfold dig6
  rw [numZ_dg, numZ_dg, numZ_dg, numZ_dg, numZ_dg, numZ_dg]
  show _ = _
  simp only [numZ]
  omega
/-- The document's number is the code's. -/
theorem number_doc {k : ByteArray} {z : Int} (hz : numZ ((toL k).drop 4) 0 = z) : (numberN k ≠ 0 → 1 ≤ z ∧ z ≤ 999999 ∧ z = (numberN k : Int) ∧ walName z.toNat = k) ∧ (numberN k = 0 → 1 ≤ z → z ≤ 999999 → walName z.toNat ≠ k) := by
  refine ⟨fun h => ?_, fun h h1 h2 e => ?_⟩
  · have hb := number_back h
    have hle := numberN_le k
    have hd : (toL k).drop 4 = dig6 (numberN k) := by rw [← hb]; conv => rhs; rw [hb]
                                                      rfl
    rw [hd, numZ_of _ hle] at hz
    subst hz
    refine ⟨by omega, by omega, rfl, ?_⟩
    rw [Int.toNat_natCast]
    exact hb
  · have := number_of z.toNat (by omega)
    rw [e, h] at this
    omega
set_option maxHeartbeats 2000000 in
set_option maxRecDepth 100000 in
theorem number_ref (k : ByteArray) (w : World) (hk : k.size ≤ maxLen) : Calls Tryz.prog 78 #[.string k] w fun e w' => e = .returned (.int .i64 (numberN k : Int)) ∧ Kp Noone w w' := by
  have hl : (toL k).length = k.size := length_bytes k
  have hn63 : k.size ≤ 9223372036854775807 := by unfold maxLen at hk; omega
  obtain ⟨N, hN⟩ : ∃ N, Hid (numberN k = N) := ⟨_, Lib.hid rfl⟩
  rw [hN.out]
  by_cases h10 : k.size = 10
  case neg =>
    have h0 : N = 0 := by
      rw [← hN.out]
      unfold numberN
      rw [if_neg (fun c => h10 (by rw [← hl]; exact c.2))]
    subst h0
    have hne : ((k.size : Int) != 10) = true := by simp; omega
    clear h10
    go_enter Tryz.func78, Tryz.ntmps78
    go_wp2_with fail
    go_ret
    exact ⟨rfl, Kp.refl _ _⟩
  have hnd := @number_doc k _ rfl
  rw [hN.out] at hnd
  have HND := Lib.hid hnd
  have hl10 : (toL k).length = 10 := by omega
  have HIX : Hid (∀ (i : Nat) (hi : i < (toL k).length) (W : World), (Instr.index 9 (.string k) (.int .i64 (i : Int))).run Tryz.prog W = .ok (.int .u8 ((toL k)[i].toNat : Int)) W) := Lib.hid (fun i hi W => by
    rw [run_index_string _ _ _ _ _ Tryz.underlying9, dif_pos ⟨by omega, by omega⟩]
    rfl)
  have HL10 := Lib.hid hl10
  have h10i : ((k.size : Int) != 10) = false := by simp; omega
  clear hnd hl h10 hn63 hl10
  go_enter Tryz.func78, Tryz.ntmps78
  go_wp2_with fail
  go_loop [3, 4] (fun v u => ∃ (j : Nat) (z : Int), j ≤ 6 ∧ v = .int .i64 z ∧ u = .int .i64 ((j + 4 : Nat) : Int) ∧ Hid (numZ (((toL k).drop 4).take j) 0 = z) ∧ Hid (z.natAbs + 23 ≤ 23 * 10 ^ j)) (fun _ u => 10 - (intOf u).toNat)
  case atStart => exact ⟨0, 0, by omega, rfl, rfl, Lib.hid rfl, Lib.hid (by simp)⟩
  case round =>
    obtain ⟨j, z, hj, rfl, rfl, hz, hb⟩ := hrel
    by_cases hlt : j < 6
    · have hjl : j + 4 < (toL k).length := by have := HL10.out; omega
      have hix := HIX.out (j + 4) hjl
      have hst : Hid (numZ (((toL k).drop 4).take (j + 1)) 0 = 10 * z + ((toL k)[j + 4].toNat : Int) - 48) := Lib.hid (by
        have hjd : j < ((toL k).drop 4).length := by rw [List.length_drop]; omega
        rw [List.take_succ_eq_append_getElem hjd, numZ_append, hz.out, List.getElem_drop]
        simp only [show 4 + j = j + 4 by omega]
        rfl)
      have hc8 := (toL k)[j + 4].toNat_lt
      generalize (toL k)[j + 4].toNat = c at *
      have hcc : c ≤ 255 := by omega
      have hbb := hb.out
      have hp : 10 ^ (j + 1) = 10 * 10 ^ j := by rw [Nat.pow_succ, Nat.mul_comm]
      have hp5 : 10 ^ j ≤ 10 ^ 5 := Nat.pow_le_pow_right (by omega) (by omega)
      have hb2 : Hid ((10 * z + (c : Int) - 48).natAbs + 23 ≤ 23 * 10 ^ (j + 1)) := Lib.hid (by rw [hp]; omega)
      have hz1 : -2300000 ≤ z ∧ z ≤ 2300000 := by omega
      have hw1 : IntKind.i64.wrap (10 * z) = 10 * z := IntWalk.i64_in _ (by omega)
      have hw2 : IntKind.i64.wrap (10 * z + (c : Int)) = 10 * z + (c : Int) := IntWalk.i64_in _ (by omega)
      have hw3 : IntKind.i64.wrap (10 * z + (c : Int) - 48) = 10 * z + (c : Int) - 48 := IntWalk.i64_in _ (by omega)
      have hw4 : IntKind.i64.wrap (((j + 4 : Nat) : Int) + 1) = ((j + 4 : Nat) : Int) + 1 := IntWalk.i64_in _ (by omega)
      have hji : ((j + 4 : Nat) : Int) < 10 := by omega
      clear hp hp5 hbb hc8
      generalize hq : j + 4 = q at *
      go_wp2_with fail
      go_round
      case rel => exact ⟨j + 1, _, by omega, rfl, by rw [← hq]; go_num, hst, hb2⟩
      case measure => simp [intOf]; omega
    · obtain rfl : j = 6 := by omega
      have hz6 : numZ ((toL k).drop 4) 0 = z := by
        have h := hz.out
        rw [List.take_of_length_le (by rw [List.length_drop, HL10.out]; omega)] at h
        exact h
      have hnd := HND.out
      rw [hz6] at hnd
      obtain ⟨nd1, nd2⟩ := hnd
      have hzb := hb.out
      have hz1 : -23000000 ≤ z ∧ z ≤ 23000000 := by omega
      by_cases h0 : N = 0
      · subst h0
        have nd := nd2 rfl
        by_cases c1 : z < 1
        · clear nd nd1 nd2 hz1 hzb
          go_wp2_with fail
          go_ret
          exact ⟨rfl, Kp.refl _ _⟩
        by_cases c2 : 999999 < z
        · have c2 := Lib.hid c2
          have c2' : ¬ z ≤ 999999 := by have := c2.out; omega
          clear nd nd1 nd2 hz1 hzb
          go_wp2_with fail
          go_ret
          exact ⟨rfl, Kp.refl _ _⟩
        · have hne := nd (by omega) (by omega)
          obtain ⟨x, rfl⟩ : ∃ x : Nat, z = (x : Int) := ⟨z.toNat, by omega⟩
          rw [Int.toNat_natCast] at hne
          have hnm := name_ref x w (by omega)
          have c2' : ¬ (999999 : Int) < (x : Int) := by omega
          have hne2 := (ba_ne hne).2.2.1
          clear nd nd1 nd2 hz1 hzb c2 hne
          go_wp2_with fail
          refine hnm.mono ?_
          rintro e w2 ⟨rfl, k2⟩
          go_wp2_with fail
          go_ret
          exact ⟨rfl, k2⟩
      · obtain ⟨m1, m2, rfl, m4⟩ := nd1 h0
        rw [Int.toNat_natCast] at m4
        have hnm := name_ref N w (by omega)
        rw [m4] at hnm
        have c1 : ¬ (N : Int) < 1 := by omega
        have hkk : (k != k) = false := by
          have : (k == k) = true := by rw [ba_beq]; simp
          simp [bne, this]
        clear nd1 nd2 hz1 hzb m1 m4
        go_wp2_with fail
        refine hnm.mono ?_
        rintro e w2 ⟨rfl, k2⟩
        go_wp2_with fail
        go_ret
        exact ⟨rfl, k2⟩

end Go.Proofs.YtigdhdclfdojgaaGreat

/-
  THE WALK of the document's frames.
-/
namespace Go.Proofs.YtigdhdclfdojgaaGreat
open Go.RowKit

theorem info_bytesD : (Tryz.prog.info? 42).map (fun i => (i.zero, i.size, i.bytes)) = some (some (.slice none 0 0), 1, 24) := by kernel_rfl
theorem rtext_frame (d r : List UInt8) (h : d.length ≤ 8192) : rtext (frameL d ++ r) 0 8200 = ((r, 0), sealL d) := by
  have hl : (sealL d).length = d.length + 8 := length_sealL d
  unfold frameL
  rw [List.append_assoc, rtext_num (d.length + 8) (by omega) _ (by rw [List.length_append]; omega)]
  rw [List.drop_left' (by omega), List.take_left' (by omega)]
theorem frame1_left {b d : List UInt8} (h : frame1 b = some d) : b = frameL d ++ (rtext b 0 8200).1.1 ∧ d.length ≤ 8192 := by
  obtain ⟨r, hr, hd⟩ := frame1_some h
  have e := rtext_frame d r hd
  rw [← hr] at e
  rw [e]
  exact ⟨hr, hd⟩
/-- Between two frames. -/
structure FrR (B : Nat) (W : World) (n : Nat) (b : List UInt8) (vo va : Value) (wr : World) : Prop where
  ex : ∃ (ds : List (List UInt8)) (k : Nat) (ao : Option Addr) (cap : Nat) (col : Nat → Nat) (hs : Sls9), vo = .slice ao ds.length cap ∧ va = .int .i64 (k : Int) ∧ k ≤ n ∧ splitL b = ds ++ splitL (b.drop k) ∧ k = (frames ds).length ∧ b = frames ds ++ b.drop k ∧
    Cols B wr col ∧ RecP (fun j => B ≤ j) 1 col wr ao cap hs ds ∧ Kp Noone W wr
/-- What frames answers. -/
structure FrTo (P : Nat → Prop) (w : World) (b : List UInt8) (e : Ending) (w' : World) : Prop where
  ex : ∃ ao cap, e = .returned (.tuple #[.slice ao (splitL b).length cap, .int .i64 ((frames (splitL b)).length : Int)]) ∧ RRec P w' ao (splitL b).length cap (splitL b) ∧ Kp Noone w w'
theorem FrTo.mk' {P : Nat → Prop} {w wr : World} {b : List UInt8} {ds : List (List UInt8)} {k : Nat} {ao : Option Addr} {cap : Nat} {col : Nat → Nat} {hs : Sls9} (hP : ∀ j, w.heap.size ≤ j → P j) (e : splitL b = ds) (hk : k = (frames ds).length) (hc : Cols w.heap.size wr col) (hr : RecP (fun j => w.heap.size ≤ j) 1 col wr ao cap hs ds) (kr : Kp Noone w wr) : FrTo P w b (.returned (.tuple #[.slice ao ds.length cap, .int .i64 (k : Int)])) wr := by
  subst hk
  rw [← e] at *
  exact ⟨⟨ao, cap, rfl, hr.rrec hc (by omega) (fun j a _ => hP j a) (fun j _ c => hP j c.2), kr⟩⟩
attribute [local irreducible] putQ

set_option maxHeartbeats 4000000 in
set_option maxRecDepth 100000 in
theorem frames_ref (P : Nat → Prop) (bo : Option Addr) (n c : Nat) (b : List UInt8) (w : World) (hb : BS w bo n c b) (hn : n ≤ 4194304) (hP : ∀ j, w.heap.size ≤ j → P j) :
    Calls Tryz.prog 79 #[.slice bo n c] w fun e w' => FrTo P w b e w' := by
  obtain ⟨i1, hj, hy0, hy1, hy2⟩ := info_parts info_bytesD
  have hlen := hb.len
  have hcap := hb.le
  have hmx := hb.max
  have HB := Lib.hid hb
  have HP := Lib.hid hP
  have HL := Lib.hid hlen
  have kA : Kp Noone w (w.alloc (.cells #[] 42)) := (Kp.refl _ _).alloc _
  have R0 : Hid (FrR w.heap.size w n b (.slice (some ⟨w.heap.size, 0, none⟩) 0 0) (.int .i64 0) (w.alloc (.cells #[] 42))) := Lib.hid ⟨⟨[], 0, some ⟨w.heap.size, 0, none⟩, 0, fun _ => 0, [], rfl, rfl, Nat.zero_le _, rfl, rfl, rfl, Cols.zero _ _, RecP.nil _ _ _ _ _, kA⟩⟩
  have hc63 : c ≤ 9223372036854775807 := by unfold maxLen at hmx; omega
  clear hb hP hlen kA hmx
  go_enter Tryz.func79, Tryz.ntmps79
  go_wp2_with fail
  go_loopw [4, 5] (fun vo va wr => FrR w.heap.size w n b vo va wr) (fun _ va _ => n - (intOf va).toNat)
  case atStart => exact R0.out
  case round =>
    clear R0
    obtain ⟨ds, k, ao, cap, col, hs, rfl, rfl, hk, hsp, hkf, hbf, hcol, hrec, kr⟩ := hrel.ex
    clear hrel
    have HSP := Lib.hid hsp
    have HKF := Lib.hid hkf
    have HBF := Lib.hid hbf
    have HC := Lib.hid hcol
    have HR := Lib.hid hrec
    have HK := Lib.hid kr
    clear hsp hkf hbf hcol hrec kr
    by_cases hlt : k < n
    case neg =>
      obtain rfl : k = n := by omega
      have F : Hid (FrTo P w b (.returned (.tuple #[.slice ao ds.length cap, .int .i64 (k : Int)])) wr) := Lib.hid (FrTo.mk' HP.out (by
        have e := HSP.out
        rw [List.drop_eq_nil_of_le (by rw [HL.out]; exact Nat.le_refl _), splitL_nil, List.append_nil] at e
        exact e) HKF.out HC.out HR.out HK.out)
      go_wp2_with fail
      go_ret2
      exact F.out
    obtain ⟨g, off, -, rfl, -, -⟩ := HB.out.at hlt
    have hpast := (HB.out.keep HK.out).from (m := k) (by omega)
    have hck : ¬ c = k := by omega
    rw [if_neg hck, Option.map_some, Addr.add_lit] at hpast
    have hkn : (k : Int) ≤ (n : Int) := by omega
    have hlr : (b.drop k).length = n - k := hpast.len
    obtain ⟨rem, hrem⟩ : ∃ rem, Hid (b.drop k = rem) := ⟨_, Lib.hid rfl⟩
    rw [hrem.out] at hpast hlr
    have hrt := refReadText_any (some ⟨g, off + k, none⟩) (n - k) (c - k) rem 0 8200 wr hpast (by omega) (by omega) (by omega) (by omega)
    have HF1 : Hid (frame1 rem = if (rtext rem 0 8200).1.2 ≠ 0 ∨ openE (rtext rem 0 8200).2 ≠ 0 then none else some (openL (rtext rem 0 8200).2)) := Lib.hid rfl
    have HFL : Hid (∀ d, frame1 rem = some d → rem = frameL d ++ (rtext rem 0 8200).1.1 ∧ d.length ≤ 8192) := Lib.hid (fun d hd => frame1_left hd)
    have hrl := rtext_len rem 0 8200
    generalize rtext rem 0 8200 = R at *
    obtain ⟨⟨left, bad⟩, t⟩ := R
    simp only [] at hrt HF1 HFL hrl
    unfold rrV at hrt
    rw [Int.natCast_zero] at hrt
    have HPA := Lib.hid hpast
    clear hpast
    go_wp2_with fail
    refine hrt.mono ?_
    clear hrt
    rintro e w2 ⟨lo, ln, lc, to', tc, rfl, hb2, ht2, k2, -⟩
    unfold rrV
    have kB : Kp Noone w2 (w2.alloc (.cells #[.slice lo ln lc, .int .i64 (bad : Int)] 138)) := (Kp.refl _ _).alloc _
    have hB := heap_alloc_new w2 (.cells #[.slice lo ln lc, .int .i64 (bad : Int)] 138)
    have HT3 := Lib.hid (ht2.keep kB)
    have HK3 := Lib.hid ((HK.out.trans k2).trans kB)
    have K23 := Lib.hid (k2.trans kB)
    have hgb : wr.heap.size ≤ w2.heap.size := k2.size
    have hlln : left.length = ln := (hb2 _ (HPA.out.keep k2)).len
    go_upto_region 5 with fail
    clear hb2 ht2 k2 kB
    generalize w2.alloc (.cells #[.slice lo ln lc, .int .i64 (bad : Int)] 138) = w3 at *
    generalize w2.heap.size = gb at *
    obtain ⟨z0, z1, -, -⟩ := cells_two hB
    obtain ⟨tl, htl⟩ : ∃ tl, Hid (t.length = tl) := ⟨_, Lib.hid rfl⟩
    rw [htl.out] at hrl ⊢
    have hop := refOpen_any to' tl tc t w3 (by have := HT3.out; rw [htl.out] at this; exact this) (by omega)
    go_wp2_with fail
    refine hop.mono ?_
    clear hop
    rintro e w4 ⟨xo, xm, xc, rfl, ho4, k4⟩
    have hx4 := k4.heap hB id
    have hz23 := K23.out.size
    obtain ⟨z0, z1, -, -⟩ := cells_two hx4
    have HO4 := Lib.hid ho4
    have HK4 := Lib.hid (HK3.out.trans k4)
    have K24 := Lib.hid (K23.out.trans k4)
    have hol := openL_length t
    generalize openE t = oe at *
    clear ho4 k4 HK3 K23 HT3
    have hnone : bad ≠ 0 ∨ oe ≠ 0 → FrTo P w b (.returned (.tuple #[.slice ao ds.length cap, .int .i64 (k : Int)])) w4 := fun hc => FrTo.mk' HP.out (by
      have e := HSP.out
      have f := HF1.out
      rw [if_pos hc] at f
      rw [hrem.out, splitL_none f, List.append_nil] at e
      exact e) HKF.out (HC.out.keep K24.out.size) (HR.out.keep K24.out) HK4.out
    have HN := Lib.hid hnone
    clear hnone
    by_cases c1 : bad = 0
    case neg =>
      have n1 : ((bad : Int) != 0) = true := by simp; omega
      go_wp2_with fail
      go_ret2
      exact HN.out (Or.inl c1)
    subst c1
    rw [Int.natCast_zero] at z1
    by_cases c2 : oe = 0
    case neg =>
      have n1 : (oe != 0) = true := by simpa using c2
      go_wp2_with fail
      go_ret2
      exact HN.out (Or.inr c2)
    subst c2
    have hf : frame1 rem = some (openL t) := by rw [HF1.out, if_neg (by simp)]
    obtain ⟨hre, hd8⟩ := HFL.out _ hf
    have hss := splitL_some hf
    generalize openL t = d at *
    have hfp := frameL_pos d
    have hlr2 := congrArg List.length hre
    rw [List.length_append, hlr, hlln] at hlr2
    have hdrop : rem.drop (frameL d).length = left := by
      conv => lhs; rw [hre]
      exact List.drop_left' rfl
    rw [hdrop] at hss
    have hd2 : b.drop (k + (frameL d).length) = left := by rw [← List.drop_drop, hrem.out, hdrop]
    obtain ⟨fl, hfl⟩ : ∃ fl, Hid ((frameL d).length = fl) := ⟨_, Lib.hid rfl⟩
    rw [hfl.out] at hlr2 hfp hd2
    have hwl : IntKind.i64.wrap ((n : Int) - (ln : Int)) = ((k + fl : Nat) : Int) := by rw [IntWalk.i64_in _ (by omega)]; omega
    have hxl := HO4.out.bs.len
    have kC : Kp Noone w4 (w4.alloc (.cells #[.slice xo xm xc] 42)) := (Kp.refl _ _).alloc _
    have hcB := HC.out.keep (K24.out.trans kC).size
    have hsB : w.heap.size ≤ (w4.alloc (.cells #[.slice xo xm xc] 42)).heap.size := (HK4.out.trans kC).size
    have hnew : DataP (fun j => col j = 0 ∧ w.heap.size ≤ j) (w4.alloc (.cells #[.slice xo xm xc] 42)) xo xm xc d := ((HO4.out.dataP).mono (Q := fun j => col j = 0 ∧ w.heap.size ≤ j) (fun j _ c => by
      have h1 := (Ex.none c).1
      have h2 := HK.out.size
      exact ⟨cols_new HC.out (by omega), by omega⟩)).keep kC
    have hrB := (HR.out.keep K24.out).keep kC
    have hown := hrB.own
    have hdl : ds.length * 9 ≤ k := by have := frames_len ds; have := HKF.out; omega
    have hxB := kC.heap hx4 id
    have hcg : col gb = 0 := cols_new HC.out hgb
    have HKC := Lib.hid (HK4.out.trans kC)
    have HSS := Lib.hid hss
    have HD2 := Lib.hid hd2
    have HRE := Lib.hid hre
    clear hf hss hdrop hd2 hre kC hx4
    go_wp2_with (at_builtin; refine wpList_append_gen _ rfl (.tmp 37) (.tmp 39) 55 rfl 42 i1 (.slice none 0 0) 1 24 Tryz.underlying55 hj hy0 hy1 hy2 rfl ao ds.length cap rfl (some ⟨w4.heap.size, 0, none⟩) 1 1 rfl (Col col 1) (hdrs9 hs) hown [.slice xo xm xc] rfl (Row.ofHeap (heap_alloc_new w4 _)) (hdrs9_one xo xm xc) (by omega) (by unfold maxLen; omega) ?_)
    intro yo yc w6 ho6 k6
    obtain ⟨z0, -, -, -⟩ := cells_two (k6.heap hxB (by unfold Col; omega))
    have hpush := hrB.push hcB hsB (by omega) k6 ho6 hnew
    have hc6 := hcB.paint hsB k6.size 1
    have k06 := HKC.out.fin k6 (fun j c => Or.inr (Col.lt hcB (by omega) c).1)
    generalize paint col (w4.alloc (.cells #[.slice xo xm xc] 42)) w6 1 = col6 at *
    have R : Hid (FrR w.heap.size w n b (.slice yo (ds.length + 1) yc) (.int .i64 ((k + fl : Nat) : Int)) w6) := Lib.hid ⟨⟨ds ++ [d], k + fl, yo, yc, col6, _, by rw [List.length_append]; rfl, rfl, by omega, by
      rw [HSP.out, hrem.out, HSS.out, HD2.out, List.append_assoc]
      rfl, by
      rw [frames_append, List.length_append, ← HKF.out, frames_cons, frames_nil, List.append_nil, hfl.out], by
      rw [HD2.out, frames_append, frames_cons, frames_nil, List.append_nil, List.append_assoc, ← HRE.out, ← hrem.out]
      exact HBF.out, hc6, hpush, k06⟩⟩
    clear hpush hc6 k06 ho6 k6 hrB hown hnew hcB hsB hxB hcg HKC
    go_wp2_with fail
    go_roundw
    case rel => exact R.out
    case measure => simp [intOf]; omega

end Go.Proofs.YtigdhdclfdojgaaGreat

