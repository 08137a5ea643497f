/-
  The texts WalFrame, WalSplit, WalFound in one: what the claim reaches of them.
-/
import Derived.Test.YtgbgbokcohfnpaaGreatP07
import Derived.Deep.RegionHeld3
import Derived.Test.YtgbgbokcohfnpaaGreatP05
/-
  wal: THE WALKS of frame, header, begins.
-/
namespace Go.Proofs.YtgbgbokcohfnpaaGreat
open Go.RowKit

/-- New bytes. -/
structure FreshTo (w : World) (l : List UInt8) (e : Ending) (w' : World) : Prop where
  ex : ∃ bo c, e = .returned (.slice bo l.length c) ∧ Own (fun j => w.heap.size ≤ j) w' 5 1 bo l.length c (bv l) ∧ Kp Noone w w'

set_option maxHeartbeats 1000000 in
theorem frame_w (ao : Option Addr) (n cap : Nat) (d : List UInt8) (w : World) (hb : BS w ao n cap d) (hn : n ≤ 1048576) :
    Calls Tryz.prog 133 #[.slice ao n cap] w fun e w' => FreshTo w (frameL d) e w' := by
  have hlen := hb.len
  have hF : [] ++ numL (d.length + 8) ++ (d ++ eightL (sumN d)) = frameL d := rfl
  have hfl := frameL_le d
  rw [hlen] at hF
  obtain ⟨FL, hFL⟩ : ∃ x, Hid (frameL d = x) := ⟨_, Lib.hid rfl⟩
  rw [hFL.out] at hF hfl ⊢
  have HF := Lib.hid hF
  have HLN := Lib.hid hlen
  clear hF hlen hFL
  go_enter Tryz.func133, Tryz.ntmps133
  go_wp2_with fail
  refine (newWriter_any _).mono ?_
  rintro e w1 ⟨q, rfl, hwr, k1, hq⟩
  have hb1 := hb.keep k1
  go_wp2_with fail
  refine (seal_any ao n cap d w1 hb1 (by omega)).mono ?_
  rintro e w2 ⟨so, sc, rfl, ho2, k2⟩
  have hwr2 := (hwr.mono (G := fun j => w.heap.size ≤ j ∧ j < w1.heap.size) (fun j hj c => ⟨(Ex.none c).1, hj⟩)).keep k2
  have hoff : Off (fun j => w.heap.size ≤ j ∧ j < w1.heap.size) so := fun a ha c => by
    rcases ho2 with ⟨h1, h2, h3, h4⟩
    rcases h4 with h4 | ⟨g, off, cur, h0, hg, -⟩
    · omega
    · rw [ha] at h0
      cases h0
      have := (Ex.none hg).1
      have h5 : (⟨g, off, none⟩ : Addr).block = g := rfl
      omega
  have hob := ho2.bs
  have HK2 := Lib.hid (k1.trans k2)
  have HW1 := k1.size
  clear hb hb1 hwr k1 k2 ho2
  go_wp2_with fail
  refine (writerText_any _ q [] so (n + 8) sc _ w2 hwr2 hob hoff (by simp; omega)).mono ?_
  rintro e w3 ⟨rfl, hwr3, k3⟩
  rw [HF.out] at hwr3
  have HK3 := Lib.hid (HK2.out.fin k3 (fun j c => Or.inr c.1))
  clear hwr2 hob hoff k3 HK2
  go_wp2_with fail
  refine (writerBytes_any _ q FL w3 hwr3 (by have := HLN.out; omega)).mono ?_
  rintro e w4 ⟨bo, c, rfl, ho4, k4⟩
  have HO := Lib.hid (ho4.mono (G := fun j => w.heap.size ≤ j) (fun j _ c => by have h1 := (Ex.none c).1; have h2 := HK3.out.size; omega))
  have HK4 := Lib.hid (HK3.out.trans k4)
  clear hwr3 k4 ho4 HK3
  go_wp2_with fail
  go_ret
  exact ⟨⟨bo, c, rfl, HO.out, HK4.out⟩⟩

set_option maxHeartbeats 2000000 in
theorem header_w (num first : Nat) (w : World) (hn : num ≤ 4611686018427387904) (hf : first ≤ 4611686018427387904) :
    Calls Tryz.prog 108 #[.agg #[.int .i64 (num : Int), .int .i64 (first : Int)]] w fun e w' => FreshTo w (headerL num first) e w' := by
  have hwt : IntKind.u64.wrap (num : Int) = (num : Int) := IntWalk.u64_in _ (by omega)
  have hws : IntKind.u64.wrap (first : Int) = (first : Int) := IntWalk.u64_in _ (by omega)
  have h1 := sizeN_le num
  have h2 := sizeN_le first
  obtain ⟨L1, HL1⟩ : ∃ x, Hid ([] ++ numL num = x) := ⟨_, Lib.hid rfl⟩
  obtain ⟨L2, HL2⟩ : ∃ x, Hid (L1 ++ numL first = x) := ⟨_, Lib.hid rfl⟩
  have l1 : L1.length ≤ 9 := by rw [← HL1.out, List.nil_append, length_numL]; omega
  have l2 : L2.length ≤ 18 := by rw [← HL2.out, List.length_append, length_numL]; omega
  have hP : headerL num first = frameL L2 := by
    rw [← HL2.out, ← HL1.out]
    rfl
  rw [hP]
  clear hP
  have hA := heap_alloc_new w (.cells #[.int .i64 (num : Int), .int .i64 (first : Int)] 132)
  have kA : Kp Noone w (w.alloc (.cells #[.int .i64 (num : Int), .int .i64 (first : Int)] 132)) := (Kp.refl _ _).alloc _
  go_enter Tryz.func108, Tryz.ntmps108
  go_upto_region 1 with fail
  generalize w.alloc (.cells #[.int .i64 (num : Int), .int .i64 (first : Int)] 132) = wA at *
  have kD : Kp Noone w wA.drew := kA.drew
  have hgD := ((Kp.refl Noone wA).drew).heap hA id
  obtain ⟨d0, d1, -, -⟩ := cells_two hgD
  have hgl : w.heap.size < wA.drew.heap.size := (Array.getElem?_eq_some_iff.1 hgD).1
  generalize hgx : w.heap.size = gx at *
  clear hA kA hgD
  go_region_held3 (fun w' => w'.cell? ⟨gx, 0, none⟩ = some (.int .i64 (num : Int)) ∧ w'.cell? ⟨gx, 1, none⟩ = some (.int .i64 (first : Int)))
    (exact ⟨by assumption, by assumption⟩)
    (first
      | (go_at_call 134; refine (newWriter_any _).mono ?_; rintro e w' ⟨q, rfl, hwr, kw, hq⟩; have d0 := kw.cell d0 id; have d1 := kw.cell d1 id; have k4 := kD.trans kw; have hwr := hwr.mono (G := fun j => gx < j) (fun j _ c => Nat.lt_of_lt_of_le hgl (Ex.none c).1); have hgl := Nat.lt_of_lt_of_le hgl kw.size)
      | (go_at_call 135; (change Wr _ _ _ [] at hwr); refine (writerNum_any (fun j => gx < j) q [] num _ hwr (by unfold W64; omega) (by simp only [List.length_nil]; omega)).mono ?_; rintro e w' ⟨rfl, hwr, kw⟩; rw [HL1.out] at hwr; have d0 := kw.cell d0 (Nat.lt_irrefl _); have d1 := kw.cell d1 (Nat.lt_irrefl _); have k4 := k4.fin kw (fun j c => Or.inr (by rw [hgx]; exact Nat.le_of_lt c)); have hwr := hwr.mono (G := fun j => gx < j) (fun j _ c => c.elim id (fun c => Nat.lt_of_lt_of_le hgl c.1)); have hgl := Nat.lt_of_lt_of_le hgl kw.size)
      | (go_at_call 135; (change Wr _ _ _ L1 at hwr); refine (writerNum_any (fun j => gx < j) q L1 first _ hwr (by unfold W64; omega) (by omega)).mono ?_; rintro e w' ⟨rfl, hwr, kw⟩; rw [HL2.out] at hwr; have d0 := kw.cell d0 (Nat.lt_irrefl _); have d1 := kw.cell d1 (Nat.lt_irrefl _); have k4 := k4.fin kw (fun j c => Or.inr (by rw [hgx]; exact Nat.le_of_lt c)); have hwr := hwr.mono (G := fun j => gx < j) (fun j _ c => c.elim id (fun c => Nat.lt_of_lt_of_le hgl c.1)); have hgl := Nat.lt_of_lt_of_le hgl kw.size)
      | (go_at_call 137; refine (writerBytes_any (fun j => gx < j) q L2 _ hwr (by omega)).mono ?_; rintro e w' ⟨bo, c, rfl, ho, kw⟩; have d0 := kw.cell d0 id; have d1 := kw.cell d1 id; have k5 := k4.trans kw)
      | (go_at_call 133; refine (frame_w bo L2.length c L2 _ ho.bs (by omega)).mono ?_; rintro e w' ⟨⟨fo, fc, rfl, hof, kf⟩⟩; have d0 := kf.cell d0 id; have d1 := kf.cell d1 id; have k6 := k5.trans kf))
  have hs5 := k5.size
  have HO := Lib.hid (hof.mono (G := fun j => gx ≤ j) (fun j _ c => by rw [hgx] at hs5; omega))
  have HK6 := Lib.hid k6
  clear k4 kD d0 d1 kw kf k5 k6 ho hof hwr
  go_wp2_with fail
  go_ret
  exact ⟨⟨fo, fc, rfl, by rw [hgx]; exact HO.out, HK6.out⟩⟩

set_option maxHeartbeats 1000000 in
theorem begins_w (bo : Option Addr) (n cap : Nat) (d : List UInt8) (num : Nat) (w : World) (hb : BS w bo n cap d) (hn : n ≤ 1048576) :
    Calls Tryz.prog 105 #[.slice bo n cap, .int .i64 (num : Int)] w fun e w' => e = .returned (.tuple #[.int .i64 ((beginsF d num).1 : Int), .bool (beginsF d num).2]) ∧ Kp Noone w w' := by
  obtain ⟨R1, hR1⟩ : ∃ x, Hid (rcount d 0 999999 = x) := ⟨_, Lib.hid rfl⟩
  obtain ⟨R2, hR2⟩ : ∃ x, Hid (rcount R1.1.1 R1.1.2 1099511627776 = x) := ⟨_, Lib.hid rfl⟩
  have e1 : rcount d 0 999999 = R1 := hR1.out
  have e2 : rcount R1.1.1 R1.1.2 1099511627776 = R2 := hR2.out
  have eB : beginsF d num = (R2.2, decide (rdone R2.1.1 R2.1.2 = 0 ∧ R1.2 = num ∧ 0 < R2.2)) := by unfold beginsF; rw [e1, e2]
  rw [eB]
  generalize hdn : rdone R2.1.1 R2.1.2 = dn at *
  generalize hown : R1.2 = own at *
  generalize hfirst : R2.2 = first at *
  obtain ⟨B, hB⟩ : ∃ B, Hid (decide (dn = 0 ∧ own = num ∧ 0 < first) = B) := ⟨_, Lib.hid rfl⟩
  rw [hB.out]
  have HDN := Lib.hid hdn
  have HOWN := Lib.hid hown
  have HFIRST := Lib.hid hfirst
  have E2 := Lib.hid e2
  have E1 := Lib.hid e1
  clear e1 e2 hR1 hR2 eB hdn hown hfirst
  go_enter Tryz.func105, Tryz.ntmps105
  go_wp2_with fail
  refine (newReader_any bo n cap d w hb (by omega)).mono ?_
  rintro e w1 ⟨r, rfl, hr, k1, hq⟩
  have C1 := readerCount_any r d 0 999999 w1 hr (by omega) (by omega)
  rw [E1.out, HOWN.out] at C1
  have HK1 := Lib.hid k1
  clear hb hr k1
  go_wp2_with fail
  refine C1.mono ?_
  rintro e w2 ⟨rfl, hr2, k2⟩
  have C2 := readerCount_any r R1.1.1 R1.1.2 1099511627776 w2 hr2 (by omega) (by omega)
  rw [E2.out, HFIRST.out] at C2
  have HK2 := Lib.hid (HK1.out.fin k2 (fun j e => Or.inr (by omega)))
  clear C1 hr2 k2
  go_wp2_with fail
  refine C2.mono ?_
  rintro e w3 ⟨rfl, hr3, k3⟩
  have C3 := readerDone_any r R2.1.1 R2.1.2 w3 hr3
  rw [HDN.out] at C3
  have HK3 := Lib.hid (HK2.out.fin k3 (fun j e => Or.inr (by omega)))
  clear C2 hr3 k3
  go_wp2_with fail
  refine C3.mono ?_
  rintro e w4 ⟨rfl, -, k4⟩
  have HK4 := Lib.hid (HK3.out.fin k4 (fun j e => Or.inr (by omega)))
  clear C3 k4
  by_cases h1 : dn = 0
  · subst h1
    rw [Int.natCast_zero]
    by_cases h2 : own = num
    · have hnn : ((own : Int) == (num : Int)) = true := by simp [h2]
      by_cases h3 : 0 < first
      · have hr : B = true := by rw [← hB.out]; simp [h2, h3]
        subst hr
        go_wp2_with fail
        go_ret2
        exact ⟨rfl, HK4.out⟩
      · have hr : B = false := by rw [← hB.out]; simp [h3]
        subst hr
        go_wp2_with fail
        go_ret2
        exact ⟨rfl, HK4.out⟩
    · have hr : B = false := by rw [← hB.out]; simp [h2]
      subst hr
      have hn : ((own : Int) == (num : Int)) = false := by simp; omega
      clear h2
      go_wp2_with fail
      go_ret2
      exact ⟨rfl, HK4.out⟩
  · have hr : B = false := by rw [← hB.out]; simp [h1]
    subst hr
    have hn : ((dn : Int) == 0) = false := by simpa using h1
    clear h1
    go_wp2_with fail
    go_ret2
    exact ⟨rfl, HK4.out⟩

end Go.Proofs.YtgbgbokcohfnpaaGreat

/-
  wal: THE WALK of split.
-/
namespace Go.Proofs.YtgbgbokcohfnpaaGreat
open Go.RowKit

theorem info_bsl : (Tryz.prog.info? 44).map (fun i => (i.zero, i.size, i.bytes)) = some (some (.slice none 0 0), 1, 24) := by kernel_rfl
def rowsV (hs : Hs) : List Value := hs.map fun h => .slice h.1 h.2.1 h.2.2
def sizesV (ds : List (List UInt8)) : List Value := ds.map fun d => .int .i64 ((frameL d).length : Int)
theorem DataP.painted {B i : Nat} {col : Nat → Nat} {w w' : World} {xo : Option Addr} {n c : Nat} {l : List UInt8} (h : DataP (fun k => col k = 0 ∧ B ≤ k) w xo n c l) (k : Kp (Col col i) w w') (hi : i ≠ 0) : DataP (fun k => paint col w w' i k = 0 ∧ B ≤ k) w' xo n c l := by
  refine ((h.mono (Q := fun k => (col k = 0 ∧ B ≤ k) ∧ k < w.heap.size) (fun j hj c => ⟨c, hj⟩)).kp k (fun j _ c e => by unfold Col at e; omega)).mono (fun j _ c => ⟨?_, c.1.2⟩)
  unfold Proofs.YtgbgbokcohfnpaaGreat.paint
  rw [if_neg (by omega)]
  exact c.1.1
def sliceLen : Value → Nat
  | .slice _ n _ => n
  | _ => 0
/-- A scope whose label, to which it goes back, stands behind two regions. -/
theorem wp_scope_loop2 {P : Program} {a : Act} {w : World} {Q : Exit → Act → World → Prop} {A B body : Code} (l : Nat) (J : Act → World → Prop) (μ : Act → World → Nat) (hA : findLabel A l = none) (hB : findLabel B l = none)
    (hab : A.wp P (fun e a1 w1 => e = .normal ∧ B.wp P (fun e a2 w2 => e = .normal ∧ J a2 w2) a1 w1) a w)
    (pass : ∀ a w, J a w → body.wp P (Exit.jump l (fun a' w' => J a' w' ∧ μ a' w' < μ a w) Q) a w) : (Code.scope (Code.seq A (Code.seq B (Code.seq (Code.label l) body)))).wp P Q a w := by
  refine wp_scope_jumps l J μ (rest := Code.seq Code.skip body) (by simp [findLabel, hA, hB]) ?_ (fun a w h => wp_seq (wp_skip (pass a w h)))
  refine wp_seq (wp_mono hab (fun e a1 w1 h1 => ?_))
  obtain ⟨rfl, hb⟩ := h1
  refine wp_seq (wp_mono hb (fun e a2 w2 h2 => ?_))
  obtain ⟨rfl, hj⟩ := h2
  refine wp_seq (wp_label (wp_mono (pass a2 w2 hj) (fun e a w hq => by
    cases e with
    | goto l => exact ⟨hq.1, hq.2.1⟩
    | normal => exact hq
    | exit id => exact hq
    | ret => exact hq
    | panic ch => exact hq
    | outgrown => exact hq)))
theorem rtext_len (left : List UInt8) (bad : Nat) (most : Int) : (rtext left bad most).2.length ≤ left.length := by
  have h := rcount_len left bad most
  unfold rtext
  split
  · simp
  · split
    · simp
    · simp only [List.length_take]
      omega
theorem BS.from {w : World} {ao : Option Addr} {n cap : Nat} {l : List UInt8} (h : BS w ao n cap l) {m : Nat} (hm : m ≤ n) : BS w (if cap = m then ao else ao.map (·.add m)) (n - m) (cap - m) (l.drop m) := by
  have h1 := h.len
  have h2 := h.le
  have h3 := h.max
  refine ⟨by rw [List.length_drop]; omega, by omega, by omega, ?_⟩
  have e : bv (l.drop m) = (bv l).drop m := by unfold bv; rw [List.map_drop]
  exact h.row.sub m cap (by rw [length_bv]; omega) _ (by rw [e]; exact List.prefix_rfl)
/-- Between two frames. -/
structure SpR (B : Nat) (W : World) (b0 : List UInt8) (bo : Option Addr) (n c : Nat) (ao : Option Addr) (m ac : Nat) (so : Option Addr) (sc : Nat) (w' : World) : Prop where
  ex : ∃ (col : Nat → Nat) (ds : List (List UInt8)) (hs : Hs) (rem : List UInt8), ds.length = m ∧ hs.length = m ∧ Cols B w' col ∧ BS W bo n c rem ∧ Kp Noone W w' ∧ Own (Col col 1) w' 44 1 ao m ac (rowsV hs) ∧ Own (Col col 2) w' 3 1 so m sc (sizesV ds) ∧
    (∀ j (h1 : j < hs.length) (h2 : j < ds.length), DataP (fun k => col k = 0 ∧ B ≤ k) w' hs[j].1 hs[j].2.1 hs[j].2.2 ds[j]) ∧ splitL b0 = ds ++ splitL rem ∧ n + m ≤ b0.length
/-- The frame at the label. -/
structure SpJ (W : World) (b0 : List UInt8) (a' : Act) (w' : World) : Prop where
  ex : ∃ (bo : Option Addr) (n c : Nat) (ao : Option Addr) (m ac : Nat) (so : Option Addr) (sc : Nat) (u6 u7 u8 u9 u10 u11 u12 u13 u14 u15 u16 u17 u18 u19 u20 u21 u22 u23 u24 u25 u26 u27 u28 u29 u30 u31 u32 u33 u34 u35 u36 u37 u38 u39 u40 : Value), SpR W.heap.size W b0 bo n c ao m ac so sc w' ∧ a' = { tmps := #[.slice bo n c, undef, .slice none 0 0, .slice none 0 0, .slice ao m ac, .slice so m sc, u6, u7, u8, u9, u10, u11, u12, u13, u14, u15, u16, u17, u18, u19, u20, u21, u22, u23, u24, u25, u26, u27, u28, u29, u30, u31, u32, u33, u34, u35, u36, u37, u38, u39, u40], defers := [] }
/-- What split answers. -/
structure SplitTo (w : World) (b : List UInt8) (e : Ending) (w' : World) : Prop where
  ex : ∃ ao ac so sc hs, e = .returned (.tuple #[.slice ao (splitL b).length ac, .slice so (splitL b).length sc]) ∧ hs.length = (splitL b).length ∧ Own (fun j => w.heap.size ≤ j) w' 44 1 ao (splitL b).length ac (rowsV hs) ∧ Own (fun j => w.heap.size ≤ j) w' 3 1 so (splitL b).length sc (sizesV (splitL b)) ∧
    (∀ j (h1 : j < hs.length) (h2 : j < (splitL b).length), DataP (fun k => w.heap.size ≤ k) w' hs[j].1 hs[j].2.1 hs[j].2.2 (splitL b)[j]) ∧ Kp Noone w w'

theorem SpR.done {W : World} {b0 : List UInt8} {ao : Option Addr} {m ac : Nat} {so : Option Addr} {sc : Nat} {w' : World} {col : Nat → Nat} {ds : List (List UInt8)} {hs : Hs} {rem : List UInt8} {w2 : World} (h1 : ds.length = m) (h2 : hs.length = m) (hc : Cols W.heap.size w' col)
    (k0 : Kp Noone W w') (ho : Own (Col col 1) w' 44 1 ao m ac (rowsV hs)) (hz : Own (Col col 2) w' 3 1 so m sc (sizesV ds)) (hd : ∀ j (h1 : j < hs.length) (h2 : j < ds.length), DataP (fun k => col k = 0 ∧ W.heap.size ≤ k) w' hs[j].1 hs[j].2.1 hs[j].2.2 ds[j]) (hs0 : splitL b0 = ds ++ splitL rem) (hf : frame1 rem = none) (k : Kp Noone w' w2) :
    SplitTo W b0 (.returned (.tuple #[.slice ao m ac, .slice so m sc])) w2 := by
  rw [splitL_none hf, List.append_nil] at hs0
  refine ⟨⟨ao, ac, so, sc, hs, ?_, ?_, ?_, ?_, ?_, k0.trans k⟩⟩
  · rw [hs0, h1]
  · rw [hs0, h1, h2]
  · rw [hs0, h1]; exact (ho.keep k).mono (fun j _ c => (Col.lt hc (by omega) c).1)
  · rw [hs0, h1]; exact (hz.keep k).mono (fun j _ c => (Col.lt hc (by omega) c).1)
  · intro j a b
    simp only [hs0] at b ⊢
    exact ((hd j a b).keep k).mono (fun i _ c => c.2)

set_option maxHeartbeats 8000000 in
set_option maxRecDepth 100000 in
theorem split_w (bo0 : Option Addr) (n0 c0 : Nat) (b0 : List UInt8) (W : World) (hb : BS W bo0 n0 c0 b0) (hn : n0 ≤ 1099511627776) :
    Calls Tryz.prog 104 #[.slice bo0 n0 c0] W fun e w' => SplitTo W b0 e w' := by
  obtain ⟨i0, hi, hz0, hz1, hz2⟩ := info_parts info_bsl
  obtain ⟨j0, gi, gz0, gz1, gz2⟩ := info_parts info_intD
  have hl0 := hb.len
  have HN := Lib.hid hn
  have HL0 := Lib.hid hl0
  have J0 : Hid (SpR W.heap.size W b0 bo0 n0 c0 none 0 0 none 0 W) := Lib.hid ⟨⟨fun _ => 0, [], [], b0, rfl, rfl, Cols.zero _ _, hb, Kp.refl _ _, Own.nil _ _ _ _ _, Own.nil _ _ _ _ _, fun j h => by simp at h, rfl, by omega⟩⟩
  clear hb hl0 hn
  go_enter Tryz.func104, Tryz.ntmps104
  go_wp2_with fail
  refine wp_scope_loop2 0 (SpJ W b0) (fun a' _ => sliceLen (a'.tmps.getD 0 undef)) rfl rfl ?_ ?_
  · go_wp2_with fail
    exact ⟨⟨bo0, n0, c0, none, 0, 0, none, 0, _, _, _, _, _, _, _, _, _, _, _, _, _, _, _, _, _, _, _, _, _, _, _, _, _, _, _, _, _, _, _, _, _, _, _, J0.out, rfl⟩⟩
  · rintro a' w' ⟨⟨bo, n, c, ao, m, ac, so, sc, u6, u7, u8, u9, u10, u11, u12, u13, u14, u15, u16, u17, u18, u19, u20, u21, u22, u23, u24, u25, u26, u27, u28, u29, u30, u31, u32, u33, u34, u35, u36, u37, u38, u39, u40, hS, rfl⟩⟩
    clear J0
    obtain ⟨col, ds, hs, rem, hdl, hhl, hc, hbr, k0, ho, hz, hdat, hspl, hnm⟩ := hS.ex
    have hrl := hbr.len
    have hn := HN.out
    have hl0 := HL0.out
    have hB : W.heap.size ≤ w'.heap.size := k0.size
    have HS := Lib.hid hspl
    have HD := Lib.hid hdat
    have HO := Lib.hid ho
    have HZ := Lib.hid hz
    have HC := Lib.hid hc
    have HK := Lib.hid k0
    have HB := Lib.hid hbr
    have hbw := hbr.keep k0
    clear hS hspl hdat ho hz hc k0 hbr
    go_wp2_with fail
    refine (newReader_any bo n c rem w' hbw (by omega)).mono ?_
    rintro e w1 ⟨p, rfl, hr, k1, hq⟩
    clear hbw
    go_wp2_with fail
    refine (readerText_any p rem 0 8200 w1 hr (by omega) (by omega) (by omega)).mono ?_
    rintro e w2 ⟨tvo, tvc, rfl, htv, hr2, k2⟩
    have hFR : frame1 rem = if (rtext rem 0 8200).1.2 ≠ 0 ∨ openE (rtext rem 0 8200).2 ≠ 0 then none else some (openL (rtext rem 0 8200).2) := rfl
    have htl := rtext_len rem 0 8200
    generalize (rtext rem 0 8200).2 = tv at *
    generalize (rtext rem 0 8200).1.2 = bad at *
    generalize (rtext rem 0 8200).1.1 = lft at *
    have htb := htv.bs
    have K2 : Kp Noone w' w2 := k1.fin k2 (fun j e => Or.inr (by omega))
    have HK2 := Lib.hid K2
    clear hr k1 k2 htv
    go_wp2_with fail
    refine (open_any tvo tv.length tvc tv w2 htb (by omega)).mono ?_
    rintro e w3 ⟨xo, xm, xc, rfl, hx, k3⟩
    have hr3 := hr2.keep k3
    have HX := Lib.hid hx
    have HK3 := Lib.hid (HK2.out.trans k3)
    clear htb hx hr2 K2
    generalize openE tv = oe at *
    go_wp2_with fail
    refine (readerErr_any p lft bad w3 hr3).mono ?_
    rintro e w4 ⟨rfl, rfl⟩
    by_cases h0 : bad = 0
    case neg =>
      have hf : frame1 rem = none := by rw [hFR, if_pos (Or.inl h0)]
      have hb0 : ((bad : Int) != 0) = true := by simpa using h0
      have R := SpR.done hdl hhl HC.out HK.out HO.out HZ.out HD.out HS.out hf HK3.out
      clear h0 hf hFR
      go_wp2_with fail
      simp only [Exit.jump]
      go_ret2
      exact R
    subst h0
    rw [Int.natCast_zero]
    by_cases h1 : oe = 0
    case neg =>
      have hf : frame1 rem = none := by rw [hFR, if_pos (Or.inr h1)]
      have hb0 : (oe != 0) = true := by simpa using h1
      have R := SpR.done hdl hhl HC.out HK.out HO.out HZ.out HD.out HS.out hf HK3.out
      clear h1 hf hFR
      go_wp2_with fail
      simp only [Exit.jump]
      go_ret2
      exact R
    subst h1
    have hf : frame1 rem = some (openL tv) := by rw [hFR, if_neg (by simp)]
    generalize openL tv = d at *
    obtain ⟨r, hre, hd8⟩ := frame1_some hf
    have hxb := HX.out.bs
    have hxl := hxb.len
    have hss := splitL_some hf
    have hrn : rem.length = (frameL d).length + r.length := by rw [hre, List.length_append]
    have hfp := frameL_pos d
    have hdr : rem.drop (frameL d).length = r := by rw [hre, List.drop_left' rfl]
    rw [hdr] at hss
    have hfw := frame_w xo xm xc d w3 hxb (by omega)
    have HSS := Lib.hid hss
    have HRE := Lib.hid hre
    have hs3 : w'.heap.size ≤ w2.heap.size := HK2.out.size
    obtain ⟨fl, hfl⟩ : ∃ fl, Hid ((frameL d).length = fl) := ⟨_, Lib.hid rfl⟩
    have hfl9 : 9 ≤ fl := by rw [← hfl.out]; exact hfp
    have hfn : fl ≤ n := by rw [← hfl.out]; omega
    have hrl2 : r.length = n - fl := by rw [← hfl.out]; omega
    have hfi : (fl : Int) ≤ (n : Int) := by omega
    clear hf hFR hss hre hdr hrn hfp
    go_wp2_with fail
    refine hfw.mono ?_
    clear hfw
    rintro e w5 hto
    obtain ⟨fo, fc, rfl, -, k5⟩ := hto.ex
    rw [hfl.out]
    have K5 := HK3.out.trans k5
    have kB : Kp Noone w5 (w5.alloc (.cells #[.slice xo xm xc] 44)) := (Kp.refl _ _).alloc _
    have hown := (HO.out.keep K5).keep kB
    have hrow : Row (w5.alloc (.cells #[.slice xo xm xc] 44)) (some ⟨w5.heap.size, 0, none⟩) [.slice xo xm xc] := Row.ofHeap (heap_alloc_new w5 (.cells #[.slice xo xm xc] 44))
    have hcB := HC.out.keep (K5.trans kB).size
    have hznB := (HZ.out.keep K5).keep kB
    have hdB := fun j h1 h2 => (HD.out j h1 h2).keep (K5.trans kB)
    have hsB : w'.heap.size ≤ (w5.alloc (.cells #[.slice xo xm xc] 44)).heap.size := (K5.trans kB).size
    have hnew : DataP (fun k => col k = 0 ∧ W.heap.size ≤ k) (w5.alloc (.cells #[.slice xo xm xc] 44)) xo xm xc d := (((HX.out.dataP).mono (Q := fun k => col k = 0 ∧ W.heap.size ≤ k) (fun j _ c => ⟨cols_new HC.out (by have := (Ex.none c).1; omega), by have := (Ex.none c).1; omega⟩)).keep k5).keep kB
    have HKB := Lib.hid (HK.out.trans (K5.trans kB))
    have hsz5 : w'.heap.size ≤ w5.heap.size := K5.size
    clear hto k5 HK3 HK2 hr3
    go_wp2_with (at_builtin; refine wpList_append_gen _ rfl (.tmp 30) (.tmp 32) 157 rfl 44 i0 (.slice none 0 0) 1 24 Tryz.underlying157 hi hz0 hz1 hz2 rfl ao m ac rfl (some ⟨w5.heap.size, 0, none⟩) 1 1 rfl (Col col 1) (rowsV hs) hown [.slice xo xm xc] rfl hrow (by intro u hu; simp at hu; subst hu; rfl) (by omega) (by unfold maxLen; omega) ?_)
    intro ao2 ac2 w6 ho6 k6
    generalize w5.alloc (.cells #[.slice xo xm xc] 44) = wB at *
    have hsBW : W.heap.size ≤ wB.heap.size := HKB.out.size
    have ho6p := ho6.painted
    have hz6 := hznB.other hcB (by omega) (by omega) k6 1
    have hd6 := fun j h1 h2 => (hdB j h1 h2).painted k6 (by omega)
    have hnew6 := hnew.painted k6 (by omega)
    have hc6 := hcB.paint hsBW k6.size 1
    have HK6 := Lib.hid (HKB.out.fin k6 (fun j c => Or.inr (Col.lt hcB (by omega) c).1))
    clear ho6 hznB hdB hnew hcB HKB k6 hown hrow kB K5
    generalize paint col wB w6 1 = col6 at *
    have kC : Kp Noone w6 (w6.alloc (.cells #[.int .i64 (fl : Int)] 3)) := (Kp.refl _ _).alloc _
    have hown2 := hz6.keep kC
    have hrow2 : Row (w6.alloc (.cells #[.int .i64 (fl : Int)] 3)) (some ⟨w6.heap.size, 0, none⟩) [.int .i64 (fl : Int)] := Row.ofHeap (heap_alloc_new w6 (.cells #[.int .i64 (fl : Int)] 3))
    have ho6C := ho6p.keep kC
    have hd6C := fun j h1 h2 => (hd6 j h1 h2).keep kC
    have hnew6C := hnew6.keep kC
    have hc6C := hc6.keep kC.size
    have HKC := Lib.hid (HK6.out.trans kC)
    clear hz6 ho6p hd6 hnew6 hc6 HK6
    go_wp2_with (at_builtin; refine wpList_append_gen _ rfl (.tmp 34) (.tmp 36) 32 rfl 3 j0 (.int .i64 0) 1 8 Tryz.underlying32 gi gz0 gz1 gz2 rfl so m sc rfl (some ⟨w6.heap.size, 0, none⟩) 1 1 rfl (Col col6 2) (sizesV ds) hown2 [.int .i64 (fl : Int)] rfl hrow2 (by intro u hu; simp at hu; subst hu; rfl) (by omega) (by unfold maxLen; omega) ?_)
    intro so2 sc2 w7 ho7 k7
    generalize w6.alloc (.cells #[.int .i64 (fl : Int)] 3) = wC at *
    have hsCW : W.heap.size ≤ wC.heap.size := HKC.out.size
    have ho7p := ho7.painted
    have ho7o := ho6C.other hc6C (by omega) (by omega) k7 2
    have hd7 := fun j h1 h2 => (hd6C j h1 h2).painted k7 (by omega)
    have hnew7 := hnew6C.painted k7 (by omega)
    have hc7 := hc6C.paint hsCW k7.size 2
    have HK7 := Lib.hid (HKC.out.fin k7 (fun j c => Or.inr (Col.lt hc6C (by omega) c).1))
    clear ho7 ho6C hd6C hnew6C hc6C HKC k7 hown2 hrow2 kC
    generalize paint col6 wC w7 2 = col7 at *
    have hbd := HB.out.from hfn
    have hdrop : rem.drop fl = r := by rw [HRE.out, ← hfl.out, List.drop_left' rfl]
    rw [hdrop] at hbd
    have hsv : sizesV ds ++ [.int .i64 (fl : Int)] = sizesV (ds ++ [d]) := by unfold sizesV; rw [List.map_append, ← hfl.out]; rfl
    have hrv : rowsV hs ++ [.slice xo xm xc] = rowsV (hs ++ [(xo, xm, xc)]) := by unfold rowsV; rw [List.map_append]; rfl
    rw [hsv] at ho7p
    rw [hrv] at ho7o
    have HF : Hid (∀ bo' n' c', BS W bo' n' c' r → n' = n - fl → SpR W.heap.size W b0 bo' n' c' ao2 (m + 1) ac2 so2 sc2 w7) := Lib.hid (fun bo' n' c' hb' hn' => ⟨⟨col7, ds ++ [d], hs ++ [(xo, xm, xc)], r, by rw [List.length_append, hdl]; rfl, by rw [List.length_append, hhl]; rfl, hc7, hb', HK7.out, ho7o, ho7p, fun j h1 h2 => by
      by_cases hj : j < hs.length
      · have hj2 : j < ds.length := by omega
        rw [List.getElem_append_left hj2]
        have e : (hs ++ [(xo, xm, xc)])[j] = hs[j] := List.getElem_append_left hj
        rw [e]
        exact hd7 j hj hj2
      · have hj1 : j = hs.length := by rw [List.length_append] at h1; simp at h1; omega
        have e1 : (hs ++ [(xo, xm, xc)])[j] = (xo, xm, xc) := by subst hj1; simp
        have e2 : (ds ++ [d])[j] = d := by
          have : j = ds.length := by omega
          subst this
          simp
        rw [e1, e2]
        exact hnew7, by rw [HS.out, HSS.out, List.append_assoc]; rfl, by omega⟩⟩)
    have HBD := Lib.hid hbd
    clear hbd hdrop hsv hrv ho7p ho7o hd7 hnew7 hc7 HK7
    by_cases hcf : c = fl
    · have hb2 := HBD.out
      rw [if_pos hcf] at hb2
      have HB2 := Lib.hid hb2
      have R := Lib.hid (HF.out bo (n - fl) 0 (by have h := HB2.out; rw [show c - fl = 0 by omega] at h; exact h) rfl)
      clear HBD hb2 HB2 HF
      go_wp2_with fail
      go_step3
      exact ⟨rfl, ⟨⟨bo, n - fl, 0, ao2, m + 1, ac2, so2, sc2, _, _, _, _, _, _, _, _, _, _, _, _, _, _, _, _, _, _, _, _, _, _, _, _, _, _, _, _, _, _, _, _, _, _, _, R.out, rfl⟩⟩, by simp [sliceLen]; omega⟩
    · have hb2 := HBD.out
      rw [if_neg hcf] at hb2
      have HB2 := Lib.hid hb2
      have hci : ((c : Int) == (fl : Int)) = false := by simp; omega
      have R := Lib.hid (HF.out (bo.map (·.add fl)) (n - fl) (c - fl) HB2.out rfl)
      clear HBD hb2 HB2 HF
      go_wp2_with fail
      go_step3
      exact ⟨rfl, ⟨⟨bo.map (·.add fl), n - fl, c - fl, ao2, m + 1, ac2, so2, sc2, _, _, _, _, _, _, _, _, _, _, _, _, _, _, _, _, _, _, _, _, _, _, _, _, _, _, _, _, _, _, _, _, _, _, _, R.out, rfl⟩⟩, by simp [sliceLen]; omega⟩

end Go.Proofs.YtgbgbokcohfnpaaGreat

/-
  wal: WHAT WAS FOUND, in memory: three lists that grow in a variable's cells.
-/
namespace Go.Proofs.YtgbgbokcohfnpaaGreat
open Go.RowKit

theorem info_piece : (Tryz.prog.info? 132).map (fun i => (i.zero, i.size, i.bytes)) = some (some (.agg #[.int .i64 0, .int .i64 0]), 2, 16) := by kernel_rfl
theorem info_rec : (Tryz.prog.info? 76).map (fun i => (i.zero, i.size, i.bytes)) = some (some (.agg #[.int .i64 0, .slice none 0 0]), 2, 32) := by kernel_rfl
abbrev RH := List (Nat × (Option Addr × Nat × Nat))
def piecesV (ps : List (Nat × Nat)) : List Value := ps.flatMap fun p => [.int .i64 (p.1 : Int), .int .i64 (p.2 : Int)]
def recsV (rh : RH) : List Value := rh.flatMap fun r => [.int .i64 (r.1 : Int), .slice r.2.1 r.2.2.1 r.2.2.2]
def restV (l : List Nat) : List Value := l.map fun (n : Nat) => Value.int .i64 (n : Int)
theorem piecesV_snoc (ps : List (Nat × Nat)) (p : Nat × Nat) : piecesV ps ++ [.int .i64 (p.1 : Int), .int .i64 (p.2 : Int)] = piecesV (ps ++ [p]) := by simp [piecesV]
theorem recsV_snoc (rh : RH) (r : Nat × (Option Addr × Nat × Nat)) : recsV rh ++ [.int .i64 (r.1 : Int), .slice r.2.1 r.2.2.1 r.2.2.2] = recsV (rh ++ [r]) := by simp [recsV]
theorem restV_snoc (l : List Nat) (n : Nat) : restV l ++ [.int .i64 (n : Int)] = restV (l ++ [n]) := by simp [restV]
theorem length_piecesV : ∀ (ps : List (Nat × Nat)), (piecesV ps).length = ps.length * 2
  | [] => rfl
  | p :: r => by
    have h := length_piecesV r
    have e : piecesV (p :: r) = .int .i64 (p.1 : Int) :: .int .i64 (p.2 : Int) :: piecesV r := by simp [piecesV]
    rw [e, List.length_cons, List.length_cons, List.length_cons, h]
    omega
theorem piecesV_get : ∀ (ps : List (Nat × Nat)) (j : Nat) (h : j < ps.length), (piecesV ps)[j * 2]? = some (.int .i64 (ps[j].1 : Int)) ∧ (piecesV ps)[j * 2 + 1]? = some (.int .i64 (ps[j].2 : Int))
  | p :: r, 0, _ => by simp [piecesV]
  | p :: r, j + 1, h => by
    have h2 := piecesV_get r j (by simpa using h)
    have e : piecesV (p :: r) = .int .i64 (p.1 : Int) :: .int .i64 (p.2 : Int) :: piecesV r := by simp [piecesV]
    rw [e]
    have e1 : (j + 1) * 2 = j * 2 + 2 := by omega
    rw [e1]
    exact h2
theorem recsV_get : ∀ (rh : RH) (j : Nat) (h : j < rh.length), (recsV rh)[j * 2]? = some (.int .i64 (rh[j].1 : Int)) ∧ (recsV rh)[j * 2 + 1]? = some (.slice rh[j].2.1 rh[j].2.2.1 rh[j].2.2.2)
  | p :: r, 0, _ => by simp [recsV]
  | p :: r, j + 1, h => by
    have h2 := recsV_get r j (by simpa using h)
    have e : recsV (p :: r) = .int .i64 (p.1 : Int) :: .slice p.2.1 p.2.2.1 p.2.2.2 :: recsV r := by simp [recsV]
    rw [e]
    have e1 : (j + 1) * 2 = j * 2 + 2 := by omega
    rw [e1]
    exact h2
theorem length_recsV : ∀ (rh : RH), (recsV rh).length = rh.length * 2
  | [] => rfl
  | p :: r => by
    have h := length_recsV r
    have e : recsV (p :: r) = .int .i64 (p.1 : Int) :: .slice p.2.1 p.2.2.1 p.2.2.2 :: recsV r := by simp [recsV]
    rw [e, List.length_cons, List.length_cons, List.length_cons, h]
    omega

/-- Records in memory. -/
structure RecsAt (P : Nat → Prop) (w : World) (rh : RH) (recs : List (Nat × List UInt8)) : Prop where
  len : rh.length = recs.length
  get : ∀ j (h1 : j < rh.length) (h2 : j < recs.length), rh[j].1 = recs[j].1 ∧ DataP P w rh[j].2.1 rh[j].2.2.1 rh[j].2.2.2 recs[j].2
theorem RecsAt.kp {P S : Nat → Prop} {w w' : World} {rh : RH} {recs : List (Nat × List UInt8)} (h : RecsAt P w rh recs) (k : Kp S w w') (hd : ∀ j, j < w.heap.size → P j → ¬ S j) : RecsAt P w' rh recs :=
  ⟨h.len, fun j h1 h2 => ⟨(h.get j h1 h2).1, (h.get j h1 h2).2.kp k hd⟩⟩
theorem RecsAt.keep {P : Nat → Prop} {w w' : World} {rh : RH} {recs : List (Nat × List UInt8)} (h : RecsAt P w rh recs) (k : Kp Noone w w') : RecsAt P w' rh recs := h.kp k (fun _ _ _ c => c)
theorem RecsAt.mono {P Q : Nat → Prop} {w : World} {rh : RH} {recs : List (Nat × List UInt8)} (h : RecsAt P w rh recs) (hq : ∀ j, j < w.heap.size → P j → Q j) : RecsAt Q w rh recs :=
  ⟨h.len, fun j h1 h2 => ⟨(h.get j h1 h2).1, (h.get j h1 h2).2.mono hq⟩⟩
theorem RecsAt.nil (P : Nat → Prop) (w : World) : RecsAt P w [] [] := ⟨rfl, fun j h => by simp at h⟩
theorem RecsAt.snoc {P : Nat → Prop} {w : World} {rh : RH} {recs : List (Nat × List UInt8)} (h : RecsAt P w rh recs) {i : Nat} {d : List UInt8} {xo : Option Addr} {xm xc : Nat} (hd : DataP P w xo xm xc d) : RecsAt P w (rh ++ [(i, xo, xm, xc)]) (recs ++ [(i, d)]) := by
  refine ⟨by simp [h.len], fun j h1 h2 => ?_⟩
  by_cases hj : j < rh.length
  · have hj2 : j < recs.length := by have := h.len; omega
    have e1 : (rh ++ [(i, xo, xm, xc)])[j] = rh[j] := List.getElem_append_left hj
    have e2 : (recs ++ [(i, d)])[j] = recs[j] := List.getElem_append_left hj2
    rw [e1, e2]
    exact h.get j hj hj2
  · have hl := h.len
    have hj1 : j = rh.length := by rw [List.length_append] at h1; simp at h1; omega
    have e1 : (rh ++ [(i, xo, xm, xc)])[j] = (i, xo, xm, xc) := by subst hj1; simp
    have e2 : (recs ++ [(i, d)])[j] = (i, d) := by
      have : j = recs.length := by omega
      subst this
      simp
    rw [e1, e2]
    exact ⟨rfl, hd⟩

/-- The cells of what was found. -/
def fndC (po : Option Addr) (pc : Nat) (ro : Option Addr) (rc : Nat) (so : Option Addr) (sc : Nat) (f : FoundS) : Array Value := #[.slice po f.pieces.length pc, .slice ro f.recs.length rc, .int .i64 (f.next : Int), .int .i64 (f.good : Int), .bool f.whole, .slice so f.rest.length sc]
structure FAt (B : Nat) (col : Nat → Nat) (pf : Nat) (w : World) (f : FoundS) (po : Option Addr) (pc : Nat) (ro : Option Addr) (rc : Nat) (so : Option Addr) (sc : Nat) (rh : RH) : Prop where
  cols : Cols B w col
  box : w.heap[pf]? = some (.cells (fndC po pc ro rc so sc f) 127 (0, 0))
  bcol : col pf = 0
  bB : B ≤ pf
  pieces : Own (Col col 1) w 132 2 po f.pieces.length pc (piecesV f.pieces)
  recs : Own (Col col 2) w 76 2 ro f.recs.length rc (recsV rh)
  rest : Own (Col col 3) w 3 1 so f.rest.length sc (restV f.rest)
  rdat : RecsAt (fun k => col k = 0 ∧ k ≠ pf ∧ B ≤ k) w rh f.recs
/-- From one world to a later one: coloured blocks and the variable alone change. -/
structure Stp (pf : Nat) (col : Nat → Nat) (w : World) (col' : Nat → Nat) (w' : World) : Prop where
  old : ∀ k, k < w.heap.size → col' k = col k
  kp : Kp (fun k => col k ≠ 0 ∨ k = pf) w w'
theorem Stp.quiet {pf : Nat} {col : Nat → Nat} {w w' : World} (k : Kp Noone w w') : Stp pf col w col w' := ⟨fun _ _ => rfl, k.none⟩
theorem Stp.trans {pf : Nat} {col col' col2 : Nat → Nat} {w w' w2 : World} (h : Stp pf col w col' w') (k : Stp pf col' w' col2 w2) : Stp pf col w col2 w2 :=
  ⟨fun j hj => (k.old j (Nat.lt_of_lt_of_le hj h.kp.size)).trans (h.old j hj), h.kp.trans' k.kp (fun j hj c => by rw [h.old j hj] at c; exact c)⟩
theorem Own.stp {pf : Nat} {col col' : Nat → Nat} {w w' : World} {B e sz : Nat} {ao : Option Addr} {n cap : Nat} {xs : List Value} (h : Own (fun k => col k = 0 ∧ k ≠ pf ∧ B ≤ k) w e sz ao n cap xs) (s : Stp pf col w col' w') : Own (fun k => col' k = 0 ∧ k ≠ pf ∧ B ≤ k) w' e sz ao n cap xs :=
  ((h.mono (G := fun k => (col k = 0 ∧ k ≠ pf ∧ B ≤ k) ∧ k < w.heap.size) (fun j hj c => ⟨c, hj⟩)).kp s.kp (fun j c e => by omega)).mono (fun j _ c => ⟨(s.old j c.2).trans c.1.1, c.1.2⟩)
theorem DataP.stp {pf : Nat} {col col' : Nat → Nat} {w w' : World} {B : Nat} {ao : Option Addr} {n cap : Nat} {l : List UInt8} (h : DataP (fun k => col k = 0 ∧ k ≠ pf ∧ B ≤ k) w ao n cap l) (s : Stp pf col w col' w') : DataP (fun k => col' k = 0 ∧ k ≠ pf ∧ B ≤ k) w' ao n cap l :=
  ((h.mono (Q := fun k => (col k = 0 ∧ k ≠ pf ∧ B ≤ k) ∧ k < w.heap.size) (fun j hj c => ⟨c, hj⟩)).kp s.kp (fun j _ c e => by omega)).mono (fun j _ c => ⟨(s.old j c.2).trans c.1.1, c.1.2⟩)
theorem RecsAt.stp {pf : Nat} {col col' : Nat → Nat} {w w' : World} {B : Nat} {rh : RH} {recs : List (Nat × List UInt8)} (h : RecsAt (fun k => col k = 0 ∧ k ≠ pf ∧ B ≤ k) w rh recs) (s : Stp pf col w col' w') : RecsAt (fun k => col' k = 0 ∧ k ≠ pf ∧ B ≤ k) w' rh recs :=
  ⟨h.len, fun j h1 h2 => ⟨(h.get j h1 h2).1, (h.get j h1 h2).2.stp s⟩⟩
theorem FAt.keep {B : Nat} {col : Nat → Nat} {pf : Nat} {w w' : World} {f : FoundS} {po : Option Addr} {pc : Nat} {ro : Option Addr} {rc : Nat} {so : Option Addr} {sc : Nat} {rh : RH} (h : FAt B col pf w f po pc ro rc so sc rh) (k : Kp Noone w w') : FAt B col pf w' f po pc ro rc so sc rh :=
  ⟨h.cols.keep k.size, k.heap h.box id, h.bcol, h.bB, h.pieces.keep k, h.recs.keep k, h.rest.keep k, h.rdat.keep k⟩
/-- Another cell of the variable. -/
theorem FAt.set {B : Nat} {col : Nat → Nat} {pf : Nat} {w w' : World} {f f' : FoundS} {po : Option Addr} {pc : Nat} {ro : Option Addr} {rc : Nat} {so : Option Addr} {sc : Nat} {rh : RH} (h : FAt B col pf w f po pc ro rc so sc rh) (k : Kp (fun j => j = pf) w w') (hb : w'.heap[pf]? = some (.cells (fndC po pc ro rc so sc f') 127 (0, 0))) (e1 : f'.pieces = f.pieces) (e2 : f'.recs = f.recs) (e3 : f'.rest = f.rest) :
    FAt B col pf w' f' po pc ro rc so sc rh ∧ Stp pf col w col w' := by
  have hb0 := h.bcol
  refine ⟨⟨h.cols.keep k.size, hb, h.bcol, h.bB, ?_, ?_, ?_, ?_⟩, ⟨fun _ _ => rfl, k.mono (fun _ _ c => Or.inr c)⟩⟩
  · rw [e1]; exact h.pieces.kp k (fun j c e => by unfold Col at c; subst e; omega)
  · rw [e2]; exact h.recs.kp k (fun j c e => by unfold Col at c; subst e; omega)
  · rw [e3]; exact h.rest.kp k (fun j c e => by unfold Col at c; subst e; omega)
  · rw [e2]; exact h.rdat.kp k (fun j _ c e => c.2.1 e)
theorem cells_6f {w : World} {p e : Nat} {a b c d x y : Value} (h : w.heap[p]? = some (.cells #[a, b, c, d, x, y] e (0, 0))) :
    (w.cell? ⟨p, 0, none⟩ = some a ∧ w.cell? ⟨p, 1, none⟩ = some b ∧ w.cell? ⟨p, 2, none⟩ = some c ∧ w.cell? ⟨p, 3, none⟩ = some d ∧ w.cell? ⟨p, 4, none⟩ = some x ∧ w.cell? ⟨p, 5, none⟩ = some y) ∧ ∀ i, w.frozen? ⟨p, i, none⟩ = false := by
  refine ⟨⟨?_, ?_, ?_, ?_, ?_, ?_⟩, fun i => by simp [World.frozen?, h]⟩
  all_goals (rw [cell_of_row w p _ _ e (0, 0) h]; rfl)

/-- pieces grow. -/
theorem FAt.pushP {B : Nat} {col : Nat → Nat} {pf : Nat} {w wB w2 : World} {f : FoundS} {po : Option Addr} {pc : Nat} {ro : Option Addr} {rc : Nat} {so : Option Addr} {sc : Nat} {rh : RH} {po' : Option Addr} {pc' : Nat} {q : Nat × Nat} (h : FAt B col pf w f po pc ro rc so sc rh) (kA : Kp Noone w wB) (hB : B ≤ w.heap.size)
    (ho : Own (Ex (Col col 1) wB w2) w2 132 2 po' (f.pieces.length + 1) pc' (piecesV f.pieces ++ [.int .i64 (q.1 : Int), .int .i64 (q.2 : Int)])) (k2 : Kp (Col col 1) wB w2) :
    FAt B (paint col wB w2 1) pf (w2.setCell ⟨pf, 0, none⟩ (.slice po' (f.pieces.length + 1) pc')) { f with pieces := f.pieces ++ [q] } po' pc' ro rc so sc rh ∧ Stp pf col w (paint col wB w2 1) (w2.setCell ⟨pf, 0, none⟩ (.slice po' (f.pieces.length + 1) pc')) := by
  have hA := h.keep kA
  have hBB : B ≤ wB.heap.size := Nat.le_trans hB kA.size
  have hbl := (Array.getElem?_eq_some_iff.1 hA.box).1
  have hbp : paint col wB w2 1 pf = 0 := by unfold Proofs.YtgbgbokcohfnpaaGreat.paint; rw [if_neg (by omega)]; exact h.bcol
  have kS := (Kp.refl (fun j => j = pf) w2).setCell (p := ⟨pf, 0, none⟩) (fun _ => rfl) (.slice po' (f.pieces.length + 1) pc')
  have hbx := k2.heap hA.box (by unfold Col; rw [h.bcol]; omega)
  have hof : ∀ i, i ≠ 0 → ∀ j, Col (paint col wB w2 1) i j → ¬ j = pf := fun i hi j c e => by unfold Col at c; subst e; omega
  have hdat : RecsAt (fun k => paint col wB w2 1 k = 0 ∧ k ≠ pf ∧ B ≤ k) w2 rh f.recs := ((hA.rdat.mono (Q := fun k => (col k = 0 ∧ k ≠ pf ∧ B ≤ k) ∧ k < wB.heap.size) (fun j hj c => ⟨c, hj⟩)).kp k2 (fun j _ c e => by unfold Col at e; omega)).mono (fun j _ c => ⟨by unfold Proofs.YtgbgbokcohfnpaaGreat.paint; rw [if_neg (by omega)]; exact c.1.1, c.1.2⟩)
  refine ⟨⟨(hA.cols.paint hBB k2.size 1).keep kS.size, ?_, hbp, h.bB, (by have hq := ho.painted; rw [piecesV_snoc f.pieces q] at hq; rw [show (f.pieces ++ [q]).length = f.pieces.length + 1 by simp]; exact hq.kp kS (hof 1 (by omega))), ((hA.recs.other hA.cols (by omega) (by omega) k2 1).kp kS (hof 2 (by omega))), ((hA.rest.other hA.cols (by omega) (by omega) k2 1).kp kS (hof 3 (by omega))), (hdat.kp kS (fun j _ c e => c.2.1 e))⟩, ⟨fun j hj => ?_, ?_⟩⟩
  · rw [heap_set_cell hbx]
    simp [fndC]
  · unfold Proofs.YtgbgbokcohfnpaaGreat.paint
    have := kA.size
    rw [if_neg (by omega)]
  · refine kA.none.trans' ((k2.mono (T := fun k => col k ≠ 0 ∨ k = pf) (fun j _ c => Or.inl (by unfold Col at c; omega))).trans' kS (fun j _ c => Or.inr c)) (fun j _ c => c)

/-- recs grow. -/
theorem FAt.pushR {B : Nat} {col : Nat → Nat} {pf : Nat} {w wB w2 : World} {f : FoundS} {po : Option Addr} {pc : Nat} {ro : Option Addr} {rc : Nat} {so : Option Addr} {sc : Nat} {rh : RH} {ro' : Option Addr} {rc' : Nat} {i : Nat} {d : List UInt8} {xo : Option Addr} {xm xc : Nat} (h : FAt B col pf w f po pc ro rc so sc rh) (kA : Kp Noone w wB) (hB : B ≤ w.heap.size)
    (ho : Own (Ex (Col col 2) wB w2) w2 76 2 ro' (f.recs.length + 1) rc' (recsV rh ++ [.int .i64 (i : Int), .slice xo xm xc])) (k2 : Kp (Col col 2) wB w2) (hx : DataP (fun k => col k = 0 ∧ k ≠ pf ∧ B ≤ k) w xo xm xc d) :
    FAt B (paint col wB w2 2) pf (w2.setCell ⟨pf, 1, none⟩ (.slice ro' (f.recs.length + 1) rc')) { f with recs := f.recs ++ [(i, d)] } po pc ro' rc' so sc (rh ++ [(i, xo, xm, xc)]) ∧ Stp pf col w (paint col wB w2 2) (w2.setCell ⟨pf, 1, none⟩ (.slice ro' (f.recs.length + 1) rc')) := by
  have hA := h.keep kA
  have hBB : B ≤ wB.heap.size := Nat.le_trans hB kA.size
  have hbl := (Array.getElem?_eq_some_iff.1 hA.box).1
  have hbp : paint col wB w2 2 pf = 0 := by unfold Proofs.YtgbgbokcohfnpaaGreat.paint; rw [if_neg (by omega)]; exact h.bcol
  have kS := (Kp.refl (fun j => j = pf) w2).setCell (p := ⟨pf, 1, none⟩) (fun _ => rfl) (.slice ro' (f.recs.length + 1) rc')
  have hbx := k2.heap hA.box (by unfold Col; rw [h.bcol]; omega)
  have hof : ∀ i, i ≠ 0 → ∀ j, Col (paint col wB w2 2) i j → ¬ j = pf := fun i hi j c e => by unfold Col at c; subst e; omega
  have hdat : RecsAt (fun k => paint col wB w2 2 k = 0 ∧ k ≠ pf ∧ B ≤ k) w2 rh f.recs := ((hA.rdat.mono (Q := fun k => (col k = 0 ∧ k ≠ pf ∧ B ≤ k) ∧ k < wB.heap.size) (fun j hj c => ⟨c, hj⟩)).kp k2 (fun j _ c e => by unfold Col at e; omega)).mono (fun j _ c => ⟨by unfold Proofs.YtgbgbokcohfnpaaGreat.paint; rw [if_neg (by omega)]; exact c.1.1, c.1.2⟩)
  have hd := (((hx.keep kA).mono (Q := fun k => (col k = 0 ∧ k ≠ pf ∧ B ≤ k) ∧ k < wB.heap.size) (fun j hj c => ⟨c, hj⟩)).kp k2 (fun j _ c e => by unfold Col at e; omega)).mono (Q := fun k => paint col wB w2 2 k = 0 ∧ k ≠ pf ∧ B ≤ k) (fun j _ c => ⟨by unfold Proofs.YtgbgbokcohfnpaaGreat.paint; rw [if_neg (by omega)]; exact c.1.1, c.1.2⟩)
  refine ⟨⟨(hA.cols.paint hBB k2.size 2).keep kS.size, ?_, hbp, h.bB, ((hA.pieces.other hA.cols (by omega) (by omega) k2 2).kp kS (hof 1 (by omega))), (by have hq := ho.painted; rw [recsV_snoc rh (i, xo, xm, xc)] at hq; rw [show (f.recs ++ [(i, d)]).length = f.recs.length + 1 by simp]; exact hq.kp kS (hof 2 (by omega))), ((hA.rest.other hA.cols (by omega) (by omega) k2 2).kp kS (hof 3 (by omega))), ((hdat.snoc hd).kp kS (fun j _ c e => c.2.1 e))⟩, ⟨fun j hj => ?_, ?_⟩⟩
  · rw [heap_set_cell hbx]
    simp [fndC]
  · unfold Proofs.YtgbgbokcohfnpaaGreat.paint
    have := kA.size
    rw [if_neg (by omega)]
  · refine kA.none.trans' ((k2.mono (T := fun k => col k ≠ 0 ∨ k = pf) (fun j _ c => Or.inl (by unfold Col at c; omega))).trans' kS (fun j _ c => Or.inr c)) (fun j _ c => c)

/-- rest grow. -/
theorem FAt.pushS {B : Nat} {col : Nat → Nat} {pf : Nat} {w wB w2 : World} {f : FoundS} {po : Option Addr} {pc : Nat} {ro : Option Addr} {rc : Nat} {so : Option Addr} {sc : Nat} {rh : RH} {so' : Option Addr} {sc' : Nat} {q : Nat} (h : FAt B col pf w f po pc ro rc so sc rh) (kA : Kp Noone w wB) (hB : B ≤ w.heap.size)
    (ho : Own (Ex (Col col 3) wB w2) w2 3 1 so' (f.rest.length + 1) sc' (restV f.rest ++ [.int .i64 (q : Int)])) (k2 : Kp (Col col 3) wB w2) :
    FAt B (paint col wB w2 3) pf (w2.setCell ⟨pf, 5, none⟩ (.slice so' (f.rest.length + 1) sc')) { f with rest := f.rest ++ [q] } po pc ro rc so' sc' rh ∧ Stp pf col w (paint col wB w2 3) (w2.setCell ⟨pf, 5, none⟩ (.slice so' (f.rest.length + 1) sc')) := by
  have hA := h.keep kA
  have hBB : B ≤ wB.heap.size := Nat.le_trans hB kA.size
  have hbl := (Array.getElem?_eq_some_iff.1 hA.box).1
  have hbp : paint col wB w2 3 pf = 0 := by unfold Proofs.YtgbgbokcohfnpaaGreat.paint; rw [if_neg (by omega)]; exact h.bcol
  have kS := (Kp.refl (fun j => j = pf) w2).setCell (p := ⟨pf, 5, none⟩) (fun _ => rfl) (.slice so' (f.rest.length + 1) sc')
  have hbx := k2.heap hA.box (by unfold Col; rw [h.bcol]; omega)
  have hof : ∀ i, i ≠ 0 → ∀ j, Col (paint col wB w2 3) i j → ¬ j = pf := fun i hi j c e => by unfold Col at c; subst e; omega
  have hdat : RecsAt (fun k => paint col wB w2 3 k = 0 ∧ k ≠ pf ∧ B ≤ k) w2 rh f.recs := ((hA.rdat.mono (Q := fun k => (col k = 0 ∧ k ≠ pf ∧ B ≤ k) ∧ k < wB.heap.size) (fun j hj c => ⟨c, hj⟩)).kp k2 (fun j _ c e => by unfold Col at e; omega)).mono (fun j _ c => ⟨by unfold Proofs.YtgbgbokcohfnpaaGreat.paint; rw [if_neg (by omega)]; exact c.1.1, c.1.2⟩)
  refine ⟨⟨(hA.cols.paint hBB k2.size 3).keep kS.size, ?_, hbp, h.bB, ((hA.pieces.other hA.cols (by omega) (by omega) k2 3).kp kS (hof 1 (by omega))), ((hA.recs.other hA.cols (by omega) (by omega) k2 3).kp kS (hof 2 (by omega))), (by have hq := ho.painted; rw [restV_snoc f.rest q] at hq; rw [show (f.rest ++ [q]).length = f.rest.length + 1 by simp]; exact hq.kp kS (hof 3 (by omega))), (hdat.kp kS (fun j _ c e => c.2.1 e))⟩, ⟨fun j hj => ?_, ?_⟩⟩
  · rw [heap_set_cell hbx]
    simp [fndC]
  · unfold Proofs.YtgbgbokcohfnpaaGreat.paint
    have := kA.size
    rw [if_neg (by omega)]
  · refine kA.none.trans' ((k2.mono (T := fun k => col k ≠ 0 ∨ k = pf) (fun j _ c => Or.inl (by unfold Col at c; omega))).trans' kS (fun j _ c => Or.inr c)) (fun j _ c => c)

end Go.Proofs.YtgbgbokcohfnpaaGreat
