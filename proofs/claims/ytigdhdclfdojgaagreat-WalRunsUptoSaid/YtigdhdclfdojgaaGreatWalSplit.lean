/-
  wal: THE WALK of split.
-/
import Derived.Test.YtigdhdclfdojgaaGreatWalFrame
import Derived.Test.YtigdhdclfdojgaaGreatRefDiskC
namespace Go.Proofs.YtigdhdclfdojgaaGreat
open Go.RowKit

theorem info_bsl : (Tryz.prog.info? 42).map (fun i => (i.zero, i.size, i.bytes)) = some (some (.slice none 0 0), 1, 24) := by kernel_rfl
def rowsV (hs : Hs) : List Value := hs.map fun h => .slice h.1 h.2.1 h.2.2
def sizesV (ds : List (List UInt8)) : List Value := ds.map fun d => .int .i64 ((frameL d).length : Int)
theorem rowsV_one (hs : Hs) : ∀ u ∈ rowsV hs, u.oneCell' = true := by
  intro u hu
  obtain ⟨h, -, rfl⟩ := List.mem_map.1 hu
  rfl
theorem DataP.painted {B i : Nat} {col : Nat → Nat} {w w' : World} {xo : Option Addr} {n c : Nat} {l : List UInt8} (h : DataP (fun k => col k = 0 ∧ B ≤ k) w xo n c l) (k : Kp (Col col i) w w') (hi : i ≠ 0) : DataP (fun k => paint col w w' i k = 0 ∧ B ≤ k) w' xo n c l := by
  refine ((h.mono (Q := fun k => (col k = 0 ∧ B ≤ k) ∧ k < w.heap.size) (fun j hj c => ⟨c, hj⟩)).kp k (fun j _ c e => by unfold Col at e; omega)).mono (fun j _ c => ⟨?_, c.1.2⟩)
  unfold Proofs.YtigdhdclfdojgaaGreat.paint
  rw [if_neg (by omega)]
  exact c.1.1
def sliceLen : Value → Nat
  | .slice _ n _ => n
  | _ => 0
/-- A scope whose label, to which it goes back, stands behind two regions. -/
theorem wp_scope_loop2 {P : Program} {a : Act} {w : World} {Q : Exit → Act → World → Prop} {A B body : Code} (l : Nat) (J : Act → World → Prop) (μ : Act → World → Nat) (hA : findLabel A l = none) (hB : findLabel B l = none)
    (hab : A.wp P (fun e a1 w1 => e = .normal ∧ B.wp P (fun e a2 w2 => e = .normal ∧ J a2 w2) a1 w1) a w)
    (pass : ∀ a w, J a w → body.wp P (Exit.jump l (fun a' w' => J a' w' ∧ μ a' w' < μ a w) Q) a w) : (Code.scope (Code.seq A (Code.seq B (Code.seq (Code.label l) body)))).wp P Q a w := by
  refine wp_scope_jumps l J μ (rest := Code.seq Code.skip body) (by simp [findLabel, hA, hB]) ?_ (fun a w h => wp_seq (wp_skip (pass a w h)))
  refine wp_seq (wp_mono hab (fun e a1 w1 h1 => ?_))
  obtain ⟨rfl, hb⟩ := h1
  refine wp_seq (wp_mono hb (fun e a2 w2 h2 => ?_))
  obtain ⟨rfl, hj⟩ := h2
  refine wp_seq (wp_label (wp_mono (pass a2 w2 hj) (fun e a w hq => by
    cases e with
    | goto l => exact ⟨hq.1, hq.2.1⟩
    | normal => exact hq
    | exit id => exact hq
    | ret => exact hq
    | panic ch => exact hq
    | outgrown => exact hq)))
theorem rtext_len (left : List UInt8) (bad : Nat) (most : Int) : (rtext left bad most).2.length ≤ left.length := by
  have h := rcount_len left bad most
  unfold rtext
  split
  · simp
  · split
    · simp
    · simp only [List.length_take]
      omega
theorem BS.from {w : World} {ao : Option Addr} {n cap : Nat} {l : List UInt8} (h : BS w ao n cap l) {m : Nat} (hm : m ≤ n) : BS w (if cap = m then ao else ao.map (·.add m)) (n - m) (cap - m) (l.drop m) := by
  have h1 := h.len
  have h2 := h.le
  have h3 := h.max
  refine ⟨by rw [List.length_drop]; omega, by omega, by omega, ?_⟩
  have e : bv (l.drop m) = (bv l).drop m := by unfold bv; rw [List.map_drop]
  exact h.row.sub m cap (by rw [length_bv]; omega) _ (by rw [e]; exact List.prefix_rfl)
/-- Between two frames. -/
structure SpR (B : Nat) (W : World) (b0 : List UInt8) (bo : Option Addr) (n c : Nat) (ao : Option Addr) (m ac : Nat) (so : Option Addr) (sc : Nat) (w' : World) : Prop where
  ex : ∃ (col : Nat → Nat) (ds : List (List UInt8)) (hs : Hs) (rem : List UInt8), ds.length = m ∧ hs.length = m ∧ Cols B w' col ∧ BS W bo n c rem ∧ Kp Noone W w' ∧ Own (Col col 1) w' 42 1 ao m ac (rowsV hs) ∧ Own (Col col 2) w' 3 1 so m sc (sizesV ds) ∧
    (∀ j (h1 : j < hs.length) (h2 : j < ds.length), DataP (fun k => col k = 0 ∧ B ≤ k) w' hs[j].1 hs[j].2.1 hs[j].2.2 ds[j]) ∧ splitL b0 = ds ++ splitL rem ∧ n + m ≤ b0.length
/-- The frame at the label. -/
structure SpJ (W : World) (b0 : List UInt8) (a' : Act) (w' : World) : Prop where
  ex : ∃ (bo : Option Addr) (n c : Nat) (ao : Option Addr) (m ac : Nat) (so : Option Addr) (sc : Nat) (u6 u7 u8 u9 u10 u11 u12 u13 u14 u15 u16 u17 u18 u19 u20 u21 u22 u23 u24 u25 u26 u27 u28 u29 u30 u31 u32 u33 u34 u35 u36 u37 u38 u39 u40 : Value), SpR W.heap.size W b0 bo n c ao m ac so sc w' ∧ a' = { tmps := #[.slice bo n c, undef, .slice none 0 0, .slice none 0 0, .slice ao m ac, .slice so m sc, u6, u7, u8, u9, u10, u11, u12, u13, u14, u15, u16, u17, u18, u19, u20, u21, u22, u23, u24, u25, u26, u27, u28, u29, u30, u31, u32, u33, u34, u35, u36, u37, u38, u39, u40], defers := [] }
/-- What split answers. -/
structure SplitTo (w : World) (b : List UInt8) (e : Ending) (w' : World) : Prop where
  ex : ∃ ao ac so sc hs, e = .returned (.tuple #[.slice ao (splitL b).length ac, .slice so (splitL b).length sc]) ∧ hs.length = (splitL b).length ∧ Own (fun j => w.heap.size ≤ j) w' 42 1 ao (splitL b).length ac (rowsV hs) ∧ Own (fun j => w.heap.size ≤ j) w' 3 1 so (splitL b).length sc (sizesV (splitL b)) ∧
    (∀ j (h1 : j < hs.length) (h2 : j < (splitL b).length), DataP (fun k => w.heap.size ≤ k) w' hs[j].1 hs[j].2.1 hs[j].2.2 (splitL b)[j]) ∧ Kp Noone w w'

theorem SpR.done {W : World} {b0 : List UInt8} {ao : Option Addr} {m ac : Nat} {so : Option Addr} {sc : Nat} {w' : World} {col : Nat → Nat} {ds : List (List UInt8)} {hs : Hs} {rem : List UInt8} {w2 : World} (h1 : ds.length = m) (h2 : hs.length = m) (hc : Cols W.heap.size w' col)
    (k0 : Kp Noone W w') (ho : Own (Col col 1) w' 42 1 ao m ac (rowsV hs)) (hz : Own (Col col 2) w' 3 1 so m sc (sizesV ds)) (hd : ∀ j (h1 : j < hs.length) (h2 : j < ds.length), DataP (fun k => col k = 0 ∧ W.heap.size ≤ k) w' hs[j].1 hs[j].2.1 hs[j].2.2 ds[j]) (hs0 : splitL b0 = ds ++ splitL rem) (hf : frame1 rem = none) (k : Kp Noone w' w2) :
    SplitTo W b0 (.returned (.tuple #[.slice ao m ac, .slice so m sc])) w2 := by
  rw [splitL_none hf, List.append_nil] at hs0
  refine ⟨⟨ao, ac, so, sc, hs, ?_, ?_, ?_, ?_, ?_, k0.trans k⟩⟩
  · rw [hs0, h1]
  · rw [hs0, h1, h2]
  · rw [hs0, h1]; exact (ho.keep k).mono (fun j _ c => (Col.lt hc (by omega) c).1)
  · rw [hs0, h1]; exact (hz.keep k).mono (fun j _ c => (Col.lt hc (by omega) c).1)
  · intro j a b
    simp only [hs0] at b ⊢
    exact ((hd j a b).keep k).mono (fun i _ c => c.2)

set_option maxHeartbeats 8000000 in
set_option maxRecDepth 100000 in
theorem split_w (bo0 : Option Addr) (n0 c0 : Nat) (b0 : List UInt8) (W : World) (hb : BS W bo0 n0 c0 b0) (hn : n0 ≤ 1099511627776) :
    Calls Tryz.prog 68 #[.slice bo0 n0 c0] W fun e w' => SplitTo W b0 e w' := by
  obtain ⟨i0, hi, hz0, hz1, hz2⟩ := info_parts info_bsl
  obtain ⟨j0, gi, gz0, gz1, gz2⟩ := info_parts info_intD
  have hl0 := hb.len
  have HN := Lib.hid hn
  have HL0 := Lib.hid hl0
  have J0 : Hid (SpR W.heap.size W b0 bo0 n0 c0 none 0 0 none 0 W) := Lib.hid ⟨⟨fun _ => 0, [], [], b0, rfl, rfl, Cols.zero _ _, hb, Kp.refl _ _, Own.nil _ _ _ _ _, Own.nil _ _ _ _ _, fun j h => by simp at h, rfl, by omega⟩⟩
  clear hb hl0 hn
  go_enter Tryz.func68, Tryz.ntmps68
  go_wp2_with fail
  refine wp_scope_loop2 0 (SpJ W b0) (fun a' _ => sliceLen (a'.tmps.getD 0 undef)) rfl rfl ?_ ?_
  · go_wp2_with fail
    exact ⟨⟨bo0, n0, c0, none, 0, 0, none, 0, _, _, _, _, _, _, _, _, _, _, _, _, _, _, _, _, _, _, _, _, _, _, _, _, _, _, _, _, _, _, _, _, _, _, _, J0.out, rfl⟩⟩
  · rintro a' w' ⟨⟨bo, n, c, ao, m, ac, so, sc, u6, u7, u8, u9, u10, u11, u12, u13, u14, u15, u16, u17, u18, u19, u20, u21, u22, u23, u24, u25, u26, u27, u28, u29, u30, u31, u32, u33, u34, u35, u36, u37, u38, u39, u40, hS, rfl⟩⟩
    clear J0
    obtain ⟨col, ds, hs, rem, hdl, hhl, hc, hbr, k0, ho, hz, hdat, hspl, hnm⟩ := hS.ex
    have hrl := hbr.len
    have hn := HN.out
    have hl0 := HL0.out
    have hB : W.heap.size ≤ w'.heap.size := k0.size
    have HS := Lib.hid hspl
    have HD := Lib.hid hdat
    have HO := Lib.hid ho
    have HZ := Lib.hid hz
    have HC := Lib.hid hc
    have HK := Lib.hid k0
    have HB := Lib.hid hbr
    have hbw := hbr.keep k0
    clear hS hspl hdat ho hz hc k0 hbr
    go_wp2_with fail
    refine (newReader_any bo n c rem w' hbw (by omega)).mono ?_
    rintro e w1 ⟨p, rfl, hr, k1, hq⟩
    clear hbw
    go_wp2_with fail
    refine (readerText_any p rem 0 8200 w1 hr (by omega) (by omega) (by omega)).mono ?_
    rintro e w2 ⟨tvo, tvc, rfl, htv, hr2, k2⟩
    have hFR : frame1 rem = if (rtext rem 0 8200).1.2 ≠ 0 ∨ openE (rtext rem 0 8200).2 ≠ 0 then none else some (openL (rtext rem 0 8200).2) := rfl
    have htl := rtext_len rem 0 8200
    generalize (rtext rem 0 8200).2 = tv at *
    generalize (rtext rem 0 8200).1.2 = bad at *
    generalize (rtext rem 0 8200).1.1 = lft at *
    have htb := htv.bs
    have K2 : Kp Noone w' w2 := k1.fin k2 (fun j e => Or.inr (by omega))
    have HK2 := Lib.hid K2
    clear hr k1 k2 htv
    go_wp2_with fail
    refine (open_any tvo tv.length tvc tv w2 htb (by omega)).mono ?_
    rintro e w3 ⟨xo, xm, xc, rfl, hx, k3⟩
    have hr3 := hr2.keep k3
    have HX := Lib.hid hx
    have HK3 := Lib.hid (HK2.out.trans k3)
    clear htb hx hr2 K2
    generalize openE tv = oe at *
    go_wp2_with fail
    refine (readerErr_any p lft bad w3 hr3).mono ?_
    rintro e w4 ⟨rfl, rfl⟩
    by_cases h0 : bad = 0
    case neg =>
      have hf : frame1 rem = none := by rw [hFR, if_pos (Or.inl h0)]
      have hb0 : ((bad : Int) != 0) = true := by simpa using h0
      have R := SpR.done hdl hhl HC.out HK.out HO.out HZ.out HD.out HS.out hf HK3.out
      clear h0 hf hFR
      go_wp2_with fail
      simp only [Exit.jump]
      go_ret2
      exact R
    subst h0
    rw [Int.natCast_zero]
    by_cases h1 : oe = 0
    case neg =>
      have hf : frame1 rem = none := by rw [hFR, if_pos (Or.inr h1)]
      have hb0 : (oe != 0) = true := by simpa using h1
      have R := SpR.done hdl hhl HC.out HK.out HO.out HZ.out HD.out HS.out hf HK3.out
      clear h1 hf hFR
      go_wp2_with fail
      simp only [Exit.jump]
      go_ret2
      exact R
    subst h1
    have hf : frame1 rem = some (openL tv) := by rw [hFR, if_neg (by simp)]
    generalize openL tv = d at *
    obtain ⟨r, hre, hd8⟩ := frame1_some hf
    have hxb := HX.out.bs
    have hxl := hxb.len
    have hss := splitL_some hf
    have hrn : rem.length = (frameL d).length + r.length := by rw [hre, List.length_append]
    have hfp := frameL_pos d
    have hdr : rem.drop (frameL d).length = r := by rw [hre, List.drop_left' rfl]
    rw [hdr] at hss
    have hfw := frame_w xo xm xc d w3 hxb (by omega)
    have HSS := Lib.hid hss
    have HRE := Lib.hid hre
    have hs3 : w'.heap.size ≤ w2.heap.size := HK2.out.size
    obtain ⟨fl, hfl⟩ : ∃ fl, Hid ((frameL d).length = fl) := ⟨_, Lib.hid rfl⟩
    have hfl9 : 9 ≤ fl := by rw [← hfl.out]; exact hfp
    have hfn : fl ≤ n := by rw [← hfl.out]; omega
    have hrl2 : r.length = n - fl := by rw [← hfl.out]; omega
    have hfi : (fl : Int) ≤ (n : Int) := by omega
    clear hf hFR hss hre hdr hrn hfp
    go_wp2_with fail
    refine hfw.mono ?_
    clear hfw
    rintro e w5 hto
    obtain ⟨fo, fc, rfl, -, k5⟩ := hto.ex
    rw [hfl.out]
    have K5 := HK3.out.trans k5
    have kB : Kp Noone w5 (w5.alloc (.cells #[.slice xo xm xc] 42)) := (Kp.refl _ _).alloc _
    have hown := (HO.out.keep K5).keep kB
    have hrow : Row (w5.alloc (.cells #[.slice xo xm xc] 42)) (some ⟨w5.heap.size, 0, none⟩) [.slice xo xm xc] := Row.ofHeap (heap_alloc_new w5 (.cells #[.slice xo xm xc] 42))
    have hcB := HC.out.keep (K5.trans kB).size
    have hznB := (HZ.out.keep K5).keep kB
    have hdB := fun j h1 h2 => (HD.out j h1 h2).keep (K5.trans kB)
    have hsB : w'.heap.size ≤ (w5.alloc (.cells #[.slice xo xm xc] 42)).heap.size := (K5.trans kB).size
    have hnew : DataP (fun k => col k = 0 ∧ W.heap.size ≤ k) (w5.alloc (.cells #[.slice xo xm xc] 42)) xo xm xc d := (((HX.out.dataP).mono (Q := fun k => col k = 0 ∧ W.heap.size ≤ k) (fun j _ c => ⟨cols_new HC.out (by have := (Ex.none c).1; omega), by have := (Ex.none c).1; omega⟩)).keep k5).keep kB
    have HKB := Lib.hid (HK.out.trans (K5.trans kB))
    have hsz5 : w'.heap.size ≤ w5.heap.size := K5.size
    clear hto k5 HK3 HK2 hr3
    go_wp2_with (at_builtin; refine wpList_append_gen _ rfl (.tmp 30) (.tmp 32) 55 rfl 42 i0 (.slice none 0 0) 1 24 Tryz.underlying55 hi hz0 hz1 hz2 rfl ao m ac rfl (some ⟨w5.heap.size, 0, none⟩) 1 1 rfl (Col col 1) (rowsV hs) hown [.slice xo xm xc] rfl hrow (by intro u hu; simp at hu; subst hu; rfl) (by omega) (by unfold maxLen; omega) ?_)
    intro ao2 ac2 w6 ho6 k6
    generalize w5.alloc (.cells #[.slice xo xm xc] 42) = wB at *
    have hsBW : W.heap.size ≤ wB.heap.size := HKB.out.size
    have ho6p := ho6.painted
    have hz6 := hznB.other hcB (by omega) (by omega) k6 1
    have hd6 := fun j h1 h2 => (hdB j h1 h2).painted k6 (by omega)
    have hnew6 := hnew.painted k6 (by omega)
    have hc6 := hcB.paint hsBW k6.size 1
    have HK6 := Lib.hid (HKB.out.fin k6 (fun j c => Or.inr (Col.lt hcB (by omega) c).1))
    clear ho6 hznB hdB hnew hcB HKB k6 hown hrow kB K5
    generalize paint col wB w6 1 = col6 at *
    have kC : Kp Noone w6 (w6.alloc (.cells #[.int .i64 (fl : Int)] 3)) := (Kp.refl _ _).alloc _
    have hown2 := hz6.keep kC
    have hrow2 : Row (w6.alloc (.cells #[.int .i64 (fl : Int)] 3)) (some ⟨w6.heap.size, 0, none⟩) [.int .i64 (fl : Int)] := Row.ofHeap (heap_alloc_new w6 (.cells #[.int .i64 (fl : Int)] 3))
    have ho6C := ho6p.keep kC
    have hd6C := fun j h1 h2 => (hd6 j h1 h2).keep kC
    have hnew6C := hnew6.keep kC
    have hc6C := hc6.keep kC.size
    have HKC := Lib.hid (HK6.out.trans kC)
    clear hz6 ho6p hd6 hnew6 hc6 HK6
    go_wp2_with (at_builtin; refine wpList_append_gen _ rfl (.tmp 34) (.tmp 36) 43 rfl 3 j0 (.int .i64 0) 1 8 Tryz.underlying43 gi gz0 gz1 gz2 rfl so m sc rfl (some ⟨w6.heap.size, 0, none⟩) 1 1 rfl (Col col6 2) (sizesV ds) hown2 [.int .i64 (fl : Int)] rfl hrow2 (by intro u hu; simp at hu; subst hu; rfl) (by omega) (by unfold maxLen; omega) ?_)
    intro so2 sc2 w7 ho7 k7
    generalize w6.alloc (.cells #[.int .i64 (fl : Int)] 3) = wC at *
    have hsCW : W.heap.size ≤ wC.heap.size := HKC.out.size
    have ho7p := ho7.painted
    have ho7o := ho6C.other hc6C (by omega) (by omega) k7 2
    have hd7 := fun j h1 h2 => (hd6C j h1 h2).painted k7 (by omega)
    have hnew7 := hnew6C.painted k7 (by omega)
    have hc7 := hc6C.paint hsCW k7.size 2
    have HK7 := Lib.hid (HKC.out.fin k7 (fun j c => Or.inr (Col.lt hc6C (by omega) c).1))
    clear ho7 ho6C hd6C hnew6C hc6C HKC k7 hown2 hrow2 kC
    generalize paint col6 wC w7 2 = col7 at *
    have hbd := HB.out.from hfn
    have hdrop : rem.drop fl = r := by rw [HRE.out, ← hfl.out, List.drop_left' rfl]
    rw [hdrop] at hbd
    have hsv : sizesV ds ++ [.int .i64 (fl : Int)] = sizesV (ds ++ [d]) := by unfold sizesV; rw [List.map_append, ← hfl.out]; rfl
    have hrv : rowsV hs ++ [.slice xo xm xc] = rowsV (hs ++ [(xo, xm, xc)]) := by unfold rowsV; rw [List.map_append]; rfl
    rw [hsv] at ho7p
    rw [hrv] at ho7o
    have HF : Hid (∀ bo' n' c', BS W bo' n' c' r → n' = n - fl → SpR W.heap.size W b0 bo' n' c' ao2 (m + 1) ac2 so2 sc2 w7) := Lib.hid (fun bo' n' c' hb' hn' => ⟨⟨col7, ds ++ [d], hs ++ [(xo, xm, xc)], r, by rw [List.length_append, hdl]; rfl, by rw [List.length_append, hhl]; rfl, hc7, hb', HK7.out, ho7o, ho7p, fun j h1 h2 => by
      by_cases hj : j < hs.length
      · have hj2 : j < ds.length := by omega
        rw [List.getElem_append_left hj2]
        have e : (hs ++ [(xo, xm, xc)])[j] = hs[j] := List.getElem_append_left hj
        rw [e]
        exact hd7 j hj hj2
      · have hj1 : j = hs.length := by rw [List.length_append] at h1; simp at h1; omega
        have e1 : (hs ++ [(xo, xm, xc)])[j] = (xo, xm, xc) := by subst hj1; simp
        have e2 : (ds ++ [d])[j] = d := by
          have : j = ds.length := by omega
          subst this
          simp
        rw [e1, e2]
        exact hnew7, by rw [HS.out, HSS.out, List.append_assoc]; rfl, by omega⟩⟩)
    have HBD := Lib.hid hbd
    clear hbd hdrop hsv hrv ho7p ho7o hd7 hnew7 hc7 HK7
    by_cases hcf : c = fl
    · have hb2 := HBD.out
      rw [if_pos hcf] at hb2
      have HB2 := Lib.hid hb2
      have R := Lib.hid (HF.out bo (n - fl) 0 (by have h := HB2.out; rw [show c - fl = 0 by omega] at h; exact h) rfl)
      clear HBD hb2 HB2 HF
      go_wp2_with fail
      go_step3
      exact ⟨rfl, ⟨⟨bo, n - fl, 0, ao2, m + 1, ac2, so2, sc2, _, _, _, _, _, _, _, _, _, _, _, _, _, _, _, _, _, _, _, _, _, _, _, _, _, _, _, _, _, _, _, _, _, _, _, R.out, rfl⟩⟩, by simp [sliceLen]; omega⟩
    · have hb2 := HBD.out
      rw [if_neg hcf] at hb2
      have HB2 := Lib.hid hb2
      have hci : ((c : Int) == (fl : Int)) = false := by simp; omega
      have R := Lib.hid (HF.out (bo.map (·.add fl)) (n - fl) (c - fl) HB2.out rfl)
      clear HBD hb2 HB2 HF
      go_wp2_with fail
      go_step3
      exact ⟨rfl, ⟨⟨bo.map (·.add fl), n - fl, c - fl, ao2, m + 1, ac2, so2, sc2, _, _, _, _, _, _, _, _, _, _, _, _, _, _, _, _, _, _, _, _, _, _, _, _, _, _, _, _, _, _, _, _, _, _, _, R.out, rfl⟩⟩, by simp [sliceLen]; omega⟩

end Go.Proofs.YtigdhdclfdojgaaGreat
