/-
  DiskSafe: what was synced is there behind any loss of power.
-/
import Derived.Test.YtmmdojnjognccaaDiskHead
import Derived.Test.YtmmdojnjognccaaReadN
namespace Go.Proofs.Ytmmdojnjognccaa
open Go.RowKit

/-! ### The plain law -/

def nX : ByteArray := { data := #[120] }
/-- One area alone. -/
structure One (s : DS) (D : List UInt8) (S : Int) : Prop where
  areas : s.areas = [(nX, ⟨D, S⟩)]
  room : s.room = 4194304
theorem nX_ok : nameOk nX = true := by decide +kernel
theorem get_one (a : AreaP) : get0 nX [(nX, a)] = a := by unfold get0; rw [alGet_cons, if_pos rfl]; rfl
theorem put_one (a c : AreaP) : alPut nX c [(nX, a)] = [(nX, c)] := by unfold alPut; rw [if_pos rfl]
theorem bars_one {s : DS} {D : List UInt8} {S : Int} (h : One s D S) (hd : s.down = false) (t : Bool) : barsF s nX t = 0 := by
  unfold barsF
  rw [hd, nX_ok, h.areas, alGet_cons, if_pos rfl]
  simp
theorem stepF_steps (s : DS) : (stepF s).1.steps ≤ s.steps + 1 ∧ (stepF s).1.room = s.room := by
  unfold stepF; split <;> simp <;> omega
theorem stepF_up {s : DS} (h : (stepF s).2 = true) : (stepF s).1.down = s.down := by
  unfold stepF at *
  split
  · rename_i c; rw [if_pos c] at h; cases h
  · rfl
theorem app_one {s : DS} {D : List UInt8} {S : Int} (h : One s D S) (hd : s.down = false) (d : List UInt8) (hl : D.length + d.length ≤ 4194304) :
    (appendF s nX d).2 = doneN (stepF s).2 ∧ One (appendF s nX d).1 (D ++ d) S ∧ ((stepF s).2 = true → (appendF s nX d).1.down = false) ∧ (appendF s nX d).1.steps ≤ s.steps + 1 := by
  have hs := stepF_steps s
  unfold appendF
  rw [if_neg (by rw [bars_one h hd]; simp), if_neg (fun c => by have := c.1; rw [h.areas, alGet_cons, if_pos rfl] at this; cases this)]
  have hg : get0 nX s.areas = ⟨D, S⟩ := by rw [h.areas, get_one]
  rw [hg, if_neg (by simp only []; omega), stepF_put]
  refine ⟨rfl, ⟨?_, ?_⟩, fun c => ?_, ?_⟩
  · show alPut nX _ (stepF s).1.areas = _
    rw [stepF_areas, h.areas, put_one]
  · show (stepF s).1.room = _
    rw [hs.2, h.room]
  · show (stepF s).1.down = _
    rw [stepF_up c, hd]
  · exact hs.1
theorem safe_start (a : List UInt8) (ha : a.length ≤ 65536) :
    (appendF (newF 4194304) nX a).2 = 0 ∧ (appendF (newF 4194304) nX a).1.steps ≤ 1 ∧ (syncF (appendF (newF 4194304) nX a).1 nX).2 = 0 ∧ One (syncF (appendF (newF 4194304) nX a).1 nX).1 a a.length ∧ (syncF (appendF (newF 4194304) nX a).1 nX).1.down = false ∧ (syncF (appendF (newF 4194304) nX a).1 nX).1.steps ≤ 2 := by
  have e1 : appendF (newF 4194304) nX a = ({ areas := [(nX, ⟨a, 0⟩)], room := 4194304, steps := 1, fuse := 0, down := false }, 0) := by
    have hb : barsF (newF 4194304) nX false = 0 := by decide +kernel
    unfold appendF
    rw [if_neg (by rw [hb]; simp), if_neg (by rintro ⟨-, c⟩; simp [newF] at c)]
    have hg : get0 nX (newF 4194304).areas = ⟨[], 0⟩ := rfl
    rw [hg, if_neg (by simp; omega)]
    have hst : (stepF (newF 4194304)).2 = true := by decide +kernel
    rw [hst]
    refine Prod.ext ?_ rfl
    unfold stepF putF newF
    simp [alPut]
    decide
  have e2 : syncF ({ areas := [(nX, ⟨a, 0⟩)], room := 4194304, steps := 1, fuse := 0, down := false } : DS) nX = ({ areas := [(nX, ⟨a, a.length⟩)], room := 4194304, steps := 2, fuse := 0, down := false }, 0) := by
    unfold syncF
    rw [if_neg (by rw [bars_one (D := a) (S := 0) ⟨rfl, rfl⟩ rfl]; simp)]
    simp only [get_one]
    rw [if_neg (by simp [sumF]; omega), if_neg (by simp [stepF])]
    refine Prod.ext ?_ rfl
    simp [stepF, putF, put_one]
    decide
  have e3 : syncF (appendF (newF 4194304) nX a).1 nX = ({ areas := [(nX, ⟨a, a.length⟩)], room := 4194304, steps := 2, fuse := 0, down := false }, 0) := by rw [e1]; exact e2
  rw [e3, e1]
  exact ⟨rfl, by simp, rfl, ⟨rfl, rfl⟩, rfl, by simp⟩
theorem sort_one : sortN [nX] = [nX] := by decide +kernel
theorem crash_one {s : DS} {D : List UInt8} {S : Int} (h : One s D S) (hS : 0 ≤ S ∧ S ≤ D.length) (hl : D.length ≤ 4194304) (keep : List Int) :
    ∃ n : Nat, S ≤ n ∧ n ≤ D.length ∧ One (crashF s keep) (D.take n) n ∧ (crashF s keep).down = false := by
  have hn : namesF s = [nX] := by unfold namesF; rw [h.areas]; exact sort_one
  have hg : get0 nX s.areas = ⟨D, S⟩ := by rw [h.areas, get_one]
  have e : crashF s keep = { crash1 s nX keep[0]? with fuse := 0, down := false } := by
    unfold crashF
    rw [hn]
    rfl
  have hA : S ≤ crashA s ⟨D, S⟩ keep[0]? ∧ crashA s ⟨D, S⟩ keep[0]? ≤ D.length := by
    unfold crashA keepN
    rw [h.areas, h.room]
    simp only [sumF]
    cases keep[0]? with
    | none => simp only []; omega
    | some v => simp only []; omega
  refine ⟨(crashA s ⟨D, S⟩ keep[0]?).toNat, by omega, by omega, ⟨?_, ?_⟩, by rw [e]⟩
  · rw [e]
    show (crash1 s nX keep[0]?).areas = _
    unfold crash1 putF
    rw [hg]
    show alPut nX _ s.areas = _
    rw [h.areas, put_one]
    have : ((crashA s ⟨D, S⟩ keep[0]?).toNat : Int) = crashA s ⟨D, S⟩ keep[0]? := by omega
    rw [this]
  · rw [e]; exact h.room
theorem read_one {s : DS} {D : List UInt8} {S : Int} (h : One s D S) (hd : s.down = false) : readF s nX = (D, 0) := by
  unfold readF
  rw [if_neg (by rw [bars_one h hd]; simp), h.areas, get_one]
theorem crash_again {s : DS} {D : List UInt8} (h : One s D D.length) (hl : D.length ≤ 4194304) : One (crashF s []) D D.length ∧ (crashF s []).down = false := by
  obtain ⟨n, h1, h2, h3, h4⟩ := crash_one h ⟨by omega, Int.le_refl _⟩ hl []
  have : n = D.length := by omega
  subst this
  rw [List.take_length] at h3
  exact ⟨h3, h4⟩
theorem fuse_one {s : DS} {D : List UInt8} {S : Int} (h : One s D S) (n : Int) : One (fuseF s n) D S := ⟨h.areas, h.room⟩

/-! ### The walk -/

theorem BS.front {w : World} {ao : Option Addr} {n cap : Nat} {l : List UInt8} (h : BS w ao n cap l) {k : Nat} (hk : k ≤ n) : BS w ao k cap (l.take k) := by
  have hl := h.len
  refine ⟨by rw [List.length_take]; omega, Nat.le_trans hk h.le, h.max, ?_⟩
  rcases h.row with h0 | ⟨b, off, rfl, hr⟩
  · have h1 : l = [] := by have := congrArg List.length h0; rw [length_bv] at this; exact List.eq_nil_of_length_eq_zero this
    left; rw [h1]; simp [bv]
  · refine Or.inr ⟨b, off, rfl, fun i hi => ?_⟩
    rw [length_bv, List.length_take] at hi
    rw [hr i (by rw [length_bv]; omega)]
    simp [bv]

/-- Behind the writing. -/
structure SafeW (W : World) (p : Nat) (a b c : List UInt8) (e : Nat) (v : Value) (wx : World) : Prop where
  ex : ∃ (f : Nat) (col : Nat → Nat) (s : DS) (D : List UInt8), v = .int .i64 (f : Int) ∧ Ext W.heap.size (fun c => c ≠ 0) (fun _ => 0) W col wx ∧ Dk col 0 wx p s ∧ One s D a.length ∧ s.steps ≤ 4 ∧ ((e = 0 ∧ D = a ++ b ++ c) ∨ (e ≠ 0 ∧ f = 2 ∧ D = a ++ b))

attribute [local irreducible] appendF syncF crashF readF newF fuseF stepF
set_option maxHeartbeats 4000000 in
set_option maxRecDepth 100000 in
theorem diskSafe_walk (ao : Option Addr) (na ca : Nat) (a : List UInt8) (bo : Option Addr) (nb cb : Nat) (b : List UInt8) (co : Option Addr) (nc cc : Nat) (c : List UInt8) (fuse keep : Int) (W : World)
    (ha : BS W ao na ca a) (hb : BS W bo nb cb b) (hc : BS W co nc cc c) (hna : na ≤ 140737488351232) (hnb : nb ≤ 140737488351232) (hnc : nc ≤ 140737488351232) (hfu : fuse ≤ 9223372036854775807) :
    Calls Try.prog 3 #[.slice ao na ca, .slice bo nb cb, .slice co nc cc, .int .i64 fuse, .int .i64 keep] W fun e w' => e = .returned (.bool true) ∧ Kp Noone W w' := by
  obtain ⟨j0, hj, hj0, hj1, hj2⟩ := info_parts info_u8
  have hla := ha.len
  have hlb := hb.len
  have hlc := hc.len
  have HA := Lib.hid ha
  have HB := Lib.hid hb
  have HCC := Lib.hid hc
  clear ha hb hc
  have hw1 : IntKind.i64.wrap ((na : Int) + (nb : Int)) = (na : Int) + (nb : Int) := IntWalk.i64_in _ (by omega)
  have hw2 : IntKind.i64.wrap ((na : Int) + (nb : Int) + (nc : Int)) = (na : Int) + (nb : Int) + (nc : Int) := IntWalk.i64_in _ (by omega)
  go_enter Try.func3, Try.ntmps3
  go_wp2_with fail
  refine (new_dk W.heap.size (fun _ => 0) 0 4194304 W (Cols.zero _ _) (Nat.le_refl _)).mono ?_
  rintro e w1 ⟨p, c1, rfl, x1, d1⟩
  have X1 := x1.mono (T := fun c => c ≠ 0) (fun c h => by unfold S3 at h; omega)
  clear x1
  go_wp2_with fail
  refine (head_any _).mono ?_
  rintro e w2 ⟨rfl, k2⟩
  have X2 := X1.trans (Ext.quiet X1.cols k2)
  have d2 := d1.keep k2
  clear X1 d1 k2
  by_cases hbig : (na : Int) + (nb : Int) + (nc : Int) > 65536
  · go_wp2_with fail
    go_ret
    exact ⟨rfl, X2.kp.mono (fun j hj c => absurd rfl c)⟩
  · have hst := safe_start a (by omega)
    obtain ⟨t1, t2, t3, t4, t5, t6⟩ := hst
    have HKW : Hid (∀ (w : World) (col : Nat → Nat), Ext W.heap.size (fun c => c ≠ 0) (fun _ => 0) W col w → Kp Noone W w) := Lib.hid (fun w col X => X.kp.mono (fun j hj c => absurd rfl c))
    go_wp2_with fail
    refine (copy_exact ao na ca a _ (HA.out.keep (HKW.out _ _ X2)) (by omega)).mono ?_
    rintro e w3 ⟨rfl, hw3⟩
    obtain ⟨hb3, k3⟩ := copied2 hw3 hla (by unfold maxLen; omega)
    have X3 := X2.trans (Ext.quiet X2.cols k3)
    have d3 := d2.keep k3
    clear hw3 X2 d2 k3
    go_wp2_with fail
    refine (append_dk W.heap.size c1 0 p _ nX _ na na a _ d3 X3.cols X3.size hb3 (by decide) (by decide +kernel)).mono ?_
    rw [t1]
    rintro e w4 ⟨rfl, c4, x4, d4⟩
    have X4 := X3.trans (x4.mono (T := fun c => c ≠ 0) (fun c h => by unfold S3 at h; omega))
    clear X3 x4 d3 hb3
    generalize (appendF (newF 4194304) nX a).1 = s1 at *
    go_wp2_with fail
    refine (sync_dk W.heap.size c4 0 p s1 nX _ d4 X4.cols X4.size (by decide) (by omega)).mono ?_
    rw [t3]
    rintro e w5 ⟨rfl, c5, x5, d5⟩
    have X5 := X4.trans (x5.mono (T := fun c => c ≠ 0) (fun c h => by unfold S3 at h; omega))
    clear X4 x5 d4
    have t7 := fuse_one t4 fuse
    have t8 : (fuseF (syncF s1 nX).1 fuse).down = (syncF s1 nX).1.down ∧ (fuseF (syncF s1 nX).1 fuse).steps = (syncF s1 nX).1.steps := by unfold fuseF; exact ⟨rfl, rfl⟩
    generalize (syncF s1 nX).1 = s2 at *
    go_wp2_with fail
    refine (fuse_dk W.heap.size c5 0 p s2 fuse _ d5 X5.cols hfu).mono ?_
    rintro e w6 ⟨rfl, c6, x6, d6⟩
    have X6 := X5.trans (x6.mono (T := fun c => c ≠ 0) (fun c h => by unfold S3 at h; omega))
    clear X5 x6 d5
    generalize fuseF s2 fuse = s3 at *
    go_wp2_with fail
    refine (copy_exact bo nb cb b _ (HB.out.keep (HKW.out _ _ X6)) (by omega)).mono ?_
    rintro e w7 ⟨rfl, hw7⟩
    obtain ⟨hb7, k7⟩ := copied2 hw7 hlb (by unfold maxLen; omega)
    have X7 := X6.trans (Ext.quiet X6.cols k7)
    have d7 := d6.keep k7
    clear hw7 X6 d6 k7
    obtain ⟨u1, u2, u3, u4⟩ := app_one t7 (t8.1.trans t5) b (by omega)
    go_wp2_with fail
    refine (append_dk W.heap.size c6 0 p s3 nX _ nb nb b _ d7 X7.cols X7.size hb7 (by decide) (by omega)).mono ?_
    rintro e w8 ⟨rfl, c8, x8, d8⟩
    have X8 := X7.trans (x8.mono (T := fun c => c ≠ 0) (fun c h => by unfold S3 at h; omega))
    clear X7 x8 d7 hb7
    rw [u1]
    have HU3 := Lib.hid u3
    clear u3
    obtain ⟨en, hen⟩ : ∃ x, doneN (stepF s3).2 = x := ⟨_, rfl⟩
    rw [hen]
    have HEN := Lib.hid hen
    clear hen
    generalize (appendF s3 nX b).1 = s4 at *
    have hs4 : s4.steps ≤ 3 := by omega
    have U2 := Lib.hid u2
    have HX8 := Lib.hid X8
    have HD8 := Lib.hid d8
    clear u1 u2 X8 d8 t1 t2 t3 t4 t5 t6 t7 t8 u4
    go_upto_if 52 with fail
    go_cut [13] from 51 to 56 (fun v wx => SafeW W p a b c en v wx)
    case first =>
      by_cases hz : en ≠ 0
      · have R := Lib.hid (SafeW.mk (W := W) (p := p) (a := a) (b := b) (c := c) (e := en) (v := .int .i64 2) ⟨2, c8, s4, a ++ b, by rfl, HX8.out, HD8.out, U2.out, by omega, Or.inr ⟨hz, rfl, rfl⟩⟩)
        have e0 : ((en : Int) == 0) = false := by
          have h : (en : Int) ≠ 0 := by omega
          simpa using h
        clear hz
        go_wp2_with fail
        go_meet
        case rel => exact R.out
      · have hz0 : en = 0 := Classical.byContradiction hz
        have hdn := HU3.out (by
          have h := HEN.out
          cases hx : (stepF s3).2 with
          | true => rfl
          | false => rw [hx] at h; exact absurd (h.symm.trans (by rfl : doneN false = 2)) (by omega))
        have e0 : ((en : Int) == 0) = true := by rw [hz0]; rfl
        have HZ := Lib.hid hz0
        clear hz hz0
        go_wp2_with fail
        refine (copy_exact co nc cc c _ (HCC.out.keep (HKW.out _ _ HX8.out)) (by omega)).mono ?_
        rintro e w9 ⟨rfl, hw9⟩
        obtain ⟨hb9, k9⟩ := copied2 hw9 hlc (by unfold maxLen; omega)
        have X9 := HX8.out.trans (Ext.quiet HX8.out.cols k9)
        have d9 := HD8.out.keep k9
        clear hw9 k9
        obtain ⟨v1, v2, -, v4⟩ := app_one U2.out hdn c (by rw [List.length_append]; omega)
        go_wp2_with fail
        refine (append_dk W.heap.size c8 0 p s4 nX _ nc nc c _ d9 X9.cols X9.size hb9 (by decide) (by omega)).mono ?_
        rintro e w10 ⟨rfl, c10, x10, d10⟩
        have X10 := X9.trans (x10.mono (T := fun c => c ≠ 0) (fun c h => by unfold S3 at h; omega))
        have R := Lib.hid (SafeW.mk (W := W) (p := p) (a := a) (b := b) (c := c) (e := en) (v := .int .i64 ((appendF s4 nX c).2 : Int)) ⟨_, c10, _, _, by rfl, X10, d10, v2, by omega, Or.inl ⟨HZ.out, rfl⟩⟩)
        clear X9 x10 d9 d10 X10 hb9 v1 v2 v4
        go_wp2_with fail
        go_meet
        case rel => exact R.out
    case rest =>
      obtain ⟨f, col, s, D, rfl, X, d, O, hs5, hD⟩ := hcut.ex
      have hDp : ∃ r, a ++ b ++ c = D ++ r := by
        rcases hD with ⟨-, h⟩ | ⟨-, -, h⟩
        · exact ⟨[], by rw [h, List.append_nil]⟩
        · exact ⟨c, by rw [h]⟩
      have hDl : na ≤ D.length ∧ D.length ≤ 65536 := by
        rcases hD with ⟨-, h⟩ | ⟨-, -, h⟩
        · rw [h, List.length_append, List.length_append]; omega
        · rw [h, List.length_append]; omega
      obtain ⟨n, n1, n2, O2, hd2⟩ := crash_one O ⟨by omega, by omega⟩ (by omega) [keep]
      have hf2 : (f = 0 ∨ en = 0) ∨ (f = 2 ∧ en ≠ 0 ∧ n ≤ na + nb) := by
        rcases hD with ⟨h, -⟩ | ⟨h1, h2, h⟩
        · exact Or.inl (Or.inr h)
        · refine Or.inr ⟨h2, h1, ?_⟩
          rw [h, List.length_append] at n2
          omega
      have hr2 := read_one O2 hd2
      have htl : (D.take n).length = n := by rw [List.length_take]; omega
      have hO3 : One (crashF s [keep]) (D.take n) ((D.take n).length : Nat) := by rw [htl]; exact O2
      obtain ⟨O4, hd4⟩ := crash_again hO3 (by omega)
      have hr4 := read_one O4 hd4
      obtain ⟨rr, hrr⟩ := hDp
      have hG : (a ++ b ++ c).take n = D.take n := by rw [hrr, List.take_append_of_le_length n2]
      have hall : (a ++ b ++ c).length = na + nb + nc := by rw [List.length_append, List.length_append, hla, hlb, hlc]
      have hn3 : n ≤ na + nb + nc := by have := congrArg List.length hrr; rw [hall, List.length_append] at this; omega
      have hc1 : ¬ (n : Int) < (na : Int) := by omega
      have HF := Lib.hid hf2
      have HG := Lib.hid hG
      have HR2 := Lib.hid hr2
      have HR4 := Lib.hid hr4
      have HTL := Lib.hid htl
      have HX := Lib.hid X
      have HD := Lib.hid d
      have hnsm : n ≤ 65536 := by omega
      clear hf2 hG hr2 hr4 hcut hD hDl O2 hd2 O hO3 O4 hd4 hrr HX8 HD8 U2 HU3 HEN n1 n2 X d htl
      generalize D.take n = G at *
      have kA : ∀ w : World, Kp Noone w (w.alloc (.cells #[.int .i64 keep] 3)) := fun w => (Kp.refl _ _).alloc _
      go_wp2_with fail
      refine (crash_dk W.heap.size col 0 p s _ 1 1 [keep] _ (HD.out.keep (kA _)) (HX.out.cols.keep (kA _).size) (Nat.le_trans HX.out.size (kA _).size) (IS.ofHeap (heap_alloc_new _ _) rfl (by simp [maxLen])) (fun a ha => by cases ha; exact cols_new HX.out.cols (Nat.le_refl _))).mono ?_
      rintro e w10 ⟨rfl, c10, x10, d10⟩
      have X10 := (HX.out.trans (Ext.quiet HX.out.cols (kA _))).trans (x10.mono (T := fun c => c ≠ 0) (fun c h => by unfold S3 at h; omega))
      clear x10 kA
      generalize crashF s [keep] = s10 at *
      go_wp2_with fail
      refine (read_dk c10 0 p s10 nX _ d10 (by decide)).mono ?_
      rw [HR2.out]
      simp only []
      rw [HTL.out]
      rintro e w11 ⟨go, gc, rfl, hgo, k11⟩
      have HC10 := Lib.hid X10.cols
      have X11 := X10.trans (Ext.quiet X10.cols k11)
      have d11 := d10.keep k11
      clear X10 d10 k11
      go_wp2_with fail
      refine (copy_exact ao na ca a _ (HA.out.keep (HKW.out _ _ X11)) (by omega)).mono ?_
      rintro e w12 ⟨rfl, hw12⟩
      have k12 := (copied2 hw12 hla (by unfold maxLen; omega)).2
      have own12 : Own (fun j => j = w11.heap.size) w12 5 1 (some ⟨w11.heap.size, 0, none⟩) na na (bv a) := by
        subst hw12
        exact Own.fresh rfl (heap_alloc_new _ _) (by rw [length_bv, hla, Nat.mul_one]) (by unfold maxLen; omega)
      have K12 := Lib.hid k12
      have HX11 := Lib.hid X11
      have HD11 := Lib.hid d11
      have HG11 := Lib.hid hgo
      have hlb1 : (bv b).length = nb * 1 := by rw [length_bv, hlb, Nat.mul_one]
      have hlc1 : (bv c).length = nc * 1 := by rw [length_bv, hlc, Nat.mul_one]
      have hrb := ((HB.out.keep (HKW.out _ _ X11)).keep k12).row
      clear hw12 X11 d11 k12 hgo
      go_wp2_with (at_builtin; refine wpList_append_gen _ rfl (.tmp 67) (.tmp 68) 22 rfl 5 j0 (.int .u8 0) 1 1 Try.underlying22 hj hj0 hj1 hj2 rfl (some ⟨w11.heap.size, 0, none⟩) na na rfl bo nb cb rfl _ _ own12 (bv b) hlb1 hrb (bv_one _) (by omega) (by unfold maxLen; omega) ?_)
      intro ao1 cap1 w13 ho13 k13
      have k13' : Kp Noone w11 w13 := K12.out.fin k13 (fun j c => Or.inr (by subst c; exact Nat.le_refl _))
      have hrc := ((HCC.out.keep (HKW.out _ _ HX11.out)).keep k13').row
      have hs12 := K12.out.size
      have K13 := Lib.hid k13'
      clear own12 hrb k13 k13'
      go_wp2_with (at_builtin; refine wpList_append_gen _ rfl (.tmp 69) (.tmp 70) 22 rfl 5 j0 (.int .u8 0) 1 1 Try.underlying22 hj hj0 hj1 hj2 rfl ao1 (na + nb) cap1 rfl co nc cc rfl _ _ ho13 (bv c) hlc1 hrc (bv_one _) (by omega) (by unfold maxLen; omega) ?_)
      intro ao2 cap2 w14 ho14 k14
      have k14' : Kp Noone w11 w14 := K13.out.fin k14 (fun j c => Or.inr (by rcases c with c | c; exact Nat.le_of_eq c.symm; omega))
      rw [bv_append, bv_append] at ho14
      have hbs14 := ho14.bs
      have hle2 := ho14.2.1
      have X14 := HX11.out.trans (Ext.quiet HX11.out.cols k14')
      have d14 := HD11.out.keep k14'
      have hg14 := HG11.out.keep k14'
      clear ho13 hrc ho14 k14 k14' K13 K12 HX11 HD11 HG11
      have hft := hbs14.front hn3
      rw [← List.append_assoc, HG.out] at hft
      have hc2 : ¬ (n : Int) > ((na + nb + nc : Nat) : Int) := by omega
      have hlAll := Lib.hid hall
      generalize na + nb + nc = N3 at *
      have HFT := Lib.hid hft
      have HG14 := Lib.hid hg14
      have HX14 := Lib.hid X14
      have HD14 := Lib.hid d14
      clear hft hg14 X14 d14 hbs14 hall
      go_wp2_with fail
      refine (same_any _ _ _ _ _ _ G G _ HG14.out.bs HFT.out (by omega)).mono ?_
      rintro e w15 ⟨rfl, q, rfl⟩
      have he : (G == G) = true := beq_self_eq_true _
      have k15 : Kp Noone w14 (w14.drewN q) := (Kp.refl _ _).drewN q
      generalize w14.drewN q = w15 at *
      have X15 := HX14.out.trans (Ext.quiet HX14.out.cols k15)
      have d15 := HD14.out.keep k15
      have HG15 := Lib.hid (HG14.out.keep k15)
      have hw5 : IntKind.i64.wrap ((na : Int) + (nb : Int)) = (na : Int) + (nb : Int) := hw1
      have hcase : f = 0 ∨ (f ≠ 0 ∧ en = 0) ∨ (f = 2 ∧ en ≠ 0 ∧ ¬ (n : Int) > (na : Int) + (nb : Int)) := by
        rcases HF.out with (h | h) | ⟨h1, h2, h3⟩
        · exact Or.inl h
        · by_cases h0 : f = 0
          · exact Or.inl h0
          · exact Or.inr (Or.inl ⟨h0, h⟩)
        · exact Or.inr (Or.inr ⟨h1, h2, by omega⟩)
      clear HX14 HD14 HG14 HFT k15 hc1 hc2 hle2
      have hfb : ∀ x : Nat, x ≠ 0 → (((x : Nat) : Int) != 0) = true := fun x hx => by
        have h : (x : Int) ≠ 0 := by omega
        simpa using h
      have hcase2 : ((f : Int) != 0) = false ∨ (((f : Int) != 0) = true ∧ ((en : Int) != 0) = false) ∨ (((f : Int) != 0) = true ∧ ((en : Int) != 0) = true ∧ ¬ (n : Int) > (na : Int) + (nb : Int)) := by
        rcases hcase with h | ⟨h1, h2⟩ | ⟨h1, h2, h3⟩
        · left; rw [h]; rfl
        · right; left; exact ⟨hfb f h1, by rw [h2]; rfl⟩
        · right; right; exact ⟨hfb f (by omega), hfb en h2, h3⟩
      have HX15 := Lib.hid X15
      have HD15 := Lib.hid d15
      clear hcase hfb X15 d15
      go_upto_region 18 with fail
      go_cut [112] from 97 to 111 (fun v wx => v = .bool false ∧ wx = w15)
      case first =>
        rcases hcase2 with h | ⟨h1, h2⟩ | ⟨h1, h2, h3⟩
        · go_wp2_with fail
          go_meet
          case rel => exact ⟨by rfl, rfl⟩
        · go_wp2_with fail
          go_meet
          case rel => exact ⟨by rfl, rfl⟩
        · go_wp2_with fail
          go_meet
          case rel => exact ⟨congrArg Value.bool (decide_eq_false (by omega)), rfl⟩
      case rest =>
        obtain ⟨rfl, rfl⟩ := hcut
        clear hcase2
        go_wp2_with fail
        refine (crash_dk W.heap.size c10 0 p s10 none 0 0 [] _ HD15.out HX15.out.cols HX15.out.size (IS.nil _) (fun a ha => by cases ha)).mono ?_
        rintro e w16 ⟨rfl, c16, x16, d16⟩
        have X16 := HX15.out.trans (x16.mono (T := fun c => c ≠ 0) (fun c h => by unfold S3 at h; omega))
        have hg16 := HG15.out.kp x16.kp (fun j c d => by rw [cols_new HC10.out c] at d; unfold S3 at d; omega)
        clear x16
        generalize crashF s10 [] = s11 at *
        go_wp2_with fail
        refine (read_dk c16 0 p s11 nX _ d16 (by decide)).mono ?_
        rw [HR4.out]
        simp only []
        rw [HTL.out]
        rintro e w17 ⟨ho, hcap, rfl, hho, k17⟩
        have X17 := X16.trans (Ext.quiet X16.cols k17)
        have hg17 := hg16.keep k17
        clear X16 d16 hg16 k17
        go_wp2_with fail
        refine (same_any _ _ _ _ _ _ G G _ hho.bs hg17.bs (by omega)).mono ?_
        rintro e w18 ⟨rfl, q2, rfl⟩
        have k18 : Kp Noone w17 (w17.drewN q2) := (Kp.refl _ _).drewN q2
        go_wp2_with fail
        go_ret
        exact ⟨rfl, (HKW.out _ _ (X17.trans (Ext.quiet X17.cols k18)))⟩

theorem i64_wf {k : Int} (h : (Lit.int .i64 k).wf = true) : -9223372036854775808 ≤ k ∧ k ≤ 9223372036854775807 := by
  simpa [Lit.wf, IntKind.min, IntKind.max, IntKind.signed, IntKind.bits] using h
set_option maxRecDepth 100000 in
/-- The law. -/
theorem diskSafe_core {H : Type} {enc : TypeId × Value → H} (W : World) (base : Nat) (v0 : Value) (d0 : DataW H) (p0 : List MemPlace) (v1 : Value) (d1 : DataW H) (p1 : List MemPlace) (v2 : Value) (d2 : DataW H) (p2 : List MemPlace) (v3 : Value) (d3 : DataW H) (p3 : List MemPlace) (v4 : Value) (d4 : DataW H) (p4 : List MemPlace)
    (h0 : DataW.Trod enc Try.prog W 0 (fun _ => true) true 22 v0 d0 p0) (h1 : DataW.Trod enc Try.prog W 0 (fun _ => true) true 22 v1 d1 p1) (h2 : DataW.Trod enc Try.prog W 0 (fun _ => true) true 22 v2 d2 p2) (h3 : DataW.Trod enc Try.prog W 0 (fun _ => true) true 3 v3 d3 p3) (h4 : DataW.Trod enc Try.prog W 0 (fun _ => true) true 3 v4 d4 p4)
    (g0 : Value.okWide Try.prog W .any base 22 v0) (g1 : Value.okWide Try.prog W .any base 22 v1) (g2 : Value.okWide Try.prog W .any base 22 v2) (g3 : Value.okWide Try.prog W .any base 3 v3) (g4 : Value.okWide Try.prog W .any base 3 v4)
    (w0 : ∀ n ∈ d0.weights Try.prog 22, n ≤ reachBytes) (w1 : ∀ n ∈ d1.weights Try.prog 22, n ≤ reachBytes) (w2 : ∀ n ∈ d2.weights Try.prog 22, n ≤ reachBytes) (_ : ∀ n ∈ d3.weights Try.prog 3, n ≤ reachBytes) (_ : ∀ n ∈ d4.weights Try.prog 3, n ≤ reachBytes) :
    Calls Try.prog 3 #[v0, v1, v2, v3, v4] W fun e w' => e = .returned (.bool true) ∧ Kp Noone W w' := by
  obtain ⟨ao, na, ca, a, rfl, ha, hca⟩ := arg_bytesR h0 g0 w0
  obtain ⟨bo, nb, cb, b, rfl, hb, hcb⟩ := arg_bytesR h1 g1 w1
  obtain ⟨co, nc, cc, c, rfl, hc, hcc⟩ := arg_bytesR h2 g2 w2
  obtain ⟨fuse, rfl, hf⟩ := arg_int h3 g3
  obtain ⟨keep, rfl, -⟩ := arg_int h4 g4
  have := ha.le
  have := hb.le
  have := hc.le
  exact diskSafe_walk ao na ca a bo nb cb b co nc cc c fuse keep W ha hb hc (by omega) (by omega) (by omega) (i64_wf hf).2

end Go.Proofs.Ytmmdojnjognccaa
