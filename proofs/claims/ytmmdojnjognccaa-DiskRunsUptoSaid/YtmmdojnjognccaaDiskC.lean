/-
  THE WALKS of a disk's Drop, Move, Read, Fuse, Free, Steps, Down, List.
-/
import Derived.Test.YtmmdojnjognccaaDiskB
namespace Go.Proofs.Ytmmdojnjognccaa
open Go.RowKit

theorem dropF_ok {s : DS} (h : DOk s) (k : ByteArray) (hn : s.steps < 4611686018427387904) : DOk (dropF s k).1 := by
  unfold dropF
  split
  · exact h
  · split
    · exact h.step hn
    · have := (h.step hn).del k
      rw [stepF_areas] at this
      exact this
theorem moveF_ok {s : DS} (h : DOk s) (f t : ByteArray) (hn : s.steps < 4611686018427387904) : DOk (moveF s f t).1 := by
  unfold moveF
  split
  · exact h
  · rename_i h1
    split
    · exact h
    · rename_i h2
      split
      · exact h.step hn
      · obtain ⟨-, -, hp⟩ := barsF_zero (by omega : barsF s f true = 0)
        have hg := h.get f
        have hd := (h.step hn).del f
        rw [stepF_areas] at hd
        have hne := hp rfl
        refine hd.put (k := t) (a := get0 f s.areas) (by simpa using h2) hg (fun _ => ?_)
        show (alDel f s.areas).length < 64
        have h3 := alDelS_lt' f s.areas hne
        have := h.len
        omega

set_option maxHeartbeats 1000000 in
set_option maxRecDepth 100000 in
theorem drop_dk (B : Nat) (col : Nat → Nat) (i p : Nat) (s : DS) (k : ByteArray) (w : World) (h : Dk col i w p s) (hc : Cols B w col) (hk : k.size ≤ 9223372036854775807) (hst : s.steps < 4611686018427387904) :
    Calls Try.prog 20 #[.pointer (some ⟨p, 0, none⟩), .string k] w fun e w' => e = .returned (.int .i64 ((dropF s k).2 : Int)) ∧ ∃ col', Ext B (S3 i) col w col' w' ∧ Dk col' i w' p (dropF s k).1 := by
  have hfin := dropF_ok h.2 k hst
  obtain ⟨⟨r, hr⟩, hok⟩ := h
  obtain ⟨RES, hRES⟩ : ∃ x, Hid (dropF s k = x) := ⟨_, Lib.hid rfl⟩
  have HFIN := Lib.hid hfin
  rw [hRES.out] at HFIN ⊢
  have HR := hRES.out
  unfold dropF at HR
  have HOK := Lib.hid hok
  have hstp := hok.steps
  have hfus := hok.fuse
  have HC := Lib.hid hc
  clear hfin hRES hok hc
  go_enter Try.func20, Try.ntmps20
  go_wp2_with fail
  refine (bars_at col i p s r k true w hr hk).mono ?_
  rintro e w1 ⟨rfl, k1⟩
  have hr1 := hr.keep k1
  clear hr
  by_cases hz : barsF s k true = 0
  · rw [if_neg (by omega)] at HR
    have e0 : (((barsF s k true : Nat) : Int) != 0) = false := by rw [hz]; rfl
    have HRR := Lib.hid HR
    clear hz HR
    go_wp2_with fail
    refine (step_at col i p s r w1 hr1 hfus ⟨hstp.1, hst⟩).mono ?_
    rintro e w3 ⟨rfl, D3, k3⟩
    have k03 : Kp (fun j => S3 i (col j)) w w3 := k1.none.trans (k3.mono (fun j _ c => by rw [c, hr1.pc]; unfold S3; omega))
    clear k1 k3 hr1
    cases hx : (stepF s).2 with
    | false =>
      have HR := HRR.out
      rw [if_pos hx] at HR
      subst HR
      clear hx
      go_wp2_with fail
      go_ret
      exact ⟨rfl, col, box_ext HC.out k03, ⟨r, D3⟩, HFIN.out⟩
    | true =>
      have HR := HRR.out
      rw [if_neg (by rw [hx]; simp)] at HR
      have HE := Lib.hid HR
      clear HR HRR hx
      obtain ⟨⟨x0, -, -, -, -⟩, -⟩ := cells_five D3.box
      have hM := D3.map
      go_wp2_with (at_delete; refine wpList_delete_is _ rfl _ _ 64 rfl 69 keyS Try.underlying64 r.b _ rfl hM k rfl ?_)
      intro w5 hto
      have D5 := D3.del k hto
      rw [stepF_areas] at D5
      have k05 : Kp (fun j => S3 i (col j)) w w5 := k03.trans' hto.2 (fun j _ c => by rw [c, D3.bc]; unfold S3; omega)
      have HD5 := Lib.hid D5
      have HK5 := Lib.hid k05
      clear hto D5 k05 k03 D3 hM x0
      go_wp2_with fail
      go_ret
      have hE := HE.out
      subst hE
      exact ⟨rfl, col, box_ext HC.out HK5.out, ⟨_, HD5.out⟩, HFIN.out⟩
  · rw [if_pos hz] at HR
    have e0 : (((barsF s k true : Nat) : Int) != 0) = true := by
      have h : ((barsF s k true : Nat) : Int) ≠ 0 := by omega
      simpa using h
    subst HR
    have HZ := Lib.hid hz
    clear hz
    go_wp2_with fail
    go_ret
    exact ⟨rfl, col, Ext.quiet HC.out k1, ⟨r, hr1⟩, HOK.out⟩

set_option maxHeartbeats 1000000 in
set_option maxRecDepth 100000 in
theorem move_dk (B : Nat) (col : Nat → Nat) (i p : Nat) (s : DS) (f t : ByteArray) (w : World) (h : Dk col i w p s) (hc : Cols B w col) (hBw : B ≤ w.heap.size) (hk : f.size ≤ 9223372036854775807) (hk2 : t.size ≤ 9223372036854775807) (hst : s.steps < 4611686018427387904) :
    Calls Try.prog 38 #[.pointer (some ⟨p, 0, none⟩), .string f, .string t] w fun e w' => e = .returned (.int .i64 ((moveF s f t).2 : Int)) ∧ ∃ col', Ext B (S3 i) col w col' w' ∧ Dk col' i w' p (moveF s f t).1 := by
  have hfin := moveF_ok h.2 f t hst
  obtain ⟨⟨r, hr⟩, hok⟩ := h
  obtain ⟨RES, hRES⟩ : ∃ x, Hid (moveF s f t = x) := ⟨_, Lib.hid rfl⟩
  have HFIN := Lib.hid hfin
  rw [hRES.out] at HFIN ⊢
  have HR := hRES.out
  unfold moveF at HR
  have HOK := Lib.hid hok
  have hstp := hok.steps
  have hfus := hok.fuse
  have HC := Lib.hid hc
  clear hfin hRES hok hc
  go_enter Try.func38, Try.ntmps38
  go_wp2_with fail
  refine (bars_at col i p s r f true w hr hk).mono ?_
  rintro e w1 ⟨rfl, k1⟩
  have hr1 := hr.keep k1
  clear hr
  by_cases hz : barsF s f true = 0
  · rw [if_neg (by omega)] at HR
    have e0 : (((barsF s f true : Nat) : Int) != 0) = false := by rw [hz]; rfl
    have HRR := Lib.hid HR
    clear hz HR
    go_wp2_with fail
    refine (right_any t w1 hk2).mono ?_
    rintro e w2 ⟨rfl, k2⟩
    have hr2 := hr1.keep k2
    have K2 := k1.trans k2
    clear hr1 k1 k2
    cases hno : rightL t.data.toList with
    | false =>
      have HR := HRR.out
      rw [if_pos (by unfold nameOk; exact hno)] at HR
      subst HR
      clear hno
      go_wp2_with fail
      go_ret
      exact ⟨rfl, col, Ext.quiet HC.out K2, ⟨r, hr2⟩, HOK.out⟩
    | true =>
      have HR := HRR.out
      rw [if_neg (by unfold nameOk; rw [hno]; simp)] at HR
      have HR2 := Lib.hid HR
      clear hno HR HRR
      go_wp2_with fail
      refine (step_at col i p s r w2 hr2 hfus ⟨hstp.1, hst⟩).mono ?_
      rintro e w3 ⟨rfl, D3, k3⟩
      have k03 : Kp (fun j => S3 i (col j)) w w3 := K2.none.trans (k3.mono (fun j _ c => by rw [c, hr2.pc]; unfold S3; omega))
      clear K2 k3 hr2
      cases hx : (stepF s).2 with
      | false =>
        have HR := HR2.out
        rw [if_pos hx] at HR
        subst HR
        clear hx
        go_wp2_with fail
        go_ret
        exact ⟨rfl, col, box_ext HC.out k03, ⟨r, D3⟩, HFIN.out⟩
      | true =>
        have HR := HR2.out
        rw [if_neg (by rw [hx]; simp)] at HR
        have HE := Lib.hid HR
        clear HR HR2 hx
        obtain ⟨⟨x0, -, -, -, -⟩, -⟩ := cells_five D3.box
        obtain ⟨ao, c0, hown, hlk⟩ := D3.lookup f false
        simp only [Bool.false_eq_true, if_false] at hlk
        rw [stepF_areas] at hown hlk
        generalize get0 f s.areas = a at *
        obtain ⟨ad, sf⟩ := a
        simp only [] at hown hlk
        have kA : Kp Noone w3 (w3.alloc (.cells #[.slice ao ad.length c0, .int .i64 sf] 69)) := (Kp.refl _ _).alloc _
        have hAb := heap_alloc_new w3 (.cells #[.slice ao ad.length c0, .int .i64 sf] 69)
        have DA := D3.keep kA
        have ownA := hown.keep kA
        have k0A := k03.trans kA.none
        obtain ⟨⟨y0, -, -, -, -⟩, -⟩ := cells_five DA.box
        have hM := DA.map
        have hg3 : Hid (w.heap.size ≤ w3.heap.size) := Lib.hid k03.size
        go_wp2_with (at_delete; refine wpList_delete_is _ rfl _ _ 64 rfl 69 keyS Try.underlying64 r.b _ rfl hM f rfl ?_)
        intro w5 hto
        have D5 := DA.del f hto
        rw [stepF_areas] at D5
        have hbA := DA.bc
        have k05 : Kp (fun j => S3 i (col j)) w w5 := k0A.trans' hto.2 (fun j _ c => by rw [c, hbA]; unfold S3; omega)
        have hgb : w3.heap.size ≠ r.b := fun c => by have := D3.map.lt; omega
        have hA5 := hto.2.heap hAb hgb
        have own5 := ownA.kp hto.2 (fun j c d => by have h1 := DA.gcol f j c; rw [d, hbA] at h1; omega)
        have hgc := DA.gcol
        have hdj := DA.disj
        obtain ⟨z0, z1, -, -⟩ := cells_two hA5
        obtain ⟨⟨v0, -, -, -, -⟩, -⟩ := cells_five D5.box
        have kd : Kp Noone w5 w5.drew := (Kp.refl _ _).drew
        have hM5 := D5.map.kp kd id
        have HD5 := Lib.hid D5
        have HK5 := Lib.hid k05
        have HO5 := Lib.hid (own5.keep kd)
        have HKD := Lib.hid kd
        have HGC := Lib.hid hgc
        have HDJ := Lib.hid hdj
        clear kA hAb DA ownA k0A y0 hM hto D5 k05 hA5 own5 kd D3 k03 hown hlk x0 hbA hgb hgc hdj
        obtain ⟨w6, hrun, hto6⟩ := hM5.update (P := Try.prog) (t := 9) (m := 64) (e := 69) keyS Try.underlying64 t (.agg #[.slice ao ad.length c0, .int .i64 sf])
        simp only [encS] at hrun
        obtain ⟨col6, r6, D6, E6⟩ := put_ext (B := B) HC.out hBw HK5.out HD5.out t ⟨ad, sf, ao, c0⟩ (F := r.G f) (X := Noone) (fun j c => c.elim) (HKD.out.none) HO5.out (fun j c => by
          by_cases e : f = t
          · right; right
            exact ⟨HGC.out f j c, fun a d => d.1 (HDJ.out a f j d.2 c)⟩
          · right; right
            exact ⟨HGC.out f j c, fun a d => d.1 (HDJ.out a f j d.2 c)⟩) hto6
        have HD6 := Lib.hid D6
        have HE6 := Lib.hid E6
        clear hM5 hto6 D6 E6 HO5 HKD HGC HDJ
        go_upto_region 10 with fail
        go_region
        all_goals (
          go_wp2_with fail
          go_ret
          have hE := HE.out
          subst hE
          exact ⟨rfl, col6, HE6.out, ⟨r6, HD6.out⟩, HFIN.out⟩)
  · rw [if_pos hz] at HR
    have e0 : (((barsF s f true : Nat) : Int) != 0) = true := by
      have h : ((barsF s f true : Nat) : Int) ≠ 0 := by omega
      simpa using h
    subst HR
    have HZ := Lib.hid hz
    clear hz
    go_wp2_with fail
    go_ret
    exact ⟨rfl, col, Ext.quiet HC.out k1, ⟨r, hr1⟩, HOK.out⟩

end Go.Proofs.Ytmmdojnjognccaa
