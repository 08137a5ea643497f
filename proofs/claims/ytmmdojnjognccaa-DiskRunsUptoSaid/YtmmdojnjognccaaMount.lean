/-
  THE WALK of a disk's Mount.
-/
import Derived.Test.YtmmdojnjognccaaRefSame
import Derived.Test.YtmmdojnjognccaaReadN
namespace Go.Proofs.Ytmmdojnjognccaa
open Go.RowKit

theorem cells_three {w : World} {p e : Nat} {a b c : Value} (h : w.heap[p]? = some (.cells #[a, b, c] e (0, 0))) :
    w.cell? ⟨p, 0, none⟩ = some a ∧ w.cell? ⟨p, 1, none⟩ = some b ∧ w.cell? ⟨p, 2, none⟩ = some c ∧ w.frozen? ⟨p, 0, none⟩ = false ∧ w.frozen? ⟨p, 1, none⟩ = false ∧ w.frozen? ⟨p, 2, none⟩ = false := by
  refine ⟨?_, ?_, ?_, ?_, ?_, ?_⟩
  · rw [cell_of_row w p 0 _ e (0, 0) h]; rfl
  · rw [cell_of_row w p 1 _ e (0, 0) h]; rfl
  · rw [cell_of_row w p 2 _ e (0, 0) h]; rfl
  all_goals simp [World.frozen?, h]

/-! ### In plain Lean -/

def mountE (s : DS) (x : ByteArray × AreaP) : Nat := if nameOk x.1 = false then 40 else if alGet x.1 s.areas ≠ none ∨ x.2.safe < 0 ∨ (x.2.data.length : Int) < x.2.safe then 1 else 0
def mountL : Img → DS → DS × Nat
  | [], s => (s, 0)
  | x :: r, s => if mountE s x ≠ 0 then (s, mountE s x) else mountL r (putF s x.1 x.2)
def mountF (room : Int) (L : Img) : DS × Nat :=
  if 64 < L.length then (newF room, 43)
  else if (mountL L (newF room)).2 ≠ 0 then mountL L (newF room)
  else if (mountL L (newF room)).1.room < sumF (mountL L (newF room)).1.areas then ((mountL L (newF room)).1, 42)
  else mountL L (newF room)
theorem mountE_zero {s : DS} {x : ByteArray × AreaP} (h : mountE s x = 0) : nameOk x.1 = true ∧ alGet x.1 s.areas = none ∧ 0 ≤ x.2.safe ∧ x.2.safe ≤ x.2.data.length := by
  unfold mountE at h
  split at h
  · cases h
  · rename_i h1
    split at h
    · cases h
    · rename_i h2
      refine ⟨by simpa using h1, Classical.byContradiction fun c => h2 (Or.inl c), ?_, ?_⟩
      · exact Classical.byContradiction fun c => h2 (Or.inr (Or.inl (by omega)))
      · exact Classical.byContradiction fun c => h2 (Or.inr (Or.inr (by omega)))
theorem mount_step {s : DS} (h : DOk s) {x : ByteArray × AreaP} (he : mountE s x = 0) (hl : s.areas.length < 64) (hd : x.2.data.length ≤ 140737488355328) : DOk (putF s x.1 x.2) ∧ (putF s x.1 x.2).areas.length = s.areas.length + 1 := by
  obtain ⟨h1, h2, h3, h4⟩ := mountE_zero he
  refine ⟨h.put h1 ⟨h3, h4, hd⟩ (fun _ => hl), ?_⟩
  have e : ∀ l : Areas, alGet x.1 l = none → (alPut x.1 x.2 l).length = l.length + 1 := by
    intro l hl
    induction l with
    | nil => rfl
    | cons p r ih =>
      rw [alGet_cons] at hl
      unfold alPut
      split
      · rename_i hk; rw [if_pos hk] at hl; cases hl
      · rename_i hk; rw [if_neg hk] at hl; simp [ih hl]
  exact e _ h2

/-! ### The walk -/

/-- What Mount answers. -/
structure MntTo (B : Nat) (col : Nat → Nat) (i : Nat) (w : World) (R : DS × Nat) (e : Ending) (w' : World) : Prop where
  ex : ∃ p col', e = .returned (.tuple #[.pointer (if R.2 = 0 then some ⟨p, 0, none⟩ else none), .int .i64 (R.2 : Int)]) ∧ Ext B (S3 i) col w col' w' ∧ (R.2 = 0 → Dk col' i w' p R.1)
/-- Between two areas. -/
structure MnR (B i p n : Nat) (col : Nat → Nat) (w1 : World) (L : Img) (s0 : DS) (v : Value) (wr : World) : Prop where
  ex : ∃ (j : Nat) (col' : Nat → Nat) (s : DS), v = .int .i64 (j : Int) ∧ j ≤ n ∧ Ext B (S3 i) col w1 col' wr ∧ Dk col' i wr p s ∧ s.areas.length ≤ j ∧ mountL L s0 = mountL (L.drop j) s

set_option maxHeartbeats 4000000 in
set_option maxRecDepth 100000 in
theorem mount_dk (B : Nat) (col : Nat → Nat) (i : Nat) (room : Int) (fo : Option Addr) (n cap : Nat) (L : Img) (w : World) (hc : Cols B w col) (hBw : B ≤ w.heap.size) (hL : AS w fo n cap L) (hLc : ∀ j, j < w.heap.size → ¬ S3 i (col j)) (hn : n ≤ 9223372036854775807) (hD : ∀ x ∈ L, x.2.data.length ≤ 140737488355328) (hNm : ∀ x ∈ L, x.1.size ≤ 9223372036854775807) :
    Calls Try.prog 22 #[.int .i64 room, .slice fo n cap] w fun e w' => MntTo B col i w (mountF room L) e w' := by
  have HL := Lib.hid hL
  have HLC := Lib.hid hLc
  have HD := Lib.hid hD
  have HNM := Lib.hid hNm
  have HC := Lib.hid hc
  have hln := hL.len
  obtain ⟨RES, hRES⟩ : ∃ x, Hid (mountF room L = x) := ⟨_, Lib.hid rfl⟩
  rw [hRES.out]
  have HR := hRES.out
  unfold mountF at HR
  clear hRES hL hLc hD hc hNm
  go_enter Try.func22, Try.ntmps22
  go_wp2_with fail
  refine (new_dk B col i room w HC.out hBw).mono ?_
  rintro e w1 ⟨p, c1, rfl, x1, d1⟩
  by_cases h64 : 64 < L.length
  · rw [if_pos h64] at HR
    subst HR
    have hgt : (n : Int) > 64 := by omega
    go_wp2_with fail
    go_ret2
    exact ⟨⟨p, c1, rfl, x1, fun c => by cases c⟩⟩
  · rw [if_neg h64] at HR
    have hngt : ¬ (n : Int) > 64 := by omega
    have HRR := Lib.hid HR
    have R0 : Hid (MnR B i p n c1 w1 L (newF room) (.int .i64 0) w1) := Lib.hid ⟨⟨0, c1, newF room, by rfl, Nat.zero_le _, Ext.quiet x1.cols (Kp.refl _ _), d1, Nat.le_refl _, by rw [List.drop_zero]⟩⟩
    have HX1 := Lib.hid x1
    have HB1 := Lib.hid (Nat.le_trans hBw x1.size)
    have HK1 : Hid (∀ (col' : Nat → Nat) (wr : World), Ext B (S3 i) c1 w1 col' wr → ∀ j, j < w.heap.size → ¬ S3 i (c1 j)) := Lib.hid (fun col' wr E j hj => by rw [x1.old j hj]; exact HLC.out j hj)
    clear HR x1 d1 h64
    go_wp2_with fail
    go_loopw [18] (fun v wr => MnR B i p n c1 w1 L (newF room) v wr) (fun v _ => n - (intOf v).toNat)
    case atStart => exact R0.out
    case round =>
      clear R0
      obtain ⟨j, col', s, rfl, hjn, E, D, hsl, hmt⟩ := hrel.ex
      by_cases hlt : j < n
      · have hjl : j < L.length := by omega
        have hwj : IntKind.i64.wrap ((j : Int) + 1) = (j : Int) + 1 := IntWalk.i64_in _ (by omega)
        have k1r := HX1.out.kp.trans' E.kp (fun x hx c => by rw [HX1.out.old x hx] at c; exact c)
        obtain ⟨b, off, xo, xm, xc, rfl, hbl, h0, h1, h2, hbs⟩ := HL.out.get j hjl
        have hcol : ∀ x, x < w.heap.size → ¬ S3 i (col x) := HLC.out
        have hc0 := k1r.cell h0 (hcol _ hbl)
        have hc1 := k1r.cell h1 (hcol _ hbl)
        have hc2 := k1r.cell h2 (hcol _ hbl)
        have hbs2 : BS wr xo xm xc L[j].2.data := by
          by_cases hx : L[j].2.data = []
          · rw [hx] at hbs ⊢; exact ⟨hbs.len, hbs.le, hbs.max, Row.nil _ _⟩
          · refine hbs.kp k1r (fun a ha => ?_)
            obtain ⟨a', ha', hl'⟩ := hbs.row.lt (by intro c; apply hx; have := congrArg List.length c; rw [length_bv] at this; exact List.eq_nil_of_length_eq_zero this)
            rw [ha] at ha'
            cases ha'
            exact hcol _ hl'
        have hdr : L.drop j = L[j] :: L.drop (j + 1) := List.drop_eq_getElem_cons hjl
        have hdl := HD.out _ (List.getElem_mem hjl)
        have hnz := HNM.out _ (List.getElem_mem hjl)
        generalize L[j] = x at *
        obtain ⟨nm, ad, sf⟩ := x
        simp only [] at hc0 hc1 hc2 hbs2 hdl hnz
        rw [hdr] at hmt
        have hmt2 : mountL L (newF room) = if mountE s (nm, ⟨ad, sf⟩) ≠ 0 then (s, mountE s (nm, ⟨ad, sf⟩)) else mountL (L.drop (j + 1)) (putF s nm ⟨ad, sf⟩) := hmt
        have hxm : ad.length = xm := hbs2.len
        have HMT := Lib.hid hmt2
        have HBS := Lib.hid hbs2
        have HE := Lib.hid E
        clear hmt hmt2 hdr h0 h1 h2 hbs hbs2 E k1r hcol
        obtain ⟨⟨r, hr⟩, hok⟩ := D
        have HOK := Lib.hid hok
        have HRD := Lib.hid hr
        have kB : Kp Noone wr (wr.alloc (.cells #[.string nm, .slice xo xm xc, .int .i64 sf] 46)) := (Kp.refl _ _).alloc _
        have hBb := heap_alloc_new wr (.cells #[.string nm, .slice xo xm xc, .int .i64 sf] 46)
        have hrB := hr.keep kB
        have hbsB := HBS.out.keep kB
        have HKB := Lib.hid kB
        clear hr hok kB
        go_upto_region 7 with fail
        generalize wr.alloc (.cells #[.string nm, .slice xo xm xc, .int .i64 sf] 46) = wB at *
        have hgB := (Array.getElem?_eq_some_iff.1 hBb).1
        obtain ⟨z0, z1, z2, -, -, -⟩ := cells_three hBb
        obtain ⟨⟨q0, -, -, -, -⟩, -⟩ := cells_five hrB.box
        obtain ⟨ao, c0, hv, -, hs⟩ := hrB.look nm
        have hlkA := fun (w' : World) (kk : Kp Noone wB w') => (hrB.keep kk).map.lookup (P := Try.prog) keyS Try.underlying64 (zero_area w') nm true
        rw [hv, hs] at hlkA
        simp only [if_true, encS] at hlkA
        have hlk1 := hlkA _ ((Kp.refl Noone wB).drew)
        have hlk2 := fun o : Obj => hlkA _ (((Kp.refl Noone wB).alloc o).drew)
        have qo := fun o : Obj => (cells_five (((Kp.refl Noone wB).alloc o).heap hrB.box id)).1.1
        have zo := fun o : Obj => cells_three (((Kp.refl Noone wB).alloc o).heap hBb id)
        have zo0 := fun o => (zo o).1
        clear hv hs hlkA
        have hsome : (alGet nm s.areas).isSome = false ↔ alGet nm s.areas = none := by cases alGet nm s.areas <;> simp
        have HSOME := Lib.hid hsome
        clear hsome hc0 hc1 hc2 zo
        generalize hhas : (alGet nm s.areas).isSome = has at *
        have HHAS := Lib.hid hhas
        clear hhas
        generalize (get0 nm s.areas).data.length = gl at *
        generalize (get0 nm s.areas).safe = gs at *
        go_region
        have k2 : Kp Noone wB (wB.alloc (.cells #[.slice ao gl c0, .int .i64 gs] 69)).drew := ((Kp.refl Noone wB).alloc _).drew
        generalize (wB.alloc (.cells #[.slice ao gl c0, .int .i64 gs] 69)).drew = w5 at *
        have hB5 := k2.heap hBb id
        obtain ⟨y0, y1, y2, -, -, -⟩ := cells_three hB5
        have hr5 := hrB.keep k2
        have hbs5 := hbsB.keep k2
        have HK5 := Lib.hid (HKB.out.trans k2)
        clear z0 z1 z2 q0 hlk1 hlk2 qo zo0 hrB hbsB hBb k2 hgB
        go_wp2_with fail
        refine (right_any nm w5 hnz).mono ?_
        rintro e w6 ⟨rfl, k6⟩
        have hB6 := k6.heap hB5 id
        obtain ⟨z0, z1, z2, -, -, -⟩ := cells_three hB6
        have hr6 := hr5.keep k6
        have hbs6 := hbs5.keep k6
        have K6 := HK5.out.trans k6
        have EX6 := Lib.hid ((HX1.out.trans HE.out).trans (Ext.quiet HE.out.cols K6))
        have HK6 := Lib.hid K6
        clear y0 y1 y2 hB5 hr5 hbs5 k6 K6 HK5
        have hME : Hid (mountE s (nm, ⟨ad, sf⟩) = if rightL nm.data.toList = false then 40 else if has = true ∨ sf < 0 ∨ (ad.length : Int) < sf then 1 else 0) := Lib.hid (by
          unfold mountE nameOk
          simp only []
          have h1 := HSOME.out
          have h2 := HHAS.out
          have h3 : alGet nm s.areas ≠ none ↔ has = true := by
            rw [← h2]
            cases alGet nm s.areas <;> simp
          simp only [h3])
        cases hno : rightL nm.data.toList with
        | false =>
          have hE1 : Hid (RES = (s, 40)) := Lib.hid (by
            have h := hME.out
            rw [if_pos hno] at h
            have h2 := HMT.out
            rw [h, if_pos (by simp)] at h2
            have h3 := HRR.out
            rw [h2, if_pos (by simp)] at h3
            exact h3.symm)
          clear hno
          go_wp2_with fail
          go_ret2
          have hE := hE1.out
          subst hE
          exact ⟨⟨p, col', rfl, EX6.out, fun c => by cases c⟩⟩
        | true =>
          by_cases hbad : has = true ∨ sf < 0 ∨ (ad.length : Int) < sf
          · have hE1 : Hid (RES = (s, 1)) := Lib.hid (by
              have h := hME.out
              rw [if_neg (by rw [hno]; simp), if_pos hbad] at h
              have h2 := HMT.out
              rw [h, if_pos (by simp)] at h2
              have h3 := HRR.out
              rw [h2, if_pos (by simp)] at h3
              exact h3.symm)
            have hcase : has = true ∨ (has = false ∧ sf < 0) ∨ (has = false ∧ ¬ sf < 0 ∧ sf > (xm : Int)) := by
              cases has with
              | true => exact Or.inl rfl
              | false => rcases hbad with h | h | h; cases h; exact Or.inr (Or.inl ⟨rfl, h⟩); by_cases h0 : sf < 0; exact Or.inr (Or.inl ⟨rfl, h0⟩); exact Or.inr (Or.inr ⟨rfl, h0, by omega⟩)
            clear hbad hno
            have HH := Lib.hid HHAS
            rcases hcase with h | ⟨h, h1⟩ | ⟨h, h1, h2⟩
            all_goals (
              have hhx := h
              clear h
              rw [hhx]
              go_wp2_with fail
              go_ret2
              have hE := hE1.out
              subst hE
              exact ⟨⟨p, col', rfl, EX6.out, fun c => by cases c⟩⟩)
          · have hz : Hid (mountE s (nm, ⟨ad, sf⟩) = 0) := Lib.hid (by
              have h := hME.out
              rw [if_neg (by rw [hno]; simp), if_neg hbad] at h
              exact h)
            have hhas : has = false := by
              cases has with
              | true => exact absurd (Or.inl rfl) hbad
              | false => rfl
            have hb1 : ¬ sf < 0 := fun c => hbad (Or.inr (Or.inl c))
            have hb2 : ¬ sf > (xm : Int) := fun c => hbad (Or.inr (Or.inr (by omega)))
            have HH := Lib.hid HHAS
            have hst := mount_step HOK.out hz.out (by have := hsl; omega) hdl
            have HST := Lib.hid hst
            have hmt3 : Hid (mountL L (newF room) = mountL (L.drop (j + 1)) (putF s nm ⟨ad, sf⟩)) := Lib.hid (by have h := HMT.out; rw [if_neg (by rw [hz.out]; simp)] at h; exact h)
            clear hbad hno hst
            subst hhas
            go_upto_region 12 with fail
            have kd : Kp Noone w6 w6.drew := (Kp.refl _ _).drew
            have hrD := hr6.keep kd
            have hbD := hbs6.keep kd
            have hS : ∀ w', Kp Noone w6 w' → w'.cell? ⟨wr.heap.size, 0, none⟩ = some (.string nm) ∧ w'.cell? ⟨wr.heap.size, 1, none⟩ = some (.slice xo xm xc) ∧ w'.cell? ⟨wr.heap.size, 2, none⟩ = some (.int .i64 sf) ∧ w'.cell? ⟨p, 0, none⟩ = some (.map (some r.b)) := fun w' kk => by
              obtain ⟨a0, a1, a2, -, -, -⟩ := cells_three (kk.heap hB6 id)
              exact ⟨a0, a1, a2, (cells_five (kk.heap hr6.box id)).1.1⟩
            have hcl := clone_any xo xm xc ad w6.drew hbD (by omega)
            have hgb : Hid (¬ wr.heap.size = r.b ∧ ¬ p = r.b) := Lib.hid ⟨fun c => by have := HRD.out.map.lt; omega, fun c => by have h1 := HRD.out.pc; have h2 := HRD.out.bc; rw [c] at h1; omega⟩
            have hMC := fun (w' : World) (kk : Kp Noone w6.drew w') => (hrD.keep kk).map
            go_region_held3 (fun w' => w'.cell? ⟨wr.heap.size, 0, none⟩ = some (.string nm) ∧ w'.cell? ⟨wr.heap.size, 1, none⟩ = some (.slice xo xm xc) ∧ w'.cell? ⟨wr.heap.size, 2, none⟩ = some (.int .i64 sf) ∧ w'.cell? ⟨p, 0, none⟩ = some (.map (some r.b)))
              (first | exact hS _ ((Kp.refl Noone w6).drew) | exact hS _ (((Kp.refl Noone w6).drew).trans k') | exact hc7 | assumption)
              (first
                | (go_at_call 36; refine hcl.mono ?_; rintro e w' ⟨co, cc, rfl, hx, k'⟩; obtain ⟨w7, hrun, hto⟩ := (hMC w' k').update (P := Try.prog) (t := 9) (m := 64) (e := 69) keyS Try.underlying64 nm (.agg #[.slice co xm cc, .int .i64 sf]); simp only [encS] at hrun; have hc7 : w7.cell? ⟨wr.heap.size, 0, none⟩ = some (.string nm) ∧ w7.cell? ⟨wr.heap.size, 1, none⟩ = some (.slice xo xm xc) ∧ w7.cell? ⟨wr.heap.size, 2, none⟩ = some (.int .i64 sf) ∧ w7.cell? ⟨p, 0, none⟩ = some (.map (some r.b)) := (have hs7 := hS _ (((Kp.refl Noone w6).drew).trans k'); ⟨hto.2.cell hs7.1 hgb.out.1, hto.2.cell hs7.2.1 hgb.out.1, hto.2.cell hs7.2.2.1 hgb.out.1, hto.2.cell hs7.2.2.2 hgb.out.2⟩)))
            have k6d : Kp Noone w6 w' := ((Kp.refl Noone w6).drew).trans k'
            have hF := hx.mono (G := fun x => w6.drew.heap.size ≤ x ∧ x < w'.heap.size) (fun x hx2 c => ⟨c, hx2⟩)
            rw [← hxm] at hF hto
            obtain ⟨col7, r7, D7, E7⟩ := put_ext HE.out.cols (Nat.le_trans HB1.out HE.out.size) (HK6.out.none.trans kd.none) hrD nm ⟨ad, sf, co, cc⟩ (X := Noone) (fun x c => c.elim) k'.none hF (fun x c => Or.inr (Or.inl c)) hto
            have HD7 := Lib.hid D7
            have HE7 := Lib.hid (HE.out.trans E7)
            have R := Lib.hid (MnR.mk (n := n) (L := L) (s0 := newF room) (v := .int .i64 ((j + 1 : Nat) : Int)) ⟨j + 1, col7, putF s nm ⟨ad, sf⟩, by rfl, by omega, HE7.out, ⟨⟨r7, HD7.out⟩, HST.out.1⟩, by rw [HST.out.2]; omega, hmt3.out⟩)
            clear hS hMC hcl hrD hbD kd k' hx hto hrun hc7 k6d hF D7 E7 hB6 hr6 hbs6 z0 z1 z2
            go_wp2_with fail
            go_roundw
            case rel => exact R.out
            case measure => simp [intOf]; omega
      · obtain rfl : j = n := by omega
        obtain ⟨⟨r, hr⟩, hok⟩ := D
        have hml : mountL L (newF room) = (s, 0) := by
          rw [hmt, List.drop_of_length_le (by omega)]; rfl
        have HR2 := HRR.out
        rw [hml, if_neg (by simp)] at HR2
        have hsum := hok.sum
        have hcl := safe_at col' i p s r wr.drew (hr.keep ((Kp.refl Noone wr).drew)) hok
        have hS : ∀ w', Kp Noone wr w' → w'.cell? ⟨p, 1, none⟩ = some (.int .i64 s.room) := fun w' kk => (cells_five (kk.heap hr.box id)).1.2.1
        have HRD := Lib.hid hr
        have HOK := Lib.hid hok
        have HEE := Lib.hid (HX1.out.trans E)
        have HR3 := Lib.hid HR2
        generalize sumF s.areas = sm at *
        clear hr hok E hml hmt HR2
        go_upto_region 14 with fail
        go_region_held3 (fun w' => w'.cell? ⟨p, 1, none⟩ = some (.int .i64 s.room))
          (first | exact hS _ ((Kp.refl Noone wr).drew) | exact hS _ (((Kp.refl Noone wr).drew).trans k') | assumption)
          (first
            | (go_at_call 33; refine hcl.mono ?_; rintro e w' ⟨rfl, k'⟩))
        have k6 := ((Kp.refl Noone wr).drew).trans k'
        have HX6 := Lib.hid (HEE.out.trans (Ext.quiet HEE.out.cols k6))
        have HD6 := Lib.hid (HRD.out.keep k6)
        clear hcl hS k6 k'
        by_cases c42 : s.room < sm
        · have hE := HR3.out
          rw [if_pos c42] at hE
          have HE := Lib.hid hE
          have hgt : sm > s.room := c42
          clear hE
          go_wp2_with fail
          go_ret2
          have hE := HE.out
          subst hE
          exact ⟨⟨p, col', rfl, HX6.out, fun c => by cases c⟩⟩
        · have hE := HR3.out
          rw [if_neg c42] at hE
          have HE := Lib.hid hE
          have hgt : ¬ sm > s.room := c42
          clear hE
          go_wp2_with fail
          go_ret2
          have hE := HE.out
          subst hE
          exact ⟨⟨p, col', rfl, HX6.out, fun _ => ⟨⟨r, HD6.out⟩, HOK.out⟩⟩⟩

end Go.Proofs.Ytmmdojnjognccaa
