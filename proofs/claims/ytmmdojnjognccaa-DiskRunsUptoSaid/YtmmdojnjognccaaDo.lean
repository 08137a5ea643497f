/-
  THE WALK of the disk laws' do: one call on the program's disk.
-/
import Derived.Test.YtmmdojnjognccaaRefSame
import Derived.Test.YtmmdojnjognccaaReadOpD
import Derived.Deep.MidRow
namespace Go.Proofs.Ytmmdojnjognccaa
open Go.RowKit

def doF (s : DS) (o : OpD) : DS × List UInt8 × Nat :=
  if o.k = 0 then ((appendF s o.name o.b).1, [], (appendF s o.name o.b).2)
  else if o.k = 1 then ((syncF s o.name).1, [], (syncF s o.name).2)
  else if o.k = 2 then ((cutF s o.name o.n).1, [], (cutF s o.name o.n).2)
  else if o.k = 3 then ((moveF s o.name o.dest).1, [], (moveF s o.name o.dest).2)
  else if o.k = 4 then ((dropF s o.name).1, [], (dropF s o.name).2)
  else if o.k = 5 then (s, (readF s o.name).1, (readF s o.name).2)
  else if o.k = 6 then (fuseF s o.n, [], 0)
  else if o.k = 7 then (crashF s o.keep, [], 0)
  else (s, [], 0)

theorem Dk.free {col : Nat → Nat} {i p : Nat} {s : DS} {w w' : World} {F : Nat → Prop} (h : Dk col i w p s) (k : Kp F w w') (hF : ∀ j, F j → col j = 0) : Dk col i w' p s := by
  obtain ⟨⟨r, hr⟩, hi⟩ := h
  exact ⟨⟨r, hr.beside (S := fun c => c = 0) (k.mono (fun j _ c => hF j c)) (fun c a b => by unfold S3 at a; omega)⟩, hi⟩
theorem Ext.flip {B : Nat} {S : Nat → Prop} {col col' : Nat → Nat} {w w' w2 : World} {F : Nat → Prop} (h : Ext B S col w col' w') (k : Kp F w' w2) (hF : ∀ j, F j → w.heap.size ≤ j) : Ext B S col w col' w2 :=
  ⟨h.cols.keep k.size, h.old, h.fresh, h.kp.fin k (fun j c => Or.inr (hF j c))⟩

/-- What do answers. -/
structure DoTo (B : Nat) (col : Nat → Nat) (i p : Nat) (w : World) (R : DS × List UInt8 × Nat) (e : Ending) (w' : World) : Prop where
  ex : ∃ xo xc col', e = .returned (.tuple #[.slice xo R.2.1.length xc, .int .i64 (R.2.2 : Int)]) ∧ Ext B (S3 i) col w col' w' ∧ Dk col' i w' p R.1 ∧ Own (fun j => w.heap.size ≤ j ∧ col' j = 0) w' 5 1 xo R.2.1.length xc (bv R.2.1)
/-- A slice of bytes is being changed. -/
structure FlipR (F : Nat → Prop) (w0 : World) (ao : Option Addr) (n cap : Nat) (jv : Value) (w : World) : Prop where
  ex : ∃ (j : Nat) (l : List UInt8), jv = .int .i64 (j : Int) ∧ j ≤ n ∧ Own F w 5 1 ao n cap (bv l) ∧ Kp F w0 w
theorem info_intD : (Try.prog.info? 3).map (fun i => (i.zero, i.size, i.bytes)) = some (some (.int .i64 0), 1, 8) := by kernel_rfl
theorem ints_one (l : List Int) : ∀ u ∈ l.map (Value.int .i64), u.oneCell' = true := by intro u hu; obtain ⟨x, -, rfl⟩ := List.mem_map.1 hu; rfl
theorem Own.is {F : Nat → Prop} {w : World} {e : Nat} {ao : Option Addr} {n cap : Nat} {l : List Int} (h : Own F w e 1 ao n cap (l.map (Value.int .i64))) : IS w ao n cap l :=
  ⟨by have := h.1; simpa using this, h.2.1, h.2.2.1, h.row⟩

attribute [local irreducible] appendF syncF cutF moveF dropF readF fuseF crashF
set_option maxHeartbeats 4000000 in
set_option maxRecDepth 100000 in
theorem do_any (B : Nat) (col : Nat → Nat) (i p : Nat) (s : DS) (o : OpD) (bo : Option Addr) (bm bc : Nat) (ko : Option Addr) (km kc : Nat) (w : World) (h : Dk col i w p s) (hc : Cols B w col) (hBw : B ≤ w.heap.size) (hok : OpOk o 1048576) (hb : BS w bo bm bc o.b) (hk : IS w ko km kc o.keep) (hst : s.steps < 4611686018427387904) :
    Calls Try.prog 26 #[.pointer (some ⟨p, 0, none⟩), .agg #[.int .i64 o.k, .string o.name, .string o.dest, .slice bo bm bc, .int .i64 o.n, .slice ko km kc]] w fun e w' => DoTo B col i p w (doF s o) e w' := by
  obtain ⟨i0, hi, hz0, hz1, hz2⟩ := info_parts info_intD
  obtain ⟨K, nm, tn, b, N, keep⟩ := o
  have hbl := hok.b
  have hkl := hok.keep
  have hnm : nm.size ≤ 9223372036854775807 := by have := hok.name; unfold maxLen at this; simp only [] at this; omega
  have hto : tn.size ≤ 9223372036854775807 := by have := hok.dest; unfold maxLen at this; simp only [] at this; omega
  have hN : N ≤ 9223372036854775807 := hok.n.2
  simp only [] at hb hk hbl hkl
  have hlb := hb.len
  have hlk := hk.len
  obtain ⟨RES, hRES⟩ : ∃ x, Hid (doF s ⟨K, nm, tn, b, N, keep⟩ = x) := ⟨_, Lib.hid rfl⟩
  rw [hRES.out]
  have HR := hRES.out
  unfold doF at HR
  simp only [] at HR
  have HRR := Lib.hid HR
  clear HR hRES hok
  have kA : Kp Noone w (w.alloc (.cells #[.int .i64 K, .string nm, .string tn, .slice bo bm bc, .int .i64 N, .slice ko km kc] 52)) := (Kp.refl _ _).alloc _
  have hA := heap_alloc_new w (.cells #[.int .i64 K, .string nm, .string tn, .slice bo bm bc, .int .i64 N, .slice ko km kc] 52)
  have hbA := hb.keep kA
  have hkA := hk.keep kA
  have dA := h.keep kA
  have HKA := Lib.hid kA
  go_enter Try.func26, Try.ntmps26
  go_wp2_with fail
  refine (copy_exact bo bm bc b _ hbA (by omega)).mono ?_
  rintro e w2 ⟨rfl, hw2⟩
  have hgl := (Array.getElem?_eq_some_iff.1 hA).1
  generalize w.alloc (.cells #[.int .i64 K, .string nm, .string tn, .slice bo bm bc, .int .i64 N, .slice ko km kc] 52) = wA at *
  have own2 : Own (fun j => j = wA.heap.size) w2 5 1 (some ⟨wA.heap.size, 0, none⟩) bm bm (bv b) := by
    subst hw2
    exact Own.fresh rfl (heap_alloc_new _ _) (by rw [length_bv, hlb, Nat.mul_one]) (by unfold maxLen; omega)
  obtain ⟨hb2, k2⟩ := copied2 hw2 hlb (by unfold maxLen; omega)
  have hA2 := k2.heap hA id
  have d2 := dA.keep k2
  have hk2 := hkA.keep k2
  have K2 := HKA.out.trans k2
  have hcells : ∀ j v, #[Value.int .i64 K, .string nm, .string tn, .slice bo bm bc, .int .i64 N, .slice ko km kc][j]? = some v → w2.cell? ⟨w.heap.size, j, none⟩ = some v := fun j v hv => by rw [cell_of_row w2 w.heap.size j _ 52 (0, 0) hA2]; exact hv
  have q0 := hcells 0 _ rfl
  have q1 := hcells 1 _ rfl
  have q2 := hcells 2 _ rfl
  have q3 := hcells 3 _ rfl
  have q4 := hcells 4 _ rfl
  have q5 := hcells 5 _ rfl
  have E2 := Ext.quiet (S := S3 i) hc K2
  have hB2 : B ≤ w2.heap.size := Nat.le_trans hBw K2.size
  have hg0 : Hid (∀ j, w.heap.size ≤ j → col j = 0) := Lib.hid (fun j hj => cols_new hc hj)
  have hsz : Hid (w.heap.size < wA.heap.size ∧ wA.heap.size < w2.heap.size) := Lib.hid ⟨hgl, by rw [hw2]; exact (Array.getElem?_eq_some_iff.1 (heap_alloc_new wA _)).1⟩
  have HE2 := Lib.hid E2
  have HD2 := Lib.hid d2
  have HO2 := Lib.hid own2
  have HB2 := Lib.hid hb2
  have HK2 := Lib.hid hk2
  clear kA hA hbA hkA dA HKA hw2 own2 hb2 k2 hA2 d2 hk2 K2 hcells E2 hgl h hc hb hk
  by_cases c0 : K = 0
  · subst c0
    have HE : Hid (((appendF s nm b).1, ([] : List UInt8), (appendF s nm b).2) = RES) := Lib.hid (by have h := HRR.out; rw [if_pos rfl] at h; exact h)
    clear HRR
    go_wp2_with fail
    refine (append_dk B col i p s nm _ bm bm b w2 HD2.out HE2.out.cols hB2 HB2.out hnm hst).mono ?_
    rintro e w3 ⟨rfl, c3, x3, d3⟩
    have own3 := HO2.out.kp x3.kp (fun j c d => by subst c; have h1 := hg0.out _ (Nat.le_of_lt hsz.out.1); rw [h1] at d; unfold S3 at d; omega)
    have hc3 : Hid (c3 wA.heap.size = 0) := Lib.hid ((x3.old _ hsz.out.2).trans (hg0.out _ (Nat.le_of_lt hsz.out.1)))
    have HE3 := Lib.hid (HE2.out.trans x3)
    have HD3 := Lib.hid d3
    have HO3 := Lib.hid own3
    clear x3 d3 own3 q0 q1 q2 q3 q4 q5 HE2 HD2 HO2 HB2 HK2
    go_wp2_with fail
    go_loopw [23] (fun jv wq => FlipR (fun j => j = wA.heap.size) w3 (some ⟨wA.heap.size, 0, none⟩) bm bm jv wq) (fun v _ => bm - (intOf v).toNat)
    case atStart => exact FlipR.mk ⟨0, b, by rfl, Nat.zero_le _, HO3.out, Kp.refl _ _⟩
    case round =>
      obtain ⟨j, xs, rfl, hj, hor, kq⟩ := hrel.ex
      by_cases hlt2 : j < bm
      · obtain ⟨g, off2, hkl, hge, hFg, hg, hc, hf, hset⟩ := hor.byte hlt2
        cases hge
        simp only [Nat.zero_add] at hc hf hset
        have hwj : IntKind.i64.wrap ((j : Int) + 1) = (j : Int) + 1 := IntWalk.i64_in _ (by omega)
        have hfl := Lib.hid (flip_val xs[j])
        have hset2 := Lib.hid (hset (xs[j] ^^^ 255))
        have HKQ := Lib.hid kq
        generalize xs[j] = x at *
        clear hset hor kq
        go_wp2_with fail
        go_roundw
        case rel => exact FlipR.mk ⟨j + 1, _, by rfl, by omega, by rw [hfl.out]; exact hset2.out, HKQ.out.setCell (fun _ => rfl) _⟩
        case measure => simp [intOf]; omega
      · have HEF := Lib.hid (HE3.out.flip kq (fun j c => by subst c; exact Nat.le_of_lt hsz.out.1))
        have HDF := Lib.hid (HD3.out.free kq (fun j c => by subst c; exact hc3.out))
        clear hor kq
        go_wp2_with fail
        go_ret2
        have hE := HE.out
        subst hE
        exact ⟨⟨none, 0, c3, rfl, HEF.out, HDF.out, Own.nil _ _ _ _ _⟩⟩
  · have n0 : (K == 0) = false := by simpa using c0
    by_cases c1 : K = 1
    · subst c1
      have HE : Hid ((((syncF s nm).1, ([] : List UInt8), (syncF s nm).2)) = RES) := Lib.hid (by have h := HRR.out; simpa using h)
      clear HRR
      go_wp2_with fail
      refine (sync_dk B col i p s nm w2 HD2.out HE2.out.cols hB2 hnm hst).mono ?_
      rintro e w3 ⟨rfl, c3, x3, d3⟩
      have HE3 := Lib.hid (HE2.out.trans x3)
      have HD3 := Lib.hid d3
      clear x3 d3 q0 q1 q2 q3 q4 q5
      go_wp2_with fail
      go_ret2
      have hE := HE.out
      subst hE
      exact ⟨⟨none, 0, c3, rfl, HE3.out, HD3.out, Own.nil _ _ _ _ _⟩⟩
    ·
      have n1 : (K == 1) = false := by simpa using c1
      by_cases c2 : K = 2
      · subst c2
        have HE : Hid ((((cutF s nm N).1, ([] : List UInt8), (cutF s nm N).2)) = RES) := Lib.hid (by have h := HRR.out; simpa using h)
        clear HRR
        go_wp2_with fail
        refine (cut_dk B col i p s nm N w2 HD2.out HE2.out.cols hB2 hnm hst).mono ?_
        rintro e w3 ⟨rfl, c3, x3, d3⟩
        have HE3 := Lib.hid (HE2.out.trans x3)
        have HD3 := Lib.hid d3
        clear x3 d3 q0 q1 q2 q3 q4 q5
        go_wp2_with fail
        go_ret2
        have hE := HE.out
        subst hE
        exact ⟨⟨none, 0, c3, rfl, HE3.out, HD3.out, Own.nil _ _ _ _ _⟩⟩
      ·
        have n2 : (K == 2) = false := by simpa using c2
        by_cases c3 : K = 3
        · subst c3
          have HE : Hid ((((moveF s nm tn).1, ([] : List UInt8), (moveF s nm tn).2)) = RES) := Lib.hid (by have h := HRR.out; simpa using h)
          clear HRR
          go_wp2_with fail
          refine (move_dk B col i p s nm tn w2 HD2.out HE2.out.cols hB2 hnm hto hst).mono ?_
          rintro e w3 ⟨rfl, c3, x3, d3⟩
          have HE3 := Lib.hid (HE2.out.trans x3)
          have HD3 := Lib.hid d3
          clear x3 d3 q0 q1 q2 q3 q4 q5
          go_wp2_with fail
          go_ret2
          have hE := HE.out
          subst hE
          exact ⟨⟨none, 0, c3, rfl, HE3.out, HD3.out, Own.nil _ _ _ _ _⟩⟩
        ·
          have n3 : (K == 3) = false := by simpa using c3
          by_cases c4 : K = 4
          · subst c4
            have HE : Hid ((((dropF s nm).1, ([] : List UInt8), (dropF s nm).2)) = RES) := Lib.hid (by have h := HRR.out; simpa using h)
            clear HRR
            go_wp2_with fail
            refine (drop_dk B col i p s nm w2 HD2.out HE2.out.cols hnm hst).mono ?_
            rintro e w3 ⟨rfl, c3, x3, d3⟩
            have HE3 := Lib.hid (HE2.out.trans x3)
            have HD3 := Lib.hid d3
            clear x3 d3 q0 q1 q2 q3 q4 q5
            go_wp2_with fail
            go_ret2
            have hE := HE.out
            subst hE
            exact ⟨⟨none, 0, c3, rfl, HE3.out, HD3.out, Own.nil _ _ _ _ _⟩⟩
          ·
            have n4 : (K == 4) = false := by simpa using c4
            by_cases c5 : K = 5
            · subst c5
              have HE : Hid ((s, (readF s nm).1, (readF s nm).2) = RES) := Lib.hid (by have h := HRR.out; simpa using h)
              clear HRR
              go_wp2_with fail
              refine (read_dk col i p s nm w2 HD2.out hnm).mono ?_
              rintro e w3 ⟨xo, xc, rfl, hx, k3⟩
              have HE3 := Lib.hid (HE2.out.trans (Ext.quiet HE2.out.cols k3))
              have HD3 := Lib.hid (HD2.out.keep k3)
              have HX3 := Lib.hid (hx.mono (G := fun j => w.heap.size ≤ j ∧ col j = 0) (fun j hj c => ⟨by have := hsz.out; omega, hg0.out j (by have := hsz.out; omega)⟩))
              clear hx k3 q0 q1 q2 q3 q4 q5
              go_wp2_with fail
              go_ret2
              have hE := HE.out
              subst hE
              exact ⟨⟨xo, xc, col, rfl, HE3.out, HD3.out, HX3.out⟩⟩
            ·
              have n5 : (K == 5) = false := by simpa using c5
              by_cases c6 : K = 6
              · subst c6
                have HE : Hid (((fuseF s N, ([] : List UInt8), 0)) = RES) := Lib.hid (by have h := HRR.out; simpa using h)
                clear HRR
                go_wp2_with fail
                refine (fuse_dk B col i p s N w2 HD2.out HE2.out.cols hN).mono ?_
                rintro e w3 ⟨rfl, c3, x3, d3⟩
                have HE3 := Lib.hid (HE2.out.trans x3)
                have HD3 := Lib.hid d3
                clear x3 d3 q0 q1 q2 q3 q4 q5
                go_wp2_with fail
                go_ret2
                have hE := HE.out
                subst hE
                exact ⟨⟨none, 0, c3, rfl, HE3.out, HD3.out, Own.nil _ _ _ _ _⟩⟩
              ·
                have n6 : (K == 6) = false := by simpa using c6
                by_cases c7 : K = 7
                · subst c7
                  have HE : Hid ((crashF s keep, ([] : List UInt8), 0) = RES) := Lib.hid (by have h := HRR.out; simpa using h)
                  clear HRR
                  have kB : Kp Noone w2 (w2.alloc (.cells #[] 3)) := (Kp.refl _ _).alloc _
                  have hown : Own (fun j => j = w2.heap.size) (w2.alloc (.cells #[] 3)) 3 1 (some ⟨w2.heap.size, 0, none⟩) 0 0 [] := Own.fresh rfl (heap_alloc_new w2 (.cells #[] 3)) rfl (by simp [maxLen])
                  have hrow := (HK2.out.keep kB).row
                  have hln : (keep.map (Value.int .i64)).length = km * 1 := by rw [List.length_map, hlk, Nat.mul_one]
                  have hsB : w2.heap.size < (w2.alloc (.cells #[] 3)).heap.size := (Array.getElem?_eq_some_iff.1 (heap_alloc_new w2 (.cells #[] 3))).1
                  have q5b := kB.cell q5 id
                  go_wp2_with (at_builtin; refine wpList_append_gen _ rfl (.tmp 78) (.tmp 80) 32 rfl 3 i0 (.int .i64 0) 1 8 Try.underlying32 hi hz0 hz1 hz2 rfl (some ⟨w2.heap.size, 0, none⟩) 0 0 rfl ko km kc rfl _ [] hown (keep.map (Value.int .i64)) hln hrow (ints_one _) (by omega) (by unfold maxLen; omega) ?_)
                  intro ao' c' w3 ho k3
                  have ho2 := Own.mono ho (G := fun j => w2.heap.size ≤ j) (fun j _ c => by rcases c with c | c; exact Nat.le_of_eq c.symm; omega)
                  have k23 : Kp Noone w2 w3 := kB.fin k3 (fun j c => Or.inr (Nat.le_of_eq c.symm))
                  have hE23 := HE2.out.trans (Ext.quiet HE2.out.cols k23)
                  have hD3 := HD2.out.keep k23
                  have hIS := ho2.is
                  have hko : keep ≠ [] → ∀ a, ao' = some a → col a.block = 0 := fun hx a ha => by
                    rcases ho2 with ⟨-, h2, -, h4⟩
                    rcases h4 with h4 | ⟨g, off, cur, h0, hg, -⟩
                    · exfalso; apply hx; exact List.eq_nil_of_length_eq_zero (by omega)
                    · rw [ha] at h0; cases h0; exact hg0.out _ (by have := hsz.out; have h5 : w2.heap.size ≤ g := hg; show w.heap.size ≤ g; omega)
                  clear ho k3 kB hown hrow hln hsB q5b
                  go_wp2_with fail
                  refine (crash_dk B col i p s ao' km c' keep w3 hD3 hE23.cols (Nat.le_trans hB2 k23.size) hIS hko).mono ?_
                  rintro e w4 ⟨rfl, c4, x4, d4⟩
                  have HE3 := Lib.hid (hE23.trans x4)
                  have HD3 := Lib.hid d4
                  clear x4 d4 q0 q1 q2 q3 q4 q5 hE23 hD3 hIS hko k23
                  go_wp2_with fail
                  go_ret2
                  have hE := HE.out
                  subst hE
                  exact ⟨⟨none, 0, c4, rfl, HE3.out, HD3.out, Own.nil _ _ _ _ _⟩⟩
                ·
                  have n7 : (K == 7) = false := by simpa using c7
                  have HE : Hid ((s, ([] : List UInt8), 0) = RES) := Lib.hid (by have h := HRR.out; simpa [c0, c1, c2, c3, c4, c5, c6, c7] using h)
                  clear HRR q1 q2 q3 q4 q5 c0 c1 c2 c3 c4 c5 c6 c7
                  go_wp2_with fail
                  go_ret2
                  have hE := HE.out
                  subst hE
                  exact ⟨⟨none, 0, col, rfl, HE2.out, HD2.out, Own.nil _ _ _ _ _⟩⟩

end Go.Proofs.Ytmmdojnjognccaa
