/-
  THE WALK of the document's crash.
-/
import Derived.Test.YtmmdojnjognccaaRefRow
namespace Go.Proofs.Ytmmdojnjognccaa
open Go.RowKit

theorem BS.fore {w : World} {ao : Option Addr} {n cap : Nat} {l : List UInt8} (h : BS w ao n cap l) {k : Nat} (hk : k ≤ n) : BS w ao k cap (l.take k) := by
  have hl := h.len
  refine ⟨by rw [List.length_take]; omega, Nat.le_trans hk h.le, h.max, ?_⟩
  rcases h.row with h0 | ⟨b, off, rfl, hr⟩
  · have h1 : l = [] := by have := congrArg List.length h0; rw [length_bv] at this; exact List.eq_nil_of_length_eq_zero this
    left; rw [h1]; simp [bv]
  · refine Or.inr ⟨b, off, rfl, fun i hi => ?_⟩
    rw [length_bv, List.length_take] at hi
    rw [hr i (by rw [length_bv]; omega)]
    simp [bv]
theorem RGA.kp {P S : Nat → Prop} {z : Nat} {A : Nat → Prop} {hs : Hs} {w w' : World} {ao : Option Addr} {n cap : Nat} {L : Img} (h : RGA P z A hs w ao n cap L) (k : Kp S w w') (hA : ∀ j, A j → ¬ S j) (hP : ∀ j, P j → ¬ S j) : RGA P z A hs w' ao n cap L :=
  ⟨fun j c => ⟨(h.base j c).1, Nat.lt_of_lt_of_le (h.base j c).2 k.size⟩, h.len, h.hlen, h.own.kp k hA, fun j a b => (h.data j a b).kp k (fun i _ c => hP i c.1)⟩
/-- What holds of the document's disk. -/
structure ROk (m : RD) : Prop where
  room : 0 ≤ m.room ∧ m.room ≤ 4194304
  len : m.L.length ≤ 64
  fit : m.L.Fit
  steps : 0 ≤ m.steps ∧ m.steps ≤ 4611686018427387904
  fuse : 0 ≤ m.fuse ∧ m.fuse ≤ 9223372036854775807

theorem imgC_one : ∀ (L : Img) (hs : Hs), ∀ u ∈ imgC L hs, u.oneCell' = true
  | [], _, u, h => by simp [imgC] at h
  | _ :: _, [], u, h => by simp [imgC] at h
  | x :: r, g :: t, u, h => by
    have ih := imgC_one r t
    simp [imgC] at h
    rcases h with rfl | rfl | rfl | h
    · rfl
    · rfl
    · rfl
    · exact ih u h
/-- Between two areas of crash. -/
structure CQ (P : Nat → Prop) (z : Nat) (A : Nat → Prop) (ao1 : Option Addr) (n cap1 : Nat) (wB : World) (S : Nat → Img) (v : Value) (wr : World) : Prop where
  ex : ∃ (j : Nat) (hs : Hs), v = .int .i64 (j : Int) ∧ j ≤ n ∧ RGA P z A hs wr ao1 n cap1 (S j) ∧ Kp A wB wr
/-- Between two bytes. -/
structure CI (P : Nat → Prop) (z : Nat) (A : Nat → Prop) (hs : Hs) (ao1 : Option Addr) (n cap1 : Nat) (wX : World) (M : Img) (i : Nat) (nm : ByteArray) (xd : List UInt8) (lo hi : Int) (v : Value) (wr : World) : Prop where
  ex : ∃ q : Int, v = .int .i64 q ∧ lo ≤ q ∧ q ≤ hi ∧ RGA P z A hs wr ao1 n cap1 (M.set i (nm, ⟨xd, q⟩)) ∧ Kp A wX wr

set_option maxHeartbeats 4000000 in
set_option maxRecDepth 100000 in
theorem crashR_any (P : Nat → Prop) (ao : Option Addr) (cap : Nat) (m : RD) (keep : List Int) (ko : Option Addr) (km kc : Nat) (w : World) (h : RA P w ao m.L.length cap m.L) (hP : ∀ j, w.heap.size ≤ j → P j) (hk : IS w ko km kc keep) (hok : ROk m) :
    Calls Try.prog 43 #[rdV ao cap m, .slice ko km kc] w fun e w' => ∃ ao' cap', e = .returned (rdV ao' cap' (crashR m keep)) ∧ RA P w' ao' (crashR m keep).L.length cap' (crashR m keep).L ∧ Kp Noone w w' := by
  obtain ⟨i0, hi, hz0, hz1, hz2⟩ := info_parts info_area
  obtain ⟨L, room, steps, fuse, down⟩ := m
  obtain ⟨n, hn⟩ : ∃ n, L.length = n := ⟨_, rfl⟩
  have h64 := hok.len
  have hfit := hok.fit
  have hroom := hok.room
  have hsteps := hok.steps
  have hkl := hk.len
  simp only [] at h h64 hfit hroom hsteps
  rw [hn] at h h64
  have hkm : km ≤ 9223372036854775807 := by have h1 := hk.le; have h2 := hk.max; unfold maxLen at h2; omega
  obtain ⟨RES, hRES⟩ : ∃ x, Hid (crashR ⟨L, room, steps, fuse, down⟩ keep = x) := ⟨_, Lib.hid rfl⟩
  rw [hRES.out]
  have HR : Hid (RES = ⟨crUp room keep L n, room, steps, 0, false⟩) := Lib.hid (by rw [← hRES.out]; show (⟨crUp room keep L L.length, room, steps, 0, false⟩ : RD) = _; rw [hn])
  have hA := heap_alloc_new w (.cells #[.slice ao n cap, .int .i64 room, .int .i64 steps, .int .i64 fuse, .bool down] 56)
  have eA := alloc_size w (.cells #[.slice ao n cap, .int .i64 room, .int .i64 steps, .int .i64 fuse, .bool down] 56)
  have kA : Kp Noone w ((w.alloc (.cells #[.slice ao n cap, .int .i64 room, .int .i64 steps, .int .i64 fuse, .bool down] 56)).alloc (.cells #[.slice none 0 0, .int .i64 0, .int .i64 0, .int .i64 0, .bool false] 56)) := ((Kp.refl _ _).alloc _).alloc _
  have hdA := ((Kp.refl Noone (w.alloc (.cells #[.slice ao n cap, .int .i64 room, .int .i64 steps, .int .i64 fuse, .bool down] 56))).alloc (.cells #[.slice none 0 0, .int .i64 0, .int .i64 0, .int .i64 0, .bool false] 56)).heap hA id
  have hrA := heap_alloc_new (w.alloc (.cells #[.slice ao n cap, .int .i64 room, .int .i64 steps, .int .i64 fuse, .bool down] 56)) (.cells #[.slice none 0 0, .int .i64 0, .int .i64 0, .int .i64 0, .bool false] 56)
  have eB := alloc_size (w.alloc (.cells #[.slice ao n cap, .int .i64 room, .int .i64 steps, .int .i64 fuse, .bool down] 56)) (.cells #[.slice none 0 0, .int .i64 0, .int .i64 0, .int .i64 0, .bool false] 56)
  rw [eA] at hrA eB
  have HP := Lib.hid hP
  have HFIT := Lib.hid hfit
  have HK := Lib.hid hk
  have HL := Lib.hid (h.mono (Q := fun j => P j ∧ j < w.heap.size) (fun i hi c => ⟨c, hi⟩))
  clear h hP hA eA hfit hk hok hRES
  unfold rdV rdC
  simp only [hn]
  go_enter Try.func43, Try.ntmps43
  go_upto_region 1 with fail
  generalize (w.alloc (.cells #[.slice ao n cap, .int .i64 room, .int .i64 steps, .int .i64 fuse, .bool down] 56)).alloc (.cells #[.slice none 0 0, .int .i64 0, .int .i64 0, .int .i64 0, .bool false] 56) = wA at *
  obtain ⟨⟨q0, q1, q2, q3, q4⟩, -⟩ := cells_five hdA
  have hoB := heap_alloc_new wA (.cells #[.slice none 0 0, .int .i64 room, .int .i64 steps, .int .i64 0, .bool false] 56)
  have kB : Kp Noone wA (wA.alloc (.cells #[.slice none 0 0, .int .i64 room, .int .i64 steps, .int .i64 0, .bool false] 56)) := (Kp.refl _ _).alloc _
  have esB := alloc_size wA (.cells #[.slice none 0 0, .int .i64 room, .int .i64 steps, .int .i64 0, .bool false] 56)
  have hdB := kB.heap hdA id
  have hrB := kB.heap hrA id
  have KB := Lib.hid (kA.trans kB)
  go_upto_region 2 with fail
  generalize wA.alloc (.cells #[.slice none 0 0, .int .i64 room, .int .i64 steps, .int .i64 0, .bool false] 56) = wB at *
  rw [eB] at hoB esB
  generalize hgo : w.heap.size + 1 + 1 = go at *
  obtain ⟨⟨q0, q1, q2, q3, q4⟩, qf⟩ := cells_five hdB
  obtain ⟨⟨p0, p1, p2, p3, p4⟩, pf⟩ := cells_five hoB
  have hLB := HL.out.keep KB.out
  obtain ⟨hs, hhs, hrow, hdat⟩ := hLB.row
  have hys := imgC_length L hs hhs
  rw [hn] at hys hhs
  have hone : ∀ u ∈ imgC L hs, u.oneCell' = true := imgC_one L hs
  go_wp2_with (at_builtin; refine wpList_append_gen _ rfl (.tmp 15) (.tmp 17) 38 rfl 46 i0 (.agg #[.string ByteArray.empty, .slice none 0 0, .int .i64 0]) 3 48 Try.underlying38 hi hz0 hz1 hz2 rfl none 0 0 rfl ao n cap rfl Noone [] (Own.nil _ _ _ _ _) (imgC L hs) hys hrow hone (by omega) (by unfold maxLen; omega) ?_)
  intro ao1 cap1 w7 ho7 k7
  have s7 := k7.size
  have hG7 : RGA (fun i => P i ∧ (i < w.heap.size ∨ wB.heap.size ≤ i)) wB.heap.size (Ex Noone wB w7) hs w7 ao1 n cap1 L := by
    have hdat2 : ∀ j (h1 : j < hs.length) (h2 : j < L.length), DataP (fun i => P i ∧ i < w.heap.size) wB hs[j].1 hs[j].2.1 hs[j].2.2 L[j].2.data := hdat
    exact ⟨fun j c => by have := c.none; omega, hn, by omega, ho7, fun j h1 h2 => ((hdat2 j h1 h2).keep k7).mono (fun i _ c => ⟨⟨c.1, Or.inl c.2⟩, fun e => by have := e.none; have := c.2; omega⟩)⟩
  have hAlt : ∀ i, Ex Noone wB w7 i → wB.heap.size ≤ i ∧ i < w7.heap.size := fun i c => c.none
  generalize Ex Noone wB w7 = A at *
  have ho7 := k7.heap hoB id
  have hd7 := k7.heap hdB id
  have hr7 := k7.heap hrB id
  have K8 : Kp Noone w (w7.setCell ⟨go, 0, none⟩ (.slice ao1 n cap1)) := (KB.out.trans k7).setCell (fun c => by have h1 : go < w.heap.size := c; omega) _
  have kk : Kp (fun j => j = go) w7 (w7.setCell ⟨go, 0, none⟩ (.slice ao1 n cap1)) := (Kp.refl (fun j => j = go) w7).setCell (fun _ => rfl) _
  have ho8 : (w7.setCell ⟨go, 0, none⟩ (.slice ao1 n cap1)).heap[go]? = some (.cells #[.slice ao1 n cap1, .int .i64 room, .int .i64 steps, .int .i64 0, .bool false] 56 (0, 0)) := (heap_set_cell ho7).trans (by simp)
  have hd8 := kk.heap hd7 (by omega)
  have hr8 := kk.heap hr7 (by omega)
  have hG8 := hG7.kp kk (fun j c e => by have := hAlt j c; omega) (fun j c e => by have := c.2; omega)
  have s8 := kk.size
  obtain ⟨⟨u0, -, -, -, -⟩, uf⟩ := cells_five ho7
  have uf0 := uf 0
  have HG8 := Lib.hid hG8
  have HKW := Lib.hid K8
  have hbd : Hid (go < wB.heap.size ∧ w.heap.size + 2 = go ∧ wB.heap.size ≤ w7.heap.size) := Lib.hid ⟨by omega, by omega, s7⟩
  clear hG7 hG8 K8 kk hd7 hr7 hrow hdat hys hone hLB q0 q1 q2 q3 q4 qf p0 p1 p2 p3 p4 pf kA kB KB hdA hrA hdB hrB hoB uf
  go_upto_region 3 with fail
  generalize w7.setCell ⟨go, 0, none⟩ (.slice ao1 n cap1) = wC at *
  obtain ⟨⟨q0, q1, q2, q3, q4⟩, -⟩ := cells_five ho8
  have R0 : Hid (CQ (fun i => P i ∧ (i < w.heap.size ∨ wB.heap.size ≤ i)) wB.heap.size A ao1 n cap1 wC (fun j => crUp room keep L j) (.int .i64 0) wC) := Lib.hid ⟨⟨0, hs, by rfl, Nat.zero_le _, HG8.out, Kp.refl _ _⟩⟩
  clear u0 uf0 ho7 HG8
  have HO8 := Lib.hid ho8
  have HD8 := Lib.hid hd8
  have HR8 := Lib.hid hr8
  have HALT := Lib.hid hAlt
  clear hd8 hr8 ho8
  go_wp2_with fail
  clear q0 q1 q2 q3 q4
  go_loopw [23] (fun v wr => CQ (fun i => P i ∧ (i < w.heap.size ∨ wB.heap.size ≤ i)) wB.heap.size A ao1 n cap1 wC (fun j => crUp room keep L j) v wr) (fun v _ => n - (intOf v).toNat)
  case atStart => exact R0.out
  case round =>
    clear R0
    obtain ⟨j, hs, rfl, hj, hG, kr⟩ := hrel.ex
    have hAn : ∀ i, i < wB.heap.size → ¬ A i := fun i hi c => by have := (HALT.out i c).1; omega
    have hbox := kr.heap HO8.out (hAn _ hbd.out.1)
    have hszr := kr.size
    by_cases hlt : j < n
    · have hclen := crUp_len room keep L j
      have hjl : j < (crUp room keep L j).length := by omega
      have hst : Hid (crUp room keep L (j + 1) = (crUp room keep L j).set j (crX (sumL (crUp room keep L j)) room (crUp room keep L j)[j] keep[j]?)) := Lib.hid (crUp_succ room keep L j hjl)
      have hfit := crUp_fit room keep L HFIT.out j
      have hwj : IntKind.i64.wrap ((j : Int) + 1) = (j : Int) + 1 := IntWalk.i64_in _ (by omega)
      obtain ⟨b, off, rfl, hAb, hbl, hfr, hcell⟩ := hG.place (by omega)
      have hhl : j < hs.length := by have := hG.hlen; omega
      obtain ⟨c0, c1, c2⟩ := hcell j hjl hhl
      have hda := hG.data j hhl hjl
      have hxf := hfit _ (List.getElem_mem hjl)
      have hsmall := hfit.small (by omega)
      have hsb := hsmall.sum
      generalize crUp room keep L j = M at *
      have hset : Hid (M.set j M[j] = M) := Lib.hid (by simp)
      have hsum : Hid (∀ x : ByteArray × AreaP, sumL (M.set j x) = sumL M - M[j].2.safe + x.2.safe) := Lib.hid (fun x => sumL_set M j hjl x)
      have hFM := Lib.hid hfit
      generalize M[j] = x at *
      obtain ⟨nm, xd, xs⟩ := x
      generalize hs[j] = g at *
      obtain ⟨bo, mm, cc⟩ := g
      simp only [] at c0 c1 c2 hda hxf
      have hxm : xd.length = mm := hda.1.len
      have hmc : mm ≤ cc := hda.1.le
      have hcM : cc ≤ 9223372036854775807 := by have := hda.1.max; unfold maxLen at this; omega
      have hsum2 : Hid (∀ q : Int, sumL (M.set j (nm, ⟨xd, q⟩)) = sumL M - xs + q) := Lib.hid (fun q => hsum.out (nm, ⟨xd, q⟩))
      have hst2 : Hid (crUp room keep L (j + 1) = M.set j (nm, ⟨xd.take (keepA (sumL M) room ⟨xd, xs⟩ keep[j]?).toNat, keepA (sumL M) room ⟨xd, xs⟩ keep[j]?⟩)) := hst
      have hcb := keepA_bounds (sum := sumL M) (room := room) (a := ⟨xd, xs⟩) (k := keep[j]?) hxf.2.1
      simp only [] at hcb
      generalize sumL M = sm at *
      have hcE : Hid (keepA sm room ⟨xd, xs⟩ keep[j]? = max xs (min (keepN ⟨xd, xs⟩ keep[j]?) (room - sm + xs))) := Lib.hid rfl
      generalize keepA sm room ⟨xd, xs⟩ keep[j]? = c at *
      have kX : Kp Noone wr (wr.alloc (.cells #[.string nm, .slice bo mm cc, .int .i64 xs] 46)) := (Kp.refl _ _).alloc _
      have hXb := heap_alloc_new wr (.cells #[.string nm, .slice bo mm cc, .int .i64 xs] 46)
      have HSM : Hid (∀ q : Int, xs ≤ q → q ≤ c → Img.Small (M.set j (nm, ⟨xd, q⟩))) := Lib.hid (fun q h1 h2 => ⟨by rw [List.length_set]; omega, fun y hy => by
        rcases List.mem_or_eq_of_mem_set hy with hy | rfl
        · exact hsmall.2 y hy
        · show 0 ≤ q ∧ q ≤ 140737488355328
          omega⟩)
      have HG := Lib.hid hG
      have HDA := Lib.hid hda
      have HKR := Lib.hid kr
      have HKX := Lib.hid kX
      have hga1 : ∀ i, A i → i < wr.heap.size := fun i hi => (hG.base i hi).2
      obtain ⟨⟨q0, q1, q2, q3, q4⟩, -⟩ := cells_five hbox
      clear hG hda hfit hsmall hst hsum kr hcell kX hrel hclen
      go_upto_region 7 with fail
      generalize wr.alloc (.cells #[.string nm, .slice bo mm cc, .int .i64 xs] 46) = wX at *
      clear q0 q1 q2 q3 q4 c0 c1 c2
      generalize hga : wr.heap.size = ga at *
      obtain ⟨z0, z1, z2, -⟩ := cells_three hXb
      have hGX := HG.out.keep HKX.out
      have R1 : Hid (CI (fun i => P i ∧ (i < w.heap.size ∨ wB.heap.size ≤ i)) wB.heap.size A hs (some ⟨b, off, none⟩) n cap1 wX M j nm xd xs c (.int .i64 xs) wX) := Lib.hid ⟨⟨xs, rfl, Int.le_refl _, hcb.1, by rw [hset.out]; exact hGX, Kp.refl _ _⟩⟩
      clear hGX
      go_wp2_with fail
      clear z0 z1 z2
      go_loopw [8] (fun v wq => CI (fun i => P i ∧ (i < w.heap.size ∨ wB.heap.size ≤ i)) wB.heap.size A hs (some ⟨b, off, none⟩) n cap1 wX M j nm xd xs c v wq) (fun v _ => (c - intOf v).toNat)
      case atStart => exact R1.out
      case round =>
        clear R1
        obtain ⟨q, rfl, hq1, hq2, hGq, kq⟩ := hrel.ex
        have HGQ := Lib.hid hGq
        have HKQ := Lib.hid kq
        have hAX : ∀ i, i < wB.heap.size ∨ ga ≤ i → ¬ A i := fun i hi ci => by
          rcases hi with hi | hi
          · exact hAn i hi ci
          · have := hga1 i ci; omega
        have hboxq := kq.heap (HKX.out.heap hbox id) (hAX _ (Or.inl hbd.out.1))
        have hxbq := kq.heap hXb (hAX _ (Or.inr (Nat.le_refl _)))
        have hdq := kq.heap (HKX.out.heap (HKR.out.heap HD8.out (hAn _ (by have := hbd.out; omega))) id) (hAX _ (Or.inl (by have := hbd.out; omega)))
        have hkeep : ∀ i, i < w.heap.size → ∀ (o : Nat) (v : Value), w.cell? ⟨i, o, none⟩ = some v → wr.cell? ⟨i, o, none⟩ = some v := fun i hi o v hv => by
          have := hbd.out
          exact kq.cell (HKX.out.cell (HKR.out.cell (HKW.out.cell hv id) (hAn _ (by show i < _; omega))) id) (hAX _ (Or.inl (by show i < _; omega)))
        have hxw := hxf.1
        go_upto_region 8 with fail
        go_cut [61] from 33 to 61 (fun v wx => v = .bool (decide (q < c)) ∧ Kp Noone wr wx)
        case first =>
          have hcE := hcE.out
          unfold keepN at hcE
          by_cases hkj : j < km
          · obtain ⟨bk, offk, hkl2, rfl, hbk, hkc⟩ := HK.out.at hkj
            have hkc2 := hkeep bk hbk _ _ hkc
            rw [List.getElem?_eq_getElem hkl2] at hcE
            generalize keep[j] = v at *
            simp only [] at hcE
            obtain ⟨z0, z1, z2, -⟩ := cells_three hxbq
            have hw1 : IntKind.i64.wrap (q - xs) = q - xs := IntWalk.i64_in _ (by omega)
            by_cases h1 : q < (mm : Int)
            · by_cases h2 : q - xs < v
              · have hra : RA (fun _ => True) wr (some ⟨b, off, none⟩) n cap1 (M.set j (nm, ⟨xd, q⟩)) := HGQ.out.ra (fun _ _ _ => trivial) (fun _ _ _ => trivial)
                have k0 : Kp Noone wr wr.drew := (Kp.refl _ _).drew
                have HS := safe_ref (fun _ => True) (some ⟨b, off, none⟩) n cap1 (M.set j (nm, ⟨xd, q⟩)) room steps 0 false wr.drew (hra.keep k0) (HSM.out q hq1 hq2)
                rw [hsum2.out q] at HS
                have hcs : ∀ w', Kp Noone wr w' → ((w'.cell? ⟨go, 0, none⟩ = some (.slice (some ⟨b, off, none⟩) n cap1) ∧ w'.cell? ⟨go, 1, none⟩ = some (.int .i64 room) ∧ w'.cell? ⟨go, 2, none⟩ = some (.int .i64 steps) ∧ w'.cell? ⟨go, 3, none⟩ = some (.int .i64 0) ∧ w'.cell? ⟨go, 4, none⟩ = some (.bool false)) ∧
                    w'.cell? ⟨ga, 1, none⟩ = some (.slice bo mm cc) ∧ w'.cell? ⟨ga, 2, none⟩ = some (.int .i64 xs) ∧ w'.cell? ⟨bk, offk + j, none⟩ = some (.int .i64 v) ∧ w'.cell? ⟨w.heap.size, 1, none⟩ = some (.int .i64 room)) := fun w' k => by
                  obtain ⟨y0, y1, y2, -⟩ := cells_three (k.heap hxbq id)
                  exact ⟨(cells_five (k.heap hboxq id)).1, y1, y2, k.cell hkc2 id, (cells_five (k.heap hdq id)).1.2.1⟩
                by_cases h3 : sm - xs + q < room
                · have hnq : q < c := by omega
                  have HQ := Lib.hid hnq
                  clear hcE hnq hkeep hra z0 z1 z2
                  go_region_held3 (fun w' => (w'.cell? ⟨go, 0, none⟩ = some (.slice (some ⟨b, off, none⟩) n cap1) ∧ w'.cell? ⟨go, 1, none⟩ = some (.int .i64 room) ∧ w'.cell? ⟨go, 2, none⟩ = some (.int .i64 steps) ∧ w'.cell? ⟨go, 3, none⟩ = some (.int .i64 0) ∧ w'.cell? ⟨go, 4, none⟩ = some (.bool false)) ∧
                      w'.cell? ⟨ga, 1, none⟩ = some (.slice bo mm cc) ∧ w'.cell? ⟨ga, 2, none⟩ = some (.int .i64 xs) ∧ w'.cell? ⟨bk, offk + j, none⟩ = some (.int .i64 v) ∧ w'.cell? ⟨w.heap.size, 1, none⟩ = some (.int .i64 room))
                    (first | exact hcs _ k0 | exact hcs _ k2)
                    ((go_at_call 30; refine HS.mono ?_; rintro e w1 ⟨rfl, k1⟩; have k2 : Kp Noone wr w1 := k0.trans k1))
                  have HK2 := Lib.hid k2
                  clear hcs HS k0 k1 k2
                  go_wp2_with fail
                  go_meet
                  case rel => exact ⟨by rw [decide_eq_true HQ.out], HK2.out⟩
                · have hnq : ¬ q < c := by omega
                  have HQ := Lib.hid hnq
                  clear hcE hnq hkeep hra z0 z1 z2
                  go_region_held3 (fun w' => (w'.cell? ⟨go, 0, none⟩ = some (.slice (some ⟨b, off, none⟩) n cap1) ∧ w'.cell? ⟨go, 1, none⟩ = some (.int .i64 room) ∧ w'.cell? ⟨go, 2, none⟩ = some (.int .i64 steps) ∧ w'.cell? ⟨go, 3, none⟩ = some (.int .i64 0) ∧ w'.cell? ⟨go, 4, none⟩ = some (.bool false)) ∧
                      w'.cell? ⟨ga, 1, none⟩ = some (.slice bo mm cc) ∧ w'.cell? ⟨ga, 2, none⟩ = some (.int .i64 xs) ∧ w'.cell? ⟨bk, offk + j, none⟩ = some (.int .i64 v) ∧ w'.cell? ⟨w.heap.size, 1, none⟩ = some (.int .i64 room))
                    (first | exact hcs _ k0 | exact hcs _ k2)
                    ((go_at_call 30; refine HS.mono ?_; rintro e w1 ⟨rfl, k1⟩; have k2 : Kp Noone wr w1 := k0.trans k1))
                  have HK2 := Lib.hid k2
                  clear hcs HS k0 k1 k2
                  go_wp2_with fail
                  go_meet
                  case rel => exact ⟨by rw [show decide (q < c) = decide (sm - xs + q < room) from by rw [decide_eq_false (show ¬ q < c by have := HQ.out; omega), decide_eq_false (show ¬ sm - xs + q < room by omega)]], HK2.out⟩
              · have hnq : ¬ q < c := by omega
                have HQ := Lib.hid hnq
                clear hcE hnq hkeep
                go_quiet (fail)
                go_wp2_with fail
                go_meet
                case rel => exact ⟨by rw [decide_eq_false (by have := HQ.out; omega)], (Kp.refl _ _).drewN _⟩
            · have hnq : ¬ q < c := by omega
              have HQ := Lib.hid hnq
              clear hcE hnq hkeep
              go_quiet (fail)
              go_wp2_with fail
              go_meet
              case rel => exact ⟨by rw [decide_eq_false (by have := HQ.out; omega)], (Kp.refl _ _).drewN _⟩
          · rw [List.getElem?_eq_none (by omega)] at hcE
            simp only [] at hcE
            have hnq : ¬ q < c := by omega
            have HQ := Lib.hid hnq
            clear hcE hnq hkeep
            go_quiet (fail)
            go_wp2_with fail
            go_meet
            case rel => exact ⟨by rw [decide_eq_false (by have := HQ.out; omega)], (Kp.refl _ _).drewN _⟩
        case rest =>
        obtain ⟨rfl, kx⟩ := hcut
        have hGc := HGQ.out.keep kx
        have hboxc := kx.heap hboxq id
        have hxbc := kx.heap hxbq id
        have HDC := Lib.hid (kx.heap hdq id)
        have HKC := Lib.hid (HKQ.out.trans kx.none)
        clear hboxq hxbq hdq hkeep kq hGq hrel
        obtain ⟨b', off', e, -, hbc, hfr', hcell'⟩ := hGc.place (by omega)
        obtain ⟨rfl, rfl⟩ : b = b' ∧ off = off' := by
          have e1 := Option.some.inj e
          exact ⟨congrArg Addr.block e1, congrArg Addr.off e1⟩
        obtain ⟨d0, d1, d2⟩ := hcell' j (by rw [List.length_set]; exact hjl) hhl
        simp only [List.getElem_set_self] at d0 d2
        obtain ⟨⟨q0, q1, q2, q3, q4⟩, -⟩ := cells_five hboxc
        have f2 := hfr' (off + j * 3 + 2)
        have hwr := Lib.hid (kx.size)
        by_cases hqc : q < c
        · have hwq : IntKind.i64.wrap (q + 1) = q + 1 := IntWalk.i64_in _ (by omega)
          have R : Hid (CI (fun i => P i ∧ (i < w.heap.size ∨ wB.heap.size ≤ i)) wB.heap.size A hs (some ⟨b, off, none⟩) n cap1 wX M j nm xd xs c (.int .i64 (q + 1)) (wc.setCell ⟨b, off + j * 3 + 2, none⟩ (.int .i64 (q + 1)))) := Lib.hid ⟨⟨q + 1, rfl, by omega, by omega, by
            have h1 := hGc.setSafe hAb (k := j) (by rw [List.length_set]; exact hjl) (q + 1)
            simp only [List.getElem_set_self, List.set_set] at h1
            exact h1, HKC.out.setCell (fun _ => hAb) _⟩⟩
          clear hGc hcell' hfr' d0 d1 hbc e
          go_wp2_with fail
          go_roundw
          case rel => exact R.out
          case measure => simp [intOf]; omega
        · obtain rfl : q = c := by omega
          obtain ⟨qn, rfl⟩ : ∃ qn : Nat, q = (qn : Int) := ⟨q.toNat, by omega⟩
          have hqm : qn ≤ mm := by omega
          have hDc := (HDA.out.keep HKX.out).kp HKC.out (fun i _ c e => c.2 e)
          have hbt := hDc.1.fore hqm
          have htl : (xd.take qn).length = qn := by rw [List.length_take]; omega
          have hgx : ga < wX.heap.size := (Array.getElem?_eq_some_iff.1 hXb).1
          have hszc := HKC.out.size
          have hCp : Calls Try.prog 11 #[.slice bo qn cc] wc.drew fun e w2 => e = .returned (.slice (some ⟨wc.heap.size, 0, none⟩) qn qn) ∧ Kp Noone wc.drew w2 ∧ DataP (fun i => (P i ∧ (i < w.heap.size ∨ wB.heap.size ≤ i)) ∧ ¬ A i) w2 (some ⟨wc.heap.size, 0, none⟩) qn qn (xd.take qn) := by
            refine (copy_exact bo qn cc (xd.take qn) wc.drew (hbt.keep ((Kp.refl _ _).drew)) (by omega)).mono ?_
            rintro e w8 ⟨he, hw8⟩
            obtain ⟨hbc, kw⟩ := copied2 hw8 htl (by unfold maxLen; omega)
            refine ⟨he, kw, ?_⟩
            have hcp := (congrArg (fun x => x.heap[wc.heap.size]?) hw8).trans (heap_alloc_new wc.drew _)
            have h1 := (Array.getElem?_eq_some_iff.1 hcp).1
            have hb := hbd.out
            exact (show DataP (fun i => i = wc.heap.size) w8 (some ⟨wc.heap.size, 0, none⟩) qn qn (xd.take qn) from ⟨hbc, fun _ a ha => by cases ha; exact ⟨rfl, h1⟩⟩).mono (fun i _ e => by
              subst e
              exact ⟨⟨HP.out _ (by omega), Or.inr (by omega)⟩, fun c => by have := hga1 _ c; omega⟩)
          have hcs : ∀ w', Kp A wc w' → (w'.cell? ⟨go, 0, none⟩ = some (.slice (some ⟨b, off, none⟩) n cap1) ∧ w'.cell? ⟨ga, 0, none⟩ = some (.string nm) ∧ w'.cell? ⟨ga, 1, none⟩ = some (.slice bo mm cc)) := fun w' k => by
            obtain ⟨y0, y1, y2, -⟩ := cells_three (k.heap hxbc (hAX _ (Or.inr (Nat.le_refl _))))
            exact ⟨(cells_five (k.heap hboxc (hAX _ (Or.inl hbd.out.1)))).1.1, y0, y1⟩
          have HGC := Lib.hid hGc
          have g0 := hfr' (off + j * 3)
          have g1 := hfr' (off + j * 3 + 1)
          have hst3 : Hid (crUp room keep L (j + 1) = M.set j (nm, ⟨xd.take qn, (qn : Int)⟩)) := Lib.hid (by rw [hst2.out, Int.toNat_natCast])
          have k0 : Kp A wc wc.drew := (Kp.refl _ _).drew
          have hpl : ∀ w2, Kp Noone wc.drew w2 → w2.cell? ⟨b, off + j * 3, none⟩ = some (.string nm) ∧ w2.cell? ⟨b, off + j * 3 + 1, none⟩ = some (.slice hs[j].1 hs[j].2.1 hs[j].2.2) ∧ w2.cell? ⟨b, off + j * 3 + 2, none⟩ = some (.int .i64 (qn : Int)) ∧
              w2.frozen? ⟨b, off + j * 3, none⟩ = false ∧ w2.frozen? ⟨b, off + j * 3 + 1, none⟩ = false ∧ w2.frozen? ⟨b, off + j * 3 + 2, none⟩ = false := fun w2 k2 => by
            have k3 := ((Kp.refl Noone wc).drew).trans k2
            obtain ⟨_, _, e, -, -, hfr2, hcell2⟩ := (HGC.out.keep k3).place (by omega)
            cases e
            obtain ⟨x0, x1, x2⟩ := hcell2 j (by rw [List.length_set]; exact hjl) hhl
            simp only [List.getElem_set_self] at x0 x2
            exact ⟨x0, x1, x2, hfr2 _, hfr2 _, hfr2 _⟩
          obtain ⟨y0, y1, y2, -⟩ := cells_three hxbc
          clear hGc hcell' hfr' hbc e hst2 hDc hbt hq1 hq2 hqc hcb d0 d1 d2 f2 g0 g1
          have hx0 : (0 : Int) ≤ (qn : Int) := by omega
          have hx1 : (qn : Int) ≤ (cc : Int) := by omega
          have hx2 : qn ≤ cc := by omega
          go_upto_region 11 with fail
          clear y0 y1 y2 q0 q1 q2 q3 q4
          go_region_held3 (fun w' => w'.cell? ⟨go, 0, none⟩ = some (.slice (some ⟨b, off, none⟩) n cap1) ∧ w'.cell? ⟨ga, 0, none⟩ = some (.string nm) ∧ w'.cell? ⟨ga, 1, none⟩ = some (.slice bo mm cc))
            (first | exact hcs _ k0 | exact hcs _ k2 | exact hcs _ (((k2.setCell (fun _ => hAb) _).setCell (fun _ => hAb) _).setCell (fun _ => hAb) _))
            ((go_at_call 11; refine hCp.mono ?_; rintro e w2 ⟨rfl, k1, hd2⟩; have k2 : Kp A wc w2 := k0.trans k1.none; obtain ⟨x0, x1, x2, x3, x4, x5⟩ := hpl _ k1))
          have k3 := ((Kp.refl Noone wc).drew).trans k1
          have hG3 := (HGC.out.keep k3).setAll hAb (k := j) (by rw [List.length_set]; exact hjl) (nm, ⟨xd.take qn, (qn : Int)⟩) _ _ _ hd2
          simp only [List.set_set] at hG3
          have R : Hid (CQ (fun i => P i ∧ (i < w.heap.size ∨ wB.heap.size ≤ i)) wB.heap.size A (some ⟨b, off, none⟩) n cap1 wC (fun j => crUp room keep L j) (.int .i64 ((j + 1 : Nat) : Int)) (((w2.setCell ⟨b, off + j * 3, none⟩ (.string nm)).setCell ⟨b, off + j * 3 + 1, none⟩ (.slice (some ⟨wc.heap.size, 0, none⟩) qn qn)).setCell ⟨b, off + j * 3 + 2, none⟩ (.int .i64 (qn : Int)))) := Lib.hid
            ⟨⟨j + 1, _, rfl, by omega, by
              show RGA _ _ _ _ _ _ _ _ (crUp room keep L (j + 1))
              rw [hst3.out]
              exact hG3, ((((HKR.out.trans HKX.out.none).trans (HKC.out.trans k3.none)).setCell (fun _ => hAb) _).setCell (fun _ => hAb) _).setCell (fun _ => hAb) _⟩⟩
          clear hG3 k3 k0 k1 k2 hd2 hpl hcs hCp x0 x1 x2 x3 x4 x5
          go_wp2_with fail
          go_roundw
          case rel => exact R.out
          case measure => simp [intOf]; omega
    · obtain rfl : j = n := by omega
      have hrr := kr.heap HR8.out (hAn _ (by have := hbd.out; omega))
      have hRA : RA (fun i => P i ∧ i ≠ w.heap.size + 1) wr ao1 j cap1 (crUp room keep L j) := hG.ra (fun i h1 _ => ⟨HP.out i (by have := hbd.out; omega), by have := hbd.out; omega⟩) (fun i _ c => ⟨c.1, by have := hbd.out; have := c.2; omega⟩)
      have hK : Kp Noone w wr := HKW.out.fin kr (fun i c => Or.inr (by have := (HALT.out i c).1; have := hbd.out; omega))
      have hlen := crUp_len room keep L j
      have HRA := Lib.hid hRA
      have HKK := Lib.hid hK
      obtain ⟨⟨q0, q1, q2, q3, q4⟩, -⟩ := cells_five hbox
      clear hG hRA hK kr hrel hbox
      generalize crUp room keep L j = M at *
      rw [hn] at hlen
      subst hlen
      go_wp2_with (refine wpList_store_disk (by dsimp only) (.tmp 4) (.tmp 87) (by dsimp only) (w.heap.size + 1) ao1 cap1 ⟨M, room, steps, 0, false⟩ (by rfl) (by rfl) hrr ?_)
      refine bodyPost_ret (v := rdV ao1 cap1 ⟨M, room, steps, 0, false⟩) (results_cell_row (ty := 56) rfl _ _ (w.heap.size + 1) _ _ _ _ rfl (putD_heap ao1 cap1 ⟨M, room, steps, 0, false⟩ hrr) Try.underlying56 rfl info_disk) rfl ?_
      have hE := HR.out
      subst hE
      exact ⟨ao1, cap1, rfl, (HRA.out.kp (putD_kp _ _ _ _ _) (fun i _ c e => c.2 e)).mono (fun i _ c => c.1), HKK.out.fin (putD_kp _ _ _ _ _) (fun j c => Or.inr (by omega))⟩

end Go.Proofs.Ytmmdojnjognccaa
