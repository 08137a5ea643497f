/-
  THE WALK of the document's Do.
-/
import Derived.Test.YtigdhdclfdojgaaGreatRefDiskB
namespace Go.Proofs.YtigdhdclfdojgaaGreat
open Go.RowKit

def doR (m : RD) (o : OpD) : RD × List UInt8 × Nat :=
  if o.k = 6 then ({ m with fuse := max 0 o.n }, [], 0)
  else if o.k = 7 then (crashR m o.keep, [], 0)
  else if o.k < 0 ∨ 7 < o.k then (m, [], 0)
  else if whyR m o ≠ 0 then (m, [], whyR m o)
  else if o.k = 5 then (m, (get0 o.name m.L).data, 0)
  else if m.fuse = 1 then ({ m with L := (if o.k = 0 then changeL m.L o else m.L), fuse := 0, down := true }, [], 2)
  else ({ m with L := changeL m.L o, steps := m.steps + 1, fuse := max 0 (m.fuse - 1) }, [], 0)
theorem why_ok {m : RD} {o : OpD} (h : whyR m o = 0) (hK : 0 ≤ o.k ∧ o.k ≤ 4) : ChOk m.L o := by
  unfold whyR at h
  split at h
  · cases h
  split at h
  · cases h
  split at h
  · cases h
  rename_i h1 h2 h3
  refine ⟨hK, fun hk hz => h3 ⟨by omega, hz⟩, fun hk => ?_, fun hk => ?_⟩
  · rw [if_neg (by omega), if_neg (by omega), if_pos hk] at h
    split at h
    · cases h
    · rename_i h4
      exact ⟨by omega, by omega⟩
  · rw [if_pos hk] at h
    split at h
    · cases h
    split at h
    · cases h
    · rename_i h4 h5
      omega
theorem why_there {m : RD} {o : OpD} (h : whyR m o = 0) (hK : 0 < o.k) : alGet o.name m.L ≠ none := by
  unfold whyR at h
  split at h
  · cases h
  split at h
  · cases h
  split at h
  · cases h
  rename_i h1 h2 h3
  exact fun hz => h3 ⟨hK, hz⟩
theorem whyR_le (m : RD) (o : OpD) : whyR m o ≤ 43 := by
  unfold whyR
  repeat' split
  all_goals omega

theorem change_at (P : Nat → Prop) (ao : Option Addr) (cap : Nat) (L : Img) (room steps fuse : Int) (down : Bool) (o : OpD) (bo : Option Addr) (bm bc : Nat) (ko : Option Addr) (km kc : Nat) (w : World) (h : RA P w ao L.length cap L) (hP : ∀ j, w.heap.size ≤ j → P j) (hok : ROk ⟨L, room, steps, fuse, down⟩) (hop : OpOk o 1048576) (hb : BS w bo bm bc o.b) (hch : ChOk L o) (L3 : Img) (hL : changeL L o = L3) :
    Calls Tryz.prog 37 #[rdV ao cap ⟨L, room, steps, fuse, down⟩, opV o bo bm bc ko km kc] w fun e w' => ∃ ao' cap', e = .returned (rdV ao' cap' ⟨L3, room, steps, fuse, down⟩) ∧ RA P w' ao' L3.length cap' L3 ∧ Kp Noone w w' := by
  subst hL
  exact change_any P ao cap ⟨L, room, steps, fuse, down⟩ o bo bm bc ko km kc w h hP hok hop hb hch
/-- What Do answers. -/
structure RdTo (P : Nat → Prop) (w : World) (R : RD × List UInt8 × Nat) (e : Ending) (w' : World) : Prop where
  ex : ∃ ao cap xo xc, e = .returned (.tuple #[rdV ao cap R.1, .slice xo R.2.1.length xc, .int .i64 (R.2.2 : Int)]) ∧ RA P w' ao R.1.L.length cap R.1.L ∧ DataP P w' xo R.2.1.length xc R.2.1 ∧ Kp Noone w w'
theorem DataP.nil (P : Nat → Prop) (w : World) (ao : Option Addr) : DataP P w ao 0 0 [] := ⟨⟨rfl, Nat.le_refl _, by simp [maxLen], Row.nil _ _⟩, fun h => absurd rfl h⟩
theorem BS.nil (w : World) (ao : Option Addr) : BS w ao 0 0 [] := ⟨rfl, Nat.le_refl _, by simp [maxLen], Row.nil _ _⟩

attribute [local irreducible] putD

set_option maxHeartbeats 4000000 in
set_option maxRecDepth 100000 in
theorem doR_any (P : Nat → Prop) (ao : Option Addr) (cap : Nat) (m : RD) (o : OpD) (bo : Option Addr) (bm bc : Nat) (ko : Option Addr) (km kc : Nat) (w : World) (h : RA P w ao m.L.length cap m.L) (hP : ∀ j, w.heap.size ≤ j → P j) (hok : ROk m) (hop : OpOk o 1048576) (hb : BS w bo bm bc o.b) (hk : IS w ko km kc o.keep) (hst : m.steps < 4611686018427387904) :
    Calls Tryz.prog 12 #[rdV ao cap m, opV o bo bm bc ko km kc] w fun e w' => RdTo P w (doR m o) e w' := by
  have h64 := hok.len
  have hN := hop.n
  have hst0 := hok.steps
  have hfu := hok.fuse
  obtain ⟨RES, hRES⟩ : ∃ x, Hid (doR m o = x) := ⟨_, Lib.hid rfl⟩
  rw [hRES.out]
  have HR := hRES.out
  unfold doR at HR
  have hwhy := why_any P ao cap m o bo bm bc ko km kc
  obtain ⟨L, room, steps, fuse, down⟩ := m
  obtain ⟨K, nm, tn, b, N, keep⟩ := o
  simp only [] at h hb hk h64 hN HR hst hst0 hfu
  have hA := heap_alloc_new w (.cells #[.slice ao L.length cap, .int .i64 room, .int .i64 steps, .int .i64 fuse, .bool down] 26)
  have eA := alloc_size w (.cells #[.slice ao L.length cap, .int .i64 room, .int .i64 steps, .int .i64 fuse, .bool down] 26)
  have kA : Kp Noone w ((w.alloc (.cells #[.slice ao L.length cap, .int .i64 room, .int .i64 steps, .int .i64 fuse, .bool down] 26)).alloc (.cells #[.int .i64 K, .string nm, .string tn, .slice bo bm bc, .int .i64 N, .slice ko km kc] 50)) := ((Kp.refl _ _).alloc _).alloc _
  have hdA := ((Kp.refl Noone (w.alloc (.cells #[.slice ao L.length cap, .int .i64 room, .int .i64 steps, .int .i64 fuse, .bool down] 26))).alloc (.cells #[.int .i64 K, .string nm, .string tn, .slice bo bm bc, .int .i64 N, .slice ko km kc] 50)).heap hA id
  have hoA := heap_alloc_new (w.alloc (.cells #[.slice ao L.length cap, .int .i64 room, .int .i64 steps, .int .i64 fuse, .bool down] 26)) (.cells #[.int .i64 K, .string nm, .string tn, .slice bo bm bc, .int .i64 N, .slice ko km kc] 50)
  have eB := alloc_size (w.alloc (.cells #[.slice ao L.length cap, .int .i64 room, .int .i64 steps, .int .i64 fuse, .bool down] 26)) (.cells #[.int .i64 K, .string nm, .string tn, .slice bo bm bc, .int .i64 N, .slice ko km kc] 50)
  rw [eA] at hoA eB
  unfold rdV rdC opV
  go_enter Tryz.func12, Tryz.ntmps12
  go_upto_region 1 with fail
  generalize (w.alloc (.cells #[.slice ao L.length cap, .int .i64 room, .int .i64 steps, .int .i64 fuse, .bool down] 26)).alloc (.cells #[.int .i64 K, .string nm, .string tn, .slice bo bm bc, .int .i64 N, .slice ko km kc] 50) = wA at *
  have hrB := heap_alloc_new wA (.cells #[.slice none 0 0, .int .i64 0, .int .i64 0, .int .i64 0, .bool false] 26)
  have kB : Kp Noone wA (wA.alloc (.cells #[.slice none 0 0, .int .i64 0, .int .i64 0, .int .i64 0, .bool false] 26)) := (Kp.refl _ _).alloc _
  have esB := alloc_size wA (.cells #[.slice none 0 0, .int .i64 0, .int .i64 0, .int .i64 0, .bool false] 26)
  rw [eB] at hrB esB
  have hdB := kB.heap hdA id
  have hoB := kB.heap hoA id
  have KB := kA.trans kB
  generalize wA.alloc (.cells #[.slice none 0 0, .int .i64 0, .int .i64 0, .int .i64 0, .bool false] 26) = wB at *
  generalize hgr : w.heap.size + 1 + 1 = gr at *
  have hgd1 : w.heap.size ≠ gr ∧ w.heap.size + 1 ≠ gr ∧ w.heap.size < gr ∧ w.heap.size + 1 < gr := by omega
  have HL := Lib.hid ((h.mono (Q := fun i => P i ∧ i ≠ w.heap.size ∧ i ≠ gr) (fun i hi c => ⟨c, by omega, by omega⟩)).keep KB)
  have HBB := Lib.hid ((hb.dataP (P := fun j => j < w.heap.size) (fun _ h => h)).keep KB)
  have HKE := Lib.hid (hk.keep KB)
  have HKW := Lib.hid KB
  have HP := Lib.hid hP
  have HRR := Lib.hid HR
  have HWH := Lib.hid hwhy
  have HOK := Lib.hid hok
  have HOP := Lib.hid hop
  clear h hb hk hA eA kA hdA hoA eB kB KB hP HR hRES hwhy hok hop
  obtain ⟨⟨q0, q1, q2, q3, q4⟩, qf⟩ := cells_five hdB
  obtain ⟨z0, z1, z2, z3, z4, z5⟩ := cells_six hoB
  have qf3 := qf 3
  by_cases c6 : K = 6
  · subst c6
    have hE := HRR.out
    rw [if_pos rfl] at hE
    have k1 : Kp (fun i => i = w.heap.size) wB (wB.setCell ⟨w.heap.size, 3, none⟩ (.int .i64 N)) := (Kp.refl (fun i => i = w.heap.size) wB).setCell (fun _ => rfl) _
    have hd1 : (wB.setCell ⟨w.heap.size, 3, none⟩ (.int .i64 N)).heap[w.heap.size]? = some (.cells #[.slice ao L.length cap, .int .i64 room, .int .i64 steps, .int .i64 N, .bool down] 26 (0, 0)) := (heap_set_cell hdB).trans (by simp)
    have ho1 := k1.heap hoB (by omega)
    have hr1 := k1.heap hrB (by omega)
    have HL1 := Lib.hid (HL.out.kp k1 (fun j _ c e => c.2.1 e))
    have HK1 : Hid (Kp Noone w (wB.setCell ⟨w.heap.size, 3, none⟩ (.int .i64 N))) := Lib.hid (HKW.out.fin k1 (fun j c => Or.inr (by omega)))
    have HE := Lib.hid hE
    clear hE k1 HRR HWH
    go_upto_region 3 with fail
    clear q0 q1 q2 q3 q4 z0 z1 z2 z3 z4 z5 qf3 qf hdB hoB hrB HL HKW
    generalize wB.setCell ⟨w.heap.size, 3, none⟩ (.int .i64 N) = w1 at *
    obtain ⟨⟨q0, q1, q2, q3, q4⟩, qf⟩ := cells_five hd1
    obtain ⟨z0, z1, z2, z3, z4, z5⟩ := cells_six ho1
    have qf3 := qf 3
    by_cases h0 : N < 0
    · have k2 : Kp (fun i => i = w.heap.size) w1 (w1.setCell ⟨w.heap.size, 3, none⟩ (.int .i64 0)) := (Kp.refl (fun i => i = w.heap.size) w1).setCell (fun _ => rfl) _
      have hd2 : (w1.setCell ⟨w.heap.size, 3, none⟩ (.int .i64 0)).heap[w.heap.size]? = some (.cells #[.slice ao L.length cap, .int .i64 room, .int .i64 steps, .int .i64 0, .bool down] 26 (0, 0)) := (heap_set_cell hd1).trans (by simp)
      have hr2 := k2.heap hr1 (by omega)
      have HL2 := Lib.hid (HL1.out.kp k2 (fun j _ c e => c.2.1 e))
      have HK2 : Hid (Kp Noone w (w1.setCell ⟨w.heap.size, 3, none⟩ (.int .i64 0))) := Lib.hid (HK1.out.fin k2 (fun j c => Or.inr (by omega)))
      have hmx : max 0 N = 0 := by omega
      have hE := HE.out
      rw [hmx] at hE
      have HE := Lib.hid hE
      clear hE hmx k2
      go_upto_region 5 with fail
      clear q0 q1 q2 q3 q4 z0 z1 z2 z3 z4 z5 qf3 qf hd1 ho1 hr1
      generalize w1.setCell ⟨w.heap.size, 3, none⟩ (.int .i64 0) = w2 at *
      obtain ⟨⟨q0, q1, q2, q3, q4⟩, qf⟩ := cells_five hd2
      go_wp2_with (refine wpList_store_disk (by dsimp only) (.tmp 4) (.tmp 18) (by dsimp only) gr ao cap ⟨L, room, steps, 0, down⟩ (by rfl) (by rfl) hr2 ?_)
      refine bodyPost_ret (v := .tuple #[rdV ao cap ⟨L, room, steps, 0, down⟩, .slice none 0 0, .int .i64 0]) (by rw [results_disk_tmp2 rfl _ _ gr _ rfl (putD_heap ao cap ⟨L, room, steps, 0, down⟩ hr2) rfl]; rfl) rfl ?_
      have hE := HE.out
      subst hE
      exact ⟨⟨ao, cap, none, 0, rfl, (HL2.out.kp (putD_kp _ _ _ _ _) (fun i _ c e => c.2.2 e)).mono (fun i _ c => c.1), DataP.nil _ _ _, HK2.out.fin (putD_kp _ _ _ _ _) (fun j c => Or.inr (by omega))⟩⟩
    · have hmx : max 0 N = N := by omega
      have hE := HE.out
      rw [hmx] at hE
      have HE := Lib.hid hE
      clear hE hmx
      go_wp2_with (refine wpList_store_disk (by dsimp only) (.tmp 4) (.tmp 18) (by dsimp only) gr ao cap ⟨L, room, steps, N, down⟩ (by rfl) (by rfl) hr1 ?_)
      refine bodyPost_ret (v := .tuple #[rdV ao cap ⟨L, room, steps, N, down⟩, .slice none 0 0, .int .i64 0]) (by rw [results_disk_tmp2 rfl _ _ gr _ rfl (putD_heap ao cap ⟨L, room, steps, N, down⟩ hr1) rfl]; rfl) rfl ?_
      have hE := HE.out
      subst hE
      exact ⟨⟨ao, cap, none, 0, rfl, (HL1.out.kp (putD_kp _ _ _ _ _) (fun i _ c e => c.2.2 e)).mono (fun i _ c => c.1), DataP.nil _ _ _, HK1.out.fin (putD_kp _ _ _ _ _) (fun j c => Or.inr (by omega))⟩⟩
  · have n6 : (K == 6) = false := by simpa using c6
    have hE6 := HRR.out
    rw [if_neg c6] at hE6
    by_cases c7 : K = 7
    · subst c7
      rw [if_pos rfl] at hE6
      have HE := Lib.hid hE6
      clear hE6 HRR HWH
      go_wp2_with fail
      refine (crashR_any (fun i => P i ∧ i ≠ w.heap.size ∧ i ≠ gr) ao cap ⟨L, room, steps, fuse, down⟩ keep ko km kc wB HL.out (fun j hj => ⟨HP.out j (by omega), by omega, by omega⟩) HKE.out HOK.out).mono ?_
      rintro e w3 ⟨ao', cap', rfl, hra, k3⟩
      have hr3 := k3.heap hrB id
      have HRA := Lib.hid hra
      have HK3 := Lib.hid (HKW.out.trans k3)
      generalize crashR ⟨L, room, steps, fuse, down⟩ keep = M at *
      clear hra k3 q0 q1 q2 q3 q4 z0 z1 z2 z3 z4 z5 qf3 qf
      go_wp2_with (refine wpList_store_disk (by dsimp only) (.tmp 4) (.tmp 25) (by dsimp only) gr ao' cap' M (by rfl) (by rfl) hr3 ?_)
      refine bodyPost_ret (v := .tuple #[rdV ao' cap' M, .slice none 0 0, .int .i64 0]) (by rw [results_disk_tmp2 rfl _ _ gr _ rfl (putD_heap ao' cap' M hr3) rfl]; rfl) rfl ?_
      have hE := HE.out
      subst hE
      exact ⟨⟨ao', cap', none, 0, rfl, (HRA.out.kp (putD_kp _ _ _ _ _) (fun i _ c e => c.2.2 e)).mono (fun i _ c => c.1), DataP.nil _ _ _, HK3.out.fin (putD_kp _ _ _ _ _) (fun j c => Or.inr (by omega))⟩⟩
    · have n7 : (K == 7) = false := by simpa using c7
      rw [if_neg c7] at hE6
      by_cases c8 : K < 0
      · rw [if_pos (Or.inl c8)] at hE6
        have HE := Lib.hid hE6
        clear hE6 HRR HWH
        go_wp2_with (refine wpList_store_disk (by dsimp only) (.tmp 4) (.tmp 34) (by dsimp only) gr ao cap ⟨L, room, steps, fuse, down⟩ (by rfl) (by rfl) hrB ?_)
        refine bodyPost_ret (v := .tuple #[rdV ao cap ⟨L, room, steps, fuse, down⟩, .slice none 0 0, .int .i64 0]) (by rw [results_disk_tmp2 rfl _ _ gr _ rfl (putD_heap ao cap ⟨L, room, steps, fuse, down⟩ hrB) rfl]; rfl) rfl ?_
        have hE := HE.out
        subst hE
        exact ⟨⟨ao, cap, none, 0, rfl, (HL.out.kp (putD_kp _ _ _ _ _) (fun i _ c e => c.2.2 e)).mono (fun i _ c => c.1), DataP.nil _ _ _, HKW.out.fin (putD_kp _ _ _ _ _) (fun j c => Or.inr (by omega))⟩⟩
      · by_cases c9 : K > 7
        · rw [if_pos (Or.inr c9)] at hE6
          have HE := Lib.hid hE6
          clear hE6 HRR HWH
          go_wp2_with (refine wpList_store_disk (by dsimp only) (.tmp 4) (.tmp 34) (by dsimp only) gr ao cap ⟨L, room, steps, fuse, down⟩ (by rfl) (by rfl) hrB ?_)
          refine bodyPost_ret (v := .tuple #[rdV ao cap ⟨L, room, steps, fuse, down⟩, .slice none 0 0, .int .i64 0]) (by rw [results_disk_tmp2 rfl _ _ gr _ rfl (putD_heap ao cap ⟨L, room, steps, fuse, down⟩ hrB) rfl]; rfl) rfl ?_
          have hE := HE.out
          subst hE
          exact ⟨⟨ao, cap, none, 0, rfl, (HL.out.kp (putD_kp _ _ _ _ _) (fun i _ c e => c.2.2 e)).mono (fun i _ c => c.1), DataP.nil _ _ _, HKW.out.fin (putD_kp _ _ _ _ _) (fun j c => Or.inr (by omega))⟩⟩
        · rw [if_neg (by omega)] at hE6
          have hwl := whyR_le ⟨L, room, steps, fuse, down⟩ ⟨K, nm, tn, b, N, keep⟩
          have hch : Hid (whyR ⟨L, room, steps, fuse, down⟩ ⟨K, nm, tn, b, N, keep⟩ = 0 → K ≤ 4 → ChOk L ⟨K, nm, tn, b, N, keep⟩) := Lib.hid (fun h h4 => why_ok h ⟨by show 0 ≤ K; omega, h4⟩)
          have hth : Hid (whyR ⟨L, room, steps, fuse, down⟩ ⟨K, nm, tn, b, N, keep⟩ = 0 → 0 < K → alGet nm L ≠ none) := Lib.hid (fun h h4 => why_there h h4)
          have hwy := HWH.out wB (HL.out.mono (fun _ _ c => c.1)) HOK.out HOP.out HBB.out.1.len ⟨by show 0 ≤ K; omega, by show K ≤ 5; omega⟩
          generalize whyR ⟨L, room, steps, fuse, down⟩ ⟨K, nm, tn, b, N, keep⟩ = wy at *
          have HE6 := Lib.hid hE6
          clear hE6 HRR HWH
          go_wp2_with fail
          refine hwy.mono ?_
          clear hwy
          rintro e w2 ⟨rfl, k2⟩
          have hd2 := k2.heap hdB id
          have ho2 := k2.heap hoB id
          have hr2 := k2.heap hrB id
          have HL2 := Lib.hid (HL.out.keep k2)
          have HB2 := Lib.hid (HBB.out.keep k2)
          have HK2 := Lib.hid (HKW.out.trans k2)
          clear q0 q1 q2 q3 q4 z0 z1 z2 z3 z4 z5 qf3 qf hdB hoB hrB HL HKW HBB HKE k2
          obtain ⟨⟨q0, q1, q2, q3, q4⟩, qf⟩ := cells_five hd2
          obtain ⟨z0, z1, z2, z3, z4, z5⟩ := cells_six ho2
          have qf2 := qf 2
          have qf3 := qf 3
          have qf4 := qf 4
          by_cases hz : wy = 0
          · subst hz
            have hE := HE6.out
            rw [if_neg (by simp)] at hE
            by_cases c5 : K = 5
            · subst c5
              rw [if_pos rfl] at hE
              obtain ⟨i, hi', hat, -, hget⟩ := atL_some (hth.out rfl (by omega))
              obtain ⟨gb, off, xo, xm, xc, rfl, hgl, hPg, -, c1, -, hda⟩ := HL2.out.get i hi'
              have hD : (get0 nm L).data = L[i].2.data := by unfold get0; rw [hget]; rfl
              have hfit := (HOK.out.fit _ (List.getElem_mem hi')).2.2
              rw [hD] at hE
              generalize L[i].2.data = d at *
              have hxm : d.length = xm := hda.1.len
              have k0 : Kp Noone w2 w2.drew := (Kp.refl _ _).drew
              have hAt := at_ref _ (some ⟨gb, off, none⟩) L.length cap L room steps fuse down nm w2.drew (HL2.out.keep k0) (by omega)
              rw [hat] at hAt
              have hC : ∀ w3, Kp Noone w2 w3 → Calls Tryz.prog 26 #[.slice xo xm xc] w3 fun e w4 => e = .returned (.slice (some ⟨w3.heap.size, 0, none⟩) xm xm) ∧ Kp Noone w3 w4 ∧ BS w4 (some ⟨w3.heap.size, 0, none⟩) xm xm d := fun w3 k3 => by
                refine (copy_exact xo xm xc d w3 (hda.1.keep k3) (by omega)).mono ?_
                rintro e w8 ⟨he, hw8⟩
                obtain ⟨hbc, kw⟩ := copied2 hw8 hxm (by unfold maxLen; omega)
                exact ⟨he, kw, hbc⟩
              have hcs : ∀ w', Kp (fun j => j = gr) w2 w' → ((w'.cell? ⟨w.heap.size, 0, none⟩ = some (.slice (some ⟨gb, off, none⟩) L.length cap) ∧ w'.cell? ⟨w.heap.size, 1, none⟩ = some (.int .i64 room) ∧ w'.cell? ⟨w.heap.size, 2, none⟩ = some (.int .i64 steps) ∧ w'.cell? ⟨w.heap.size, 3, none⟩ = some (.int .i64 fuse) ∧ w'.cell? ⟨w.heap.size, 4, none⟩ = some (.bool down)) ∧ w'.cell? ⟨w.heap.size + 1, 1, none⟩ = some (.string nm) ∧ w'.cell? ⟨gb, off + i * 3 + 1, none⟩ = some (.slice xo xm xc)) := fun w' k => ⟨(cells_five (k.heap hd2 (by omega))).1, (cells_six (k.heap ho2 (by omega))).2.1, k.cell c1 (fun e => hPg.2.2 e)⟩
              have hgc : ∀ w', Kp Noone w2 w' → w'.heap[gr]? = some (.cells #[.slice none 0 0, .int .i64 0, .int .i64 0, .int .i64 0, .bool false] 26 (0, 0)) := fun w' k => k.heap hr2 id
              have HE := Lib.hid hE
              have hin : i < L.length := hi'
              clear hE hch hth HE6 hget hD hfit hat
              have hgr2 := (Array.getElem?_eq_some_iff.1 hr2).1
              go_upto_region 14 with fail
              clear q0 q1 q2 q3 q4 qf qf2 qf3 qf4 z0 z1 z2 z3 z4 z5 hd2 ho2 hr2 c1
              go_region_held3 (fun w' => (w'.cell? ⟨w.heap.size, 0, none⟩ = some (.slice (some ⟨gb, off, none⟩) L.length cap) ∧ w'.cell? ⟨w.heap.size, 1, none⟩ = some (.int .i64 room) ∧ w'.cell? ⟨w.heap.size, 2, none⟩ = some (.int .i64 steps) ∧ w'.cell? ⟨w.heap.size, 3, none⟩ = some (.int .i64 fuse) ∧ w'.cell? ⟨w.heap.size, 4, none⟩ = some (.bool down)) ∧ w'.cell? ⟨w.heap.size + 1, 1, none⟩ = some (.string nm) ∧ w'.cell? ⟨gb, off + i * 3 + 1, none⟩ = some (.slice xo xm xc))
                (first | exact hcs _ k0.none | exact hcs _ k4.none | exact hcs _ k6.none | exact hcs _ (set5_kpS (k6.none (S := fun j => j = gr)) (g := gr) rfl _ _ _ _ _))
                (first
                  | (go_at_call 24; refine hAt.mono ?_; rintro e w3 ⟨rfl, k3⟩; have k4 : Kp Noone w2 w3 := k0.trans k3)
                  | (go_at_call 26; refine (hC _ k4).mono ?_; rintro e w4 ⟨rfl, k5, hbs⟩; have k6 : Kp Noone w2 w4 := k4.trans k5; obtain ⟨⟨y0, y1, y2, y3, y4⟩, yf⟩ := cells_five (hgc _ k6); have yf0 := yf 0; have yf1 := yf 1; have yf2 := yf 2; have yf3 := yf 3; have yf4 := yf 4))
              have hg5 := set5_heap (hgc _ k6) (.slice (some ⟨gb, off, none⟩) L.length cap) (.int .i64 room) (.int .i64 steps) (.int .i64 fuse) (.bool down)
              have k7 := set5_kpS (Kp.refl (fun j => j = gr) w4) (g := gr) rfl (.slice (some ⟨gb, off, none⟩) L.length cap) (.int .i64 room) (.int .i64 steps) (.int .i64 fuse) (.bool down)
              have hs3 := k4.size
              have hb7 := (show DataP (fun j => P j ∧ j ≠ gr) w4 (some ⟨w3.heap.size, 0, none⟩) xm xm d from ⟨hbs, fun hx a ha => ⟨by cases ha; exact ⟨HP.out _ (by have := HK2.out.size; show w.heap.size ≤ w3.heap.size; omega), by show w3.heap.size ≠ gr; omega⟩, ((hbs.dataP (P := fun _ => True) (fun _ _ => trivial)).2 hx a ha).2⟩⟩).kp k7 (fun j _ c e => c.2 e)
              have hl7 := (HL2.out.keep k6).kp k7 (fun j _ c e => c.2.2 e)
              have hk7 : Kp Noone w _ := (HK2.out.trans k6).fin k7 (fun j c => Or.inr (by omega))
              have HB7 := Lib.hid hb7
              have HL7 := Lib.hid hl7
              have HK7 := Lib.hid hk7
              have HG5 := Lib.hid hg5
              clear hb7 hl7 hk7 k7 hg5 hgc hcs hAt hC k0 k3 k4 k5 k6 hbs hda
              go_wp2_with fail
              refine bodyPost_ret (v := .tuple #[rdV (some ⟨gb, off, none⟩) cap ⟨L, room, steps, fuse, down⟩, .slice (some ⟨w3.heap.size, 0, none⟩) xm xm, .int .i64 0]) (by rw [results_disk_tmp2 rfl _ _ gr _ rfl HG5.out rfl]; rfl) rfl ?_
              have hE := HE.out
              subst hE
              exact ⟨⟨_, _, _, _, by rw [show d.length = xm from hxm]; rfl, HL7.out.mono (fun i _ c => c.1), by rw [show d.length = xm from hxm]; exact HB7.out.mono (fun i _ c => c.1), HK7.out⟩⟩
            · have n5 : (K == 5) = false := by simpa using c5
              rw [if_neg c5] at hE
              have hch2 := hch.out rfl (by omega)
              by_cases hf : fuse = 1
              · subst hf
                rw [if_pos rfl] at hE
                by_cases c0 : K = 0
                · subst c0
                  rw [if_pos rfl] at hE
                  obtain ⟨L3, hL3⟩ : ∃ x, changeL L ⟨0, nm, tn, b, N, keep⟩ = x := ⟨_, rfl⟩
                  have hcc := change_at (fun i => P i ∧ i ≠ w.heap.size ∧ i ≠ gr) ao cap L room steps 1 down ⟨0, nm, tn, b, N, keep⟩ bo bm bc ko km kc w2 HL2.out (fun j hj => ⟨HP.out j (by have := HK2.out.size; omega), by have := HK2.out.size; have := (Array.getElem?_eq_some_iff.1 hr2).1; omega, by have := (Array.getElem?_eq_some_iff.1 hr2).1; omega⟩) HOK.out HOP.out HB2.out.1 hch2 L3 hL3
                  rw [hL3] at hE
                  clear hL3
                  have HE := Lib.hid hE
                  clear hE hch hch2 hth HE6
                  go_wp2_with fail
                  refine hcc.mono ?_
                  clear hcc
                  rintro e w3 ⟨ao', cap', rfl, hra, k3⟩
                  have hd3 := k3.heap hd2 id
                  have hr3 := k3.heap hr2 id
                  have hd4 := putD_heap ao' cap' ⟨L3, room, steps, 1, down⟩ hd3
                  have k4 := putD_kp w3 w.heap.size ao' cap' ⟨L3, room, steps, 1, down⟩
                  have hr4 := k4.heap hr3 (by omega)
                  have HRA := Lib.hid (hra.kp k4 (fun j _ c e => c.2.1 e))
                  have HK4 := Lib.hid ((HK2.out.trans k3).fin k4 (fun j c => Or.inr (by omega)))
                  clear hra k3 k4 q0 q1 q2 q3 q4 z0 z1 z2 z3 z4 z5 qf2 qf3 qf4 qf hd2 ho2 hr2
                  go_upto_region 18 with (refine wpList_store_disk (by dsimp only) (.tmp 2) (.tmp 64) (by dsimp only) w.heap.size ao' cap' ⟨L3, room, steps, 1, down⟩ (by rfl) (by rfl) hd3 ?_)
                  unfold rdC at hd4
                  generalize putD w3 w.heap.size ao' cap' ⟨L3, room, steps, 1, down⟩ = w4 at *
                  clear hd3 hr3
                  obtain ⟨⟨q0, q1, q2, q3, q4⟩, qf⟩ := cells_five hd4
                  have qf3 := qf 3
                  have kS : Kp (fun i => i = w.heap.size) w4 (w4.setCell ⟨w.heap.size, 3, none⟩ (.int .i64 0)) := (Kp.refl (fun i => i = w.heap.size) w4).setCell (fun _ => rfl) _
                  have w5d : (w4.setCell ⟨w.heap.size, 3, none⟩ (.int .i64 0)).heap[w.heap.size]? = some (.cells #[.slice ao' L3.length cap', .int .i64 room, .int .i64 steps, .int .i64 0, .bool down] 26 (0, 0)) := (heap_set_cell hd4).trans (by simp)
                  have w5r := kS.heap hr4 (by omega)
                  have w5A := Lib.hid (HRA.out.kp kS (fun j _ c e => c.2.1 e))
                  have w5K : Hid (Kp Noone w (w4.setCell ⟨w.heap.size, 3, none⟩ (.int .i64 0))) := Lib.hid (HK4.out.fin kS (fun j c => Or.inr (by omega)))
                  clear kS 
                  go_upto_region 19 with fail
                  generalize w4.setCell ⟨w.heap.size, 3, none⟩ (.int .i64 0) = w5 at *
                  clear q0 q1 q2 q3 q4 qf qf3 hd4 hr4
                  obtain ⟨⟨q0, q1, q2, q3, q4⟩, qf⟩ := cells_five w5d
                  have qf4 := qf 4
                  have kS : Kp (fun i => i = w.heap.size) w5 (w5.setCell ⟨w.heap.size, 4, none⟩ (.bool true)) := (Kp.refl (fun i => i = w.heap.size) w5).setCell (fun _ => rfl) _
                  have w6d : (w5.setCell ⟨w.heap.size, 4, none⟩ (.bool true)).heap[w.heap.size]? = some (.cells #[.slice ao' L3.length cap', .int .i64 room, .int .i64 steps, .int .i64 0, .bool true] 26 (0, 0)) := (heap_set_cell w5d).trans (by simp)
                  have w6r := kS.heap w5r (by omega)
                  have w6A := Lib.hid (w5A.out.kp kS (fun j _ c e => c.2.1 e))
                  have w6K : Hid (Kp Noone w (w5.setCell ⟨w.heap.size, 4, none⟩ (.bool true))) := Lib.hid (w5K.out.fin kS (fun j c => Or.inr (by omega)))
                  clear kS 
                  go_upto_region 20 with fail
                  generalize w5.setCell ⟨w.heap.size, 4, none⟩ (.bool true) = w6 at *
                  clear q0 q1 q2 q3 q4 qf qf4 w5d w5r
                  obtain ⟨⟨q0, q1, q2, q3, q4⟩, qf⟩ := cells_five w6d
                  go_wp2_with (refine wpList_store_disk (by dsimp only) (.tmp 4) (.tmp 67) (by dsimp only) gr ao' cap' ⟨L3, room, steps, 0, true⟩ (by rfl) (by rfl) w6r ?_)
                  refine bodyPost_ret (v := .tuple #[rdV ao' cap' ⟨L3, room, steps, 0, true⟩, .slice none 0 0, .int .i64 2]) (by rw [results_disk_tmp2 rfl _ _ gr _ rfl (putD_heap ao' cap' ⟨L3, room, steps, 0, true⟩ w6r) rfl]; rfl) rfl ?_
                  have hE := HE.out
                  subst hE
                  exact ⟨⟨ao', cap', none, 0, rfl, (w6A.out.kp (putD_kp _ _ _ _ _) (fun i _ c e => c.2.2 e)).mono (fun i _ c => c.1), DataP.nil _ _ _, w6K.out.fin (putD_kp _ _ _ _ _) (fun j c => Or.inr (by omega))⟩⟩
                · have n0 : (K == 0) = false := by simpa using c0
                  rw [if_neg c0] at hE
                  have HE := Lib.hid hE
                  clear hE hch hch2 hth HE6
                  go_upto_region 18 with fail
                  have kS : Kp (fun i => i = w.heap.size) w2 (w2.setCell ⟨w.heap.size, 3, none⟩ (.int .i64 0)) := (Kp.refl (fun i => i = w.heap.size) w2).setCell (fun _ => rfl) _
                  have w5d : (w2.setCell ⟨w.heap.size, 3, none⟩ (.int .i64 0)).heap[w.heap.size]? = some (.cells #[.slice ao L.length cap, .int .i64 room, .int .i64 steps, .int .i64 0, .bool down] 26 (0, 0)) := (heap_set_cell hd2).trans (by simp)
                  have w5r := kS.heap hr2 (by omega)
                  have w5A := Lib.hid (HL2.out.kp kS (fun j _ c e => c.2.1 e))
                  have w5K : Hid (Kp Noone w (w2.setCell ⟨w.heap.size, 3, none⟩ (.int .i64 0))) := Lib.hid (HK2.out.fin kS (fun j c => Or.inr (by omega)))
                  clear kS 
                  go_upto_region 19 with fail
                  generalize w2.setCell ⟨w.heap.size, 3, none⟩ (.int .i64 0) = w5 at *
                  clear q0 q1 q2 q3 q4 qf qf2 qf3 qf4 hd2 hr2 z0 z1 z2 z3 z4 z5 ho2
                  obtain ⟨⟨q0, q1, q2, q3, q4⟩, qf⟩ := cells_five w5d
                  have qf4 := qf 4
                  have kS : Kp (fun i => i = w.heap.size) w5 (w5.setCell ⟨w.heap.size, 4, none⟩ (.bool true)) := (Kp.refl (fun i => i = w.heap.size) w5).setCell (fun _ => rfl) _
                  have w6d : (w5.setCell ⟨w.heap.size, 4, none⟩ (.bool true)).heap[w.heap.size]? = some (.cells #[.slice ao L.length cap, .int .i64 room, .int .i64 steps, .int .i64 0, .bool true] 26 (0, 0)) := (heap_set_cell w5d).trans (by simp)
                  have w6r := kS.heap w5r (by omega)
                  have w6A := Lib.hid (w5A.out.kp kS (fun j _ c e => c.2.1 e))
                  have w6K : Hid (Kp Noone w (w5.setCell ⟨w.heap.size, 4, none⟩ (.bool true))) := Lib.hid (w5K.out.fin kS (fun j c => Or.inr (by omega)))
                  clear kS 
                  go_upto_region 20 with fail
                  generalize w5.setCell ⟨w.heap.size, 4, none⟩ (.bool true) = w6 at *
                  clear q0 q1 q2 q3 q4 qf qf4 w5d w5r
                  obtain ⟨⟨q0, q1, q2, q3, q4⟩, qf⟩ := cells_five w6d
                  go_wp2_with (refine wpList_store_disk (by dsimp only) (.tmp 4) (.tmp 67) (by dsimp only) gr ao cap ⟨L, room, steps, 0, true⟩ (by rfl) (by rfl) w6r ?_)
                  refine bodyPost_ret (v := .tuple #[rdV ao cap ⟨L, room, steps, 0, true⟩, .slice none 0 0, .int .i64 2]) (by rw [results_disk_tmp2 rfl _ _ gr _ rfl (putD_heap ao cap ⟨L, room, steps, 0, true⟩ w6r) rfl]; rfl) rfl ?_
                  have hE := HE.out
                  subst hE
                  exact ⟨⟨ao, cap, none, 0, rfl, (w6A.out.kp (putD_kp _ _ _ _ _) (fun i _ c e => c.2.2 e)).mono (fun i _ c => c.1), DataP.nil _ _ _, w6K.out.fin (putD_kp _ _ _ _ _) (fun j c => Or.inr (by omega))⟩⟩
              · have nf : (fuse == 1) = false := by simpa using hf
                rw [if_neg hf] at hE
                have hw1 : IntKind.i64.wrap (fuse - 1) = fuse - 1 := IntWalk.i64_in _ (by omega)
                have hw2 : IntKind.i64.wrap (steps + 1) = steps + 1 := IntWalk.i64_in _ (by omega)
                obtain ⟨L3, hL3⟩ : ∃ x, changeL L ⟨K, nm, tn, b, N, keep⟩ = x := ⟨_, rfl⟩
                rw [hL3] at hE
                by_cases hf1 : fuse > 1
                · rw [show max 0 (fuse - 1) = fuse - 1 by omega] at hE
                  have HE := Lib.hid hE
                  clear hE hch hth HE6
                  go_upto_region 22 with fail
                  have w5B : Hid (DataP (fun j => j < w.heap.size) (w2.setCell ⟨w.heap.size, 3, none⟩ (.int .i64 (fuse - 1))) bo bm bc b) := Lib.hid (HB2.out.kp ((Kp.refl (fun i => i = w.heap.size) w2).setCell (fun _ => rfl) _) (fun j _ c e => by have e1 : j = w.heap.size := e; have c1 : j < w.heap.size := c; omega))
                  have kS : Kp (fun i => i = w.heap.size) w2 (w2.setCell ⟨w.heap.size, 3, none⟩ (.int .i64 (fuse - 1))) := (Kp.refl (fun i => i = w.heap.size) w2).setCell (fun _ => rfl) _
                  have w5d : (w2.setCell ⟨w.heap.size, 3, none⟩ (.int .i64 (fuse - 1))).heap[w.heap.size]? = some (.cells #[.slice ao L.length cap, .int .i64 room, .int .i64 steps, .int .i64 (fuse - 1), .bool down] 26 (0, 0)) := (heap_set_cell hd2).trans (by simp)
                  have w5r := kS.heap hr2 (by omega)
                  have w5o := kS.heap ho2 (by omega)
                  have w5A := Lib.hid (HL2.out.kp kS (fun j _ c e => c.2.1 e))
                  have w5K : Hid (Kp Noone w (w2.setCell ⟨w.heap.size, 3, none⟩ (.int .i64 (fuse - 1)))) := Lib.hid (HK2.out.fin kS (fun j c => Or.inr (by omega)))
                  clear kS 
                  go_upto_region 23 with fail
                  generalize w2.setCell ⟨w.heap.size, 3, none⟩ (.int .i64 (fuse - 1)) = w5 at *
                  clear q0 q1 q2 q3 q4 qf qf2 qf3 qf4 hd2 hr2 z0 z1 z2 z3 z4 z5 ho2
                  obtain ⟨⟨q0, q1, q2, q3, q4⟩, qf⟩ := cells_five w5d
                  obtain ⟨z0, z1, z2, z3, z4, z5⟩ := cells_six w5o
                  have qf2 := qf 2
                  have w6B : Hid (DataP (fun j => j < w.heap.size) (w5.setCell ⟨w.heap.size, 2, none⟩ (.int .i64 (steps + 1))) bo bm bc b) := Lib.hid (w5B.out.kp ((Kp.refl (fun i => i = w.heap.size) w5).setCell (fun _ => rfl) _) (fun j _ c e => by have e1 : j = w.heap.size := e; have c1 : j < w.heap.size := c; omega))
                  have kS : Kp (fun i => i = w.heap.size) w5 (w5.setCell ⟨w.heap.size, 2, none⟩ (.int .i64 (steps + 1))) := (Kp.refl (fun i => i = w.heap.size) w5).setCell (fun _ => rfl) _
                  have w6d : (w5.setCell ⟨w.heap.size, 2, none⟩ (.int .i64 (steps + 1))).heap[w.heap.size]? = some (.cells #[.slice ao L.length cap, .int .i64 room, .int .i64 (steps + 1), .int .i64 (fuse - 1), .bool down] 26 (0, 0)) := (heap_set_cell w5d).trans (by simp)
                  have w6r := kS.heap w5r (by omega)
                  have w6o := kS.heap w5o (by omega)
                  have w6A := Lib.hid (w5A.out.kp kS (fun j _ c e => c.2.1 e))
                  have w6K : Hid (Kp Noone w (w5.setCell ⟨w.heap.size, 2, none⟩ (.int .i64 (steps + 1)))) := Lib.hid (w5K.out.fin kS (fun j c => Or.inr (by omega)))
                  clear kS 
                  go_upto_region 24 with fail
                  generalize w5.setCell ⟨w.heap.size, 2, none⟩ (.int .i64 (steps + 1)) = w6 at *
                  clear q0 q1 q2 q3 q4 qf qf2 w5d w5r w5o z0 z1 z2 z3 z4 z5
                  obtain ⟨⟨q0, q1, q2, q3, q4⟩, qf⟩ := cells_five w6d
                  obtain ⟨z0, z1, z2, z3, z4, z5⟩ := cells_six w6o
                  have hcc := change_at (fun i => P i ∧ i ≠ w.heap.size ∧ i ≠ gr) ao cap L room (steps + 1) (fuse - 1) down ⟨K, nm, tn, b, N, keep⟩ bo bm bc ko km kc w6 w6A.out (fun j hj => ⟨HP.out j (by have := w6K.out.size; omega), by have := (Array.getElem?_eq_some_iff.1 w6r).1; omega, by have := (Array.getElem?_eq_some_iff.1 w6r).1; omega⟩) ⟨HOK.out.room, HOK.out.len, HOK.out.fit, ⟨by show 0 ≤ steps + 1; omega, by show steps + 1 ≤ _; omega⟩, ⟨by show 0 ≤ (fuse - 1); omega, by show (fuse - 1) ≤ _; omega⟩⟩ HOP.out w6B.out.1 hch2 L3 hL3
                  clear hL3
                  go_wp2_with fail
                  refine hcc.mono ?_
                  clear hcc
                  rintro e w7 ⟨ao', cap', rfl, hra, k7⟩
                  have hr7 := k7.heap w6r id
                  have HRA := Lib.hid hra
                  have HK7 := Lib.hid (w6K.out.trans k7)
                  clear hra k7 q0 q1 q2 q3 q4 qf z0 z1 z2 z3 z4 z5 w6d w6o w6r
                  go_wp2_with (refine wpList_store_disk (by dsimp only) (.tmp 4) (.tmp 81) (by dsimp only) gr ao' cap' ⟨L3, room, steps + 1, (fuse - 1), down⟩ (by rfl) (by rfl) hr7 ?_)
                  refine bodyPost_ret (v := .tuple #[rdV ao' cap' ⟨L3, room, steps + 1, (fuse - 1), down⟩, .slice none 0 0, .int .i64 0]) (by rw [results_disk_tmp2 rfl _ _ gr _ rfl (putD_heap ao' cap' ⟨L3, room, steps + 1, (fuse - 1), down⟩ hr7) rfl]; rfl) rfl ?_
                  have hE := HE.out
                  subst hE
                  exact ⟨⟨ao', cap', none, 0, rfl, (HRA.out.kp (putD_kp _ _ _ _ _) (fun i _ c e => c.2.2 e)).mono (fun i _ c => c.1), DataP.nil _ _ _, HK7.out.fin (putD_kp _ _ _ _ _) (fun j c => Or.inr (by omega))⟩⟩
                · obtain rfl : fuse = 0 := by omega
                  rw [show max (0 : Int) (0 - 1) = 0 by omega] at hE
                  have HE := Lib.hid hE
                  clear hE hch hth HE6
                  go_upto_region 23 with fail
                  have w5d := hd2
                  have w5r := hr2
                  have w5o := ho2
                  have w5A := HL2
                  have w5K := HK2
                  have w6B : Hid (DataP (fun j => j < w.heap.size) (w2.setCell ⟨w.heap.size, 2, none⟩ (.int .i64 (steps + 1))) bo bm bc b) := Lib.hid (HB2.out.kp ((Kp.refl (fun i => i = w.heap.size) w2).setCell (fun _ => rfl) _) (fun j _ c e => by have e1 : j = w.heap.size := e; have c1 : j < w.heap.size := c; omega))
                  clear hd2 hr2 ho2 HL2 HK2 qf3 qf4
                  have kS : Kp (fun i => i = w.heap.size) w2 (w2.setCell ⟨w.heap.size, 2, none⟩ (.int .i64 (steps + 1))) := (Kp.refl (fun i => i = w.heap.size) w2).setCell (fun _ => rfl) _
                  have w6d : (w2.setCell ⟨w.heap.size, 2, none⟩ (.int .i64 (steps + 1))).heap[w.heap.size]? = some (.cells #[.slice ao L.length cap, .int .i64 room, .int .i64 (steps + 1), .int .i64 0, .bool down] 26 (0, 0)) := (heap_set_cell w5d).trans (by simp)
                  have w6r := kS.heap w5r (by omega)
                  have w6o := kS.heap w5o (by omega)
                  have w6A := Lib.hid (w5A.out.kp kS (fun j _ c e => c.2.1 e))
                  have w6K : Hid (Kp Noone w (w2.setCell ⟨w.heap.size, 2, none⟩ (.int .i64 (steps + 1)))) := Lib.hid (w5K.out.fin kS (fun j c => Or.inr (by omega)))
                  clear kS 
                  go_upto_region 24 with fail
                  generalize w2.setCell ⟨w.heap.size, 2, none⟩ (.int .i64 (steps + 1)) = w6 at *
                  clear q0 q1 q2 q3 q4 qf qf2 w5d w5r w5o z0 z1 z2 z3 z4 z5
                  obtain ⟨⟨q0, q1, q2, q3, q4⟩, qf⟩ := cells_five w6d
                  obtain ⟨z0, z1, z2, z3, z4, z5⟩ := cells_six w6o
                  have hcc := change_at (fun i => P i ∧ i ≠ w.heap.size ∧ i ≠ gr) ao cap L room (steps + 1) 0 down ⟨K, nm, tn, b, N, keep⟩ bo bm bc ko km kc w6 w6A.out (fun j hj => ⟨HP.out j (by have := w6K.out.size; omega), by have := (Array.getElem?_eq_some_iff.1 w6r).1; omega, by have := (Array.getElem?_eq_some_iff.1 w6r).1; omega⟩) ⟨HOK.out.room, HOK.out.len, HOK.out.fit, ⟨by show 0 ≤ steps + 1; omega, by show steps + 1 ≤ _; omega⟩, ⟨by show 0 ≤ 0; omega, by show 0 ≤ _; omega⟩⟩ HOP.out w6B.out.1 hch2 L3 hL3
                  clear hL3
                  go_wp2_with fail
                  refine hcc.mono ?_
                  clear hcc
                  rintro e w7 ⟨ao', cap', rfl, hra, k7⟩
                  have hr7 := k7.heap w6r id
                  have HRA := Lib.hid hra
                  have HK7 := Lib.hid (w6K.out.trans k7)
                  clear hra k7 q0 q1 q2 q3 q4 qf z0 z1 z2 z3 z4 z5 w6d w6o w6r
                  go_wp2_with (refine wpList_store_disk (by dsimp only) (.tmp 4) (.tmp 81) (by dsimp only) gr ao' cap' ⟨L3, room, steps + 1, 0, down⟩ (by rfl) (by rfl) hr7 ?_)
                  refine bodyPost_ret (v := .tuple #[rdV ao' cap' ⟨L3, room, steps + 1, 0, down⟩, .slice none 0 0, .int .i64 0]) (by rw [results_disk_tmp2 rfl _ _ gr _ rfl (putD_heap ao' cap' ⟨L3, room, steps + 1, 0, down⟩ hr7) rfl]; rfl) rfl ?_
                  have hE := HE.out
                  subst hE
                  exact ⟨⟨ao', cap', none, 0, rfl, (HRA.out.kp (putD_kp _ _ _ _ _) (fun i _ c e => c.2.2 e)).mono (fun i _ c => c.1), DataP.nil _ _ _, HK7.out.fin (putD_kp _ _ _ _ _) (fun j c => Or.inr (by omega))⟩⟩
          · have hE := HE6.out
            rw [if_pos (by simpa using hz)] at hE
            have HE := Lib.hid hE
            have hne : ¬ (wy : Int) = 0 := by omega
            have hnb : (((wy : Int)) == 0) = false := by simpa using hz
            clear hE hch hth HE6
            go_wp2_with (refine wpList_store_disk (by dsimp only) (.tmp 4) (.tmp 40) (by dsimp only) gr ao cap ⟨L, room, steps, fuse, down⟩ (by rfl) (by rfl) hr2 ?_)
            refine bodyPost_ret (v := .tuple #[rdV ao cap ⟨L, room, steps, fuse, down⟩, .slice none 0 0, .int .i64 (wy : Int)]) (by rw [results_disk_tmp2 rfl _ _ gr _ rfl (putD_heap ao cap ⟨L, room, steps, fuse, down⟩ hr2) rfl]; rfl) rfl ?_
            have hE := HE.out
            subst hE
            exact ⟨⟨ao, cap, none, 0, rfl, (HL2.out.kp (putD_kp _ _ _ _ _) (fun i _ c e => c.2.2 e)).mono (fun i _ c => c.1), DataP.nil _ _ _, HK2.out.fin (putD_kp _ _ _ _ _) (fun j c => Or.inr (by omega))⟩⟩

end Go.Proofs.YtigdhdclfdojgaaGreat
