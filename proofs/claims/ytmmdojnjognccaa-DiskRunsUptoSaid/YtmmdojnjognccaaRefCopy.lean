/-
  THE WALKS of the document's Without and Copy.
-/
import Derived.Test.YtmmdojnjognccaaRefWith
namespace Go.Proofs.Ytmmdojnjognccaa
open Go.RowKit

/-- Between two areas of a list that is made anew. -/
structure OR (P : Nat → Prop) (z n : Nat) (wB : World) (S : Nat → Img) (v o : Value) (wr : World) : Prop where
  ex : ∃ (j : Nat) (ao : Option Addr) (cap : Nat), v = .int .i64 (j : Int) ∧ j ≤ n ∧ o = .slice ao (S j).length cap ∧ RG P z wr ao (S j).length cap (S j) ∧ Kp (fun i => z ≤ i) wB wr

set_option maxHeartbeats 2000000 in
set_option maxRecDepth 100000 in
theorem without_any (P : Nat → Prop) (ao : Option Addr) (n cap : Nat) (L : Img) (k : ByteArray) (w : World) (h : RA P w ao n cap L) (hP : ∀ j, w.heap.size ≤ j → P j) (hn : n ≤ 1048576) :
    Calls Try.prog 47 #[.slice ao n cap, .string k] w fun e w' => ∃ ao' cap', e = .returned (.slice ao' (withoutL L k).length cap') ∧ RA P w' ao' (withoutL L k).length cap' (withoutL L k) ∧ Kp Noone w w' := by
  obtain ⟨i0, hi, hz0, hz1, hz2⟩ := info_parts info_area
  have hlen := h.len
  have kB : Kp Noone w (w.alloc (.cells #[] 46)) := (Kp.refl _ _).alloc _
  have hG0 : RG (fun j => P j ∧ j < w.heap.size) w.heap.size (w.alloc (.cells #[] 46)) (some ⟨w.heap.size, 0, none⟩) 0 0 [] := RG.fresh (Nat.le_refl _) _ rfl
  have hsB := alloc_size w (.cells #[] 46)
  have HL := Lib.hid h
  have HP := Lib.hid hP
  have R0 : Hid (OR (fun j => P j ∧ j < w.heap.size) w.heap.size n _ (fun j => withoutL (L.take j) k) (.int .i64 0) (.slice (some ⟨w.heap.size, 0, none⟩) 0 0) _) := Lib.hid ⟨⟨0, some ⟨w.heap.size, 0, none⟩, 0, by rfl, Nat.zero_le _, rfl, hG0, Kp.refl _ _⟩⟩
  have HKB := Lib.hid kB
  obtain ⟨RES, hRES⟩ : ∃ x, Hid (withoutL L k = x) := ⟨_, Lib.hid rfl⟩
  rw [hRES.out]
  clear h hP hG0 kB
  go_enter Try.func47, Try.ntmps47
  go_upto_region 2 with fail
  generalize w.alloc (.cells #[] 46) = wB at *
  go_wp2_with fail
  go_loopw [10, 5] (fun v o wr => OR (fun j => P j ∧ j < w.heap.size) w.heap.size n wB (fun j => withoutL (L.take j) k) v o wr) (fun v _ _ => n - (intOf v).toNat)
  case atStart => exact R0.out
  case round =>
    clear R0
    obtain ⟨j, ao1, cap1, rfl, hj, rfl, hG, kr⟩ := hrel.ex
    have hS1 := withoutL_len k L j (by omega)
    have kwr : Kp Noone w wr := HKB.out.fin kr (fun i c => Or.inr (by omega))
    have hszr := kr.size
    by_cases hlt : j < n
    · have hjl : j < L.length := by omega
      have hst : Hid (withoutL (L.take (j + 1)) k = withoutStep k (withoutL (L.take j) k) L[j]) := Lib.hid (withoutL_take _ L j hjl)
      obtain ⟨b, off, bo, m, c, rfl, hbl, hPb, c0, c1, c2, hda⟩ := HL.out.get j hjl
      have c0 := kwr.cell c0 id
      have c1 := kwr.cell c1 id
      have c2 := kwr.cell c2 id
      have hwj : IntKind.i64.wrap ((j : Int) + 1) = (j : Int) + 1 := IntWalk.i64_in _ (by omega)
      have hda0 := (hda.mono (Q := fun j => P j ∧ j < w.heap.size) (fun i hi c => ⟨c, hi⟩)).keep kwr
      generalize L[j] = x at *
      obtain ⟨nm, xd, xs⟩ := x
      try simp only [] at c0 c1 c2 hda0
      try simp only [] at hG hS1
      generalize withoutL (L.take j) k = M at *
      have hst2 : Hid (withoutL (L.take (j + 1)) k = withoutStep k M (nm, ⟨xd, xs⟩)) := hst
      have HG := Lib.hid hG
      have HKR := Lib.hid kr
      have HDA := Lib.hid hda0
      clear hG hst hda hda0 kr kwr
      by_cases he : nm = k
      · subst he
        have R : Hid (OR (fun j => P j ∧ j < w.heap.size) w.heap.size n wB (fun j => withoutL (L.take j) nm) (.int .i64 ((j + 1 : Nat) : Int)) (.slice ao1 M.length cap1) wr) := Lib.hid (by
          have e := hst2.out
          unfold withoutStep at e
          rw [if_pos rfl] at e
          refine ⟨⟨j + 1, ao1, cap1, rfl, by omega, by rw [e], ?_, HKR.out⟩⟩
          show RG _ _ wr ao1 (withoutL (L.take (j + 1)) nm).length cap1 (withoutL (L.take (j + 1)) nm)
          rw [e]
          exact HG.out)
        clear HG HKR hst2
        go_wp2_with fail
        go_roundw
        case rel => exact R.out
        case measure => simp [intOf]; omega
      · have hne := (ba_ne he).2.2.1
        obtain ⟨A, hs, hg⟩ := HG.out
        have k6 : Kp Noone wr (wr.alloc (.cells #[.string nm, .slice bo m c, .int .i64 xs] 46)) := (Kp.refl _ _).alloc _
        have hown := hg.own.keep k6
        go_wp2_with (at_builtin; refine wpList_append_gen _ rfl (.tmp 20) (.tmp 25) 38 rfl 46 i0 (.agg #[.string ByteArray.empty, .slice none 0 0, .int .i64 0]) 3 48 Try.underlying38 hi hz0 hz1 hz2 rfl ao1 M.length cap1 rfl (some ⟨wr.heap.size, 0, none⟩) 1 1 rfl _ _ hown [.string nm, .slice bo m c, .int .i64 xs] rfl (Row.ofHeap (heap_alloc_new wr _)) (area_one _ _ _ _ _) (by omega) (by unfold maxLen; omega) ?_)
        intro ao' cap' w7 ho7 k7
        have R7 := hg.snoc (w6 := wr.alloc (.cells #[.string nm, .slice bo m c, .int .i64 xs] 46)) (k := nm) (d := xd) (sf := xs) (xo := bo) (xm := m) (xc := c) (by have := k6.size; omega) k6 ho7 k7 ((HDA.out.keep k6).mono (fun i hi c => ⟨c, fun e => by have h1 := (hg.base i e).1; have h2 := c.2; omega⟩))
        have K7 : Kp (fun i => w.heap.size ≤ i) wr w7 := (k6.none).trans (k7.mono (fun i _ c => (hg.base i c).1))
        have R : Hid (OR (fun j => P j ∧ j < w.heap.size) w.heap.size n wB (fun j => withoutL (L.take j) k) (.int .i64 ((j + 1 : Nat) : Int)) (.slice ao' (M.length + 1) cap') w7) := Lib.hid (by
          have e := hst2.out
          unfold withoutStep at e
          rw [if_neg he] at e
          refine ⟨⟨j + 1, ao', cap', rfl, by omega, by rw [e]; simp, ?_, HKR.out.trans K7⟩⟩
          show RG _ _ w7 ao' (withoutL (L.take (j + 1)) k).length cap' (withoutL (L.take (j + 1)) k)
          rw [e]
          simpa using R7)
        clear R7 K7 k6 k7 ho7 hown hg HG HKR hst2 HDA
        go_wp2_with fail
        go_roundw
        case rel => exact R.out
        case measure => simp [intOf]; omega
    · have he : L.take j = L := List.take_of_length_le (by omega)
      rw [he] at hG hS1 ⊢
      have HQP := HP.out
      have hr := hRES.out
      rw [hr] at hG hS1 ⊢
      have R : Hid (RA P wr ao1 RES.length cap1 RES) := Lib.hid (hG.ra (fun i h1 _ => HQP i (by omega)) (fun i _ c => c.1))
      have HK := Lib.hid kwr
      clear hG kr kwr HQP hRES hr
      go_wp2_with fail
      go_ret
      exact ⟨ao1, cap1, rfl, R.out, HK.out⟩

set_option maxHeartbeats 2000000 in
set_option maxRecDepth 100000 in
theorem copyR_any (P : Nat → Prop) (ao : Option Addr) (n cap : Nat) (L : Img) (w : World) (h : RA P w ao n cap L) (hP : ∀ j, w.heap.size ≤ j → P j) (hn : n ≤ 1048576) (hd : ∀ x ∈ L, x.2.data.length ≤ 281474976710656) :
    Calls Try.prog 28 #[.slice ao n cap] w fun e w' => ∃ ao' cap', e = .returned (.slice ao' L.length cap') ∧ RA P w' ao' L.length cap' L ∧ Kp Noone w w' := by
  obtain ⟨i0, hi, hz0, hz1, hz2⟩ := info_parts info_area
  have hlen := h.len
  have kB : Kp Noone w (w.alloc (.cells #[] 46)) := (Kp.refl _ _).alloc _
  have hG0 : RG P w.heap.size (w.alloc (.cells #[] 46)) (some ⟨w.heap.size, 0, none⟩) 0 0 [] := RG.fresh (Nat.le_refl _) _ rfl
  have hsB := alloc_size w (.cells #[] 46)
  have HL := Lib.hid h
  have HP := Lib.hid hP
  have HD := Lib.hid hd
  have R0 : Hid (OR P w.heap.size n _ (fun j => L.take j) (.int .i64 0) (.slice (some ⟨w.heap.size, 0, none⟩) 0 0) _) := Lib.hid ⟨⟨0, some ⟨w.heap.size, 0, none⟩, 0, by rfl, Nat.zero_le _, rfl, hG0, Kp.refl _ _⟩⟩
  have HKB := Lib.hid kB
  clear h hP hG0 kB hd
  go_enter Try.func28, Try.ntmps28
  go_upto_region 2 with fail
  generalize w.alloc (.cells #[] 46) = wB at *
  go_wp2_with fail
  go_loopw [8, 3] (fun v o wr => OR P w.heap.size n wB (fun j => L.take j) v o wr) (fun v _ _ => n - (intOf v).toNat)
  case atStart => exact R0.out
  case round =>
    clear R0
    obtain ⟨j, ao1, cap1, rfl, hj, rfl, hG, kr⟩ := hrel.ex
    have hS1 : (L.take j).length = j := by rw [List.length_take]; omega
    have kwr : Kp Noone w wr := HKB.out.fin kr (fun i c => Or.inr (by omega))
    have hszr := kr.size
    by_cases hlt : j < n
    · have hjl : j < L.length := by omega
      have hst : Hid (L.take (j + 1) = L.take j ++ [L[j]]) := Lib.hid (List.take_succ_eq_append_getElem hjl)
      obtain ⟨b, off, bo, m, c, rfl, hbl, hPb, c0, c1, c2, hda⟩ := HL.out.get j hjl
      have hwj : IntKind.i64.wrap ((j : Int) + 1) = (j : Int) + 1 := IntWalk.i64_in _ (by omega)
      have hxl := HD.out _ (List.getElem_mem hjl)
      have hda0 := (hda.keep kwr).1
      have hcs : ∀ w', Kp (fun i => w.heap.size ≤ i) wr w' → w'.cell? ⟨b, off + j * 3, none⟩ = some (.string L[j].1) ∧ w'.cell? ⟨b, off + j * 3 + 1, none⟩ = some (.slice bo m c) ∧ w'.cell? ⟨b, off + j * 3 + 2, none⟩ = some (.int .i64 L[j].2.safe) := fun w' kk => by
        have hnb : ¬ (w.heap.size ≤ b) := by omega
        exact ⟨kk.cell (kwr.cell c0 id) hnb, kk.cell (kwr.cell c1 id) hnb, kk.cell (kwr.cell c2 id) hnb⟩
      generalize L[j] = x at *
      obtain ⟨nm, xd, xs⟩ := x
      try simp only [] at hcs hda0 hxl
      try simp only [] at hG hS1
      have hxm := hda0.len
      generalize L.take j = M at *
      rw [hS1] at hG
      have HG := Lib.hid hG
      have HKR := Lib.hid kr
      have HDA := Lib.hid hda0
      clear hG hda hda0 kr kwr c0 c1 c2
      have c0 := (hcs wr (Kp.refl _ _)).1
      go_upto_region 5 with fail
      clear c0
      obtain ⟨A, hs, hg⟩ := HG.out
      have HGG := Lib.hid hg
      have hK0 : Kp (fun i => w.heap.size ≤ i) wr wr.drew := (Kp.refl _ _).drew
      go_region_held3 (fun w' => w'.cell? ⟨b, off + j * 3, none⟩ = some (.string nm) ∧ w'.cell? ⟨b, off + j * 3 + 1, none⟩ = some (.slice bo m c) ∧ w'.cell? ⟨b, off + j * 3 + 2, none⟩ = some (.int .i64 xs))
        (first | exact hcs _ hK0 | exact hcs _ hK1 | exact hcs _ (hK1.alloc _) | exact hcs _ hK7 | assumption)
        (first
          | (go_at_call 11; refine (copy_exact bo m c xd _ (HDA.out.keep (Kp.refl Noone wr).drew) (by omega)).mono ?_; rintro e w' ⟨rfl, hw'⟩; obtain ⟨hbc, kw⟩ := copied2 hw' hxm (by unfold maxLen; omega); have hcp := (congrArg (fun x => x.heap[wr.heap.size]?) hw').trans (heap_alloc_new wr.drew _); clear hw'; have hK1 : Kp (fun i => w.heap.size ≤ i) wr w' := hK0.trans kw.none)
          | (refine step_append_gen rfl (.tmp 11) (.tmp 29) 38 (by dsimp only) 46 i0 (.agg #[.string ByteArray.empty, .slice none 0 0, .int .i64 0]) 3 48 Try.underlying38 hi hz0 hz1 hz2 rfl ao1 j cap1 (by rfl) (some ⟨w'.heap.size, 0, none⟩) 1 1 (by rfl) _ _ (HGG.out.own.keep ((((Kp.refl Noone wr).drew).trans kw).alloc _)) [.string nm, .slice (some ⟨wr.drew.heap.size, 0, none⟩) m m, .int .i64 xs] rfl (Row.ofHeap (heap_alloc_new w' _)) (area_one _ _ _ _ _) (by omega) (by unfold maxLen; omega) ?_; intro ao' cap' w7 ho7 k7; have hK7 : Kp (fun i => w.heap.size ≤ i) wr w7 := (hK1.alloc _).trans' k7 (fun i hi c => (HGG.out.base i c).1)))
      have k6 : Kp Noone wr (w'.alloc (.cells #[.string nm, .slice (some ⟨wr.drew.heap.size, 0, none⟩) m m, .int .i64 xs] 46)) := (((Kp.refl Noone wr).drew).trans kw).alloc _
      have hDN : DataP (fun i => P i ∧ ¬ A i) (w'.alloc (.cells #[.string nm, .slice (some ⟨wr.drew.heap.size, 0, none⟩) m m, .int .i64 xs] 46)) (some ⟨wr.drew.heap.size, 0, none⟩) m m xd := by
        have h1 := (Array.getElem?_eq_some_iff.1 hcp).1
        have h2 : DataP (fun i => i = wr.heap.size) w' (some ⟨wr.drew.heap.size, 0, none⟩) m m xd := ⟨hbc, fun _ a ha => by cases ha; exact ⟨rfl, h1⟩⟩
        exact (h2.keep ((Kp.refl _ _).alloc _)).mono (fun i _ c => by
          subst c
          exact ⟨HP.out _ (by omega), fun e => by have := (HGG.out.base _ e).2; omega⟩)
      have R7 := HGG.out.snoc (k := nm) (d := xd) (sf := xs) (by have := k6.size; omega) k6 ho7 k7 hDN
      have K7 : Kp (fun i => w.heap.size ≤ i) wr w7 := (k6.none).trans (k7.mono (fun i _ c => (HGG.out.base i c).1))
      have R : Hid (OR P w.heap.size n wB (fun j => L.take j) (.int .i64 ((j + 1 : Nat) : Int)) (.slice ao' (j + 1) cap') w7) := Lib.hid (by
        have e := hst.out
        refine ⟨⟨j + 1, ao', cap', rfl, by omega, by rw [e]; simp [hS1], ?_, HKR.out.trans K7⟩⟩
        show RG _ _ w7 ao' (L.take (j + 1)).length cap' (L.take (j + 1))
        rw [e, List.length_append, hS1]
        exact R7)
      clear R7 K7 k6 k7 ho7 HGG HG HKR hst HDA hDN hcs hcp hbc kw hK0 hK1 hK7
      go_wp2_with fail
      go_roundw
      case rel => exact R.out
      case measure => simp [intOf]; omega
    · have he : L.take j = L := List.take_of_length_le (by omega)
      rw [he] at hG hS1 ⊢
      have HQP := HP.out
      have R : Hid (RA P wr ao1 L.length cap1 L) := Lib.hid (hG.ra (fun i h1 _ => HQP i (by omega)) (fun i _ c => c))
      have HK := Lib.hid kwr
      clear hG kr kwr HQP
      go_wp2_with fail
      go_ret
      exact ⟨ao1, cap1, rfl, R.out, HK.out⟩

end Go.Proofs.Ytmmdojnjognccaa
