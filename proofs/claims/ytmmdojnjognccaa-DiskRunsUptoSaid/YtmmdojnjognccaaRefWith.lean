/-
  THE WALKS of the document's With and Without.
-/
import Derived.Test.YtmmdojnjognccaaRefWalk
import Derived.Test.YtmmdojnjognccaaMount
import Derived.BigQuiet
import Derived.Deep.CutRange
namespace Go.Proofs.Ytmmdojnjognccaa
open Go.RowKit

def withStep (a : ByteArray × AreaP) (s : Img × Bool) (x : ByteArray × AreaP) : Img × Bool :=
  let s1 := if (!s.2 && !(Op.bytesLess x.1.toList a.1.toList)) = true then (s.1 ++ [a], true) else s
  if x.1 = a.1 then s1 else (s1.1 ++ [x], s1.2)
def withS (a : ByteArray × AreaP) (L : Img) : Img × Bool := L.foldl (withStep a) ([], false)
def withL (L : Img) (a : ByteArray × AreaP) : Img := if (withS a L).2 = true then (withS a L).1 else (withS a L).1 ++ [a]
theorem withS_take (a : ByteArray × AreaP) (L : Img) (j : Nat) (h : j < L.length) : withS a (L.take (j + 1)) = withStep a (withS a (L.take j)) L[j] := by
  unfold withS
  rw [List.take_succ_eq_append_getElem h, List.foldl_append]
  rfl
theorem withStep_len (a : ByteArray × AreaP) (s : Img × Bool) (x : ByteArray × AreaP) : (withStep a s x).1.length ≤ s.1.length + 2 := by
  unfold withStep
  simp only []
  split <;> split <;> simp
theorem withS_len (a : ByteArray × AreaP) (L : Img) (j : Nat) (h : j ≤ L.length) : (withS a (L.take j)).1.length ≤ 2 * j := by
  induction j with
  | zero => simp [withS]
  | succ j ih =>
    rw [withS_take a L j h]
    have h1 := withStep_len a (withS a (L.take j)) L[j]
    have h2 := ih (by omega)
    omega
def withoutStep (k : ByteArray) (s : Img) (x : ByteArray × AreaP) : Img := if x.1 = k then s else s ++ [x]
def withoutL (L : Img) (k : ByteArray) : Img := L.foldl (withoutStep k) []
theorem withoutL_take (k : ByteArray) (L : Img) (j : Nat) (h : j < L.length) : withoutL (L.take (j + 1)) k = withoutStep k (withoutL (L.take j) k) L[j] := by
  unfold withoutL
  rw [List.take_succ_eq_append_getElem h, List.foldl_append]
  rfl
theorem withoutL_len (k : ByteArray) (L : Img) (j : Nat) (h : j ≤ L.length) : (withoutL (L.take j) k).length ≤ j := by
  induction j with
  | zero => simp [withoutL]
  | succ j ih =>
    rw [withoutL_take k L j h]
    have h2 := ih (by omega)
    unfold withoutStep
    split
    · omega
    · simp; omega
theorem area_one (k : ByteArray) (xo : Option Addr) (xm xc : Nat) (sf : Int) : ∀ u ∈ [Value.string k, .slice xo xm xc, .int .i64 sf], u.oneCell' = true := by
  intro u hu
  simp at hu
  rcases hu with rfl | rfl | rfl <;> rfl

/-- Between two areas of With. -/
structure WR (P : Nat → Prop) (z n : Nat) (wB : World) (S : Nat → Img × Bool) (v o d : Value) (wr : World) : Prop where
  ex : ∃ (j : Nat) (ao : Option Addr) (cap : Nat), v = .int .i64 (j : Int) ∧ j ≤ n ∧ o = .slice ao (S j).1.length cap ∧ d = .bool (S j).2 ∧ RG P z wr ao (S j).1.length cap (S j).1 ∧ Kp (fun i => z ≤ i) wB wr
/-- Behind the first half of one. -/
structure WM (P : Nat → Prop) (z : Nat) (wr : World) (M : Img) (dn : Bool) (o d : Value) (wx : World) : Prop where
  ex : ∃ (ao : Option Addr) (cap : Nat), o = .slice ao M.length cap ∧ d = .bool dn ∧ RG P z wx ao M.length cap M ∧ Kp (fun i => z ≤ i) wr wx
theorem alloc_size (w : World) (o : Obj) : (w.alloc o).heap.size = w.heap.size + 1 := by simp
def ifW (q : Bool) (M : Img) (dn : Bool) (a : ByteArray × AreaP) : Img × Bool := if q = true then (M ++ [a], true) else (M, dn)
def ifX (S : Img × Bool) (x : ByteArray × AreaP) (k : ByteArray) : Img × Bool := if x.1 = k then S else (S.1 ++ [x], S.2)

set_option maxHeartbeats 2000000 in
set_option maxRecDepth 100000 in
theorem with_any (P : Nat → Prop) (ao : Option Addr) (n cap : Nat) (L : Img) (k : ByteArray) (xo : Option Addr) (xm xc : Nat) (d : List UInt8) (sf : Int) (w : World) (h : RA P w ao n cap L) (hd : DataP P w xo xm xc d) (hP : ∀ j, w.heap.size ≤ j → P j) (hn : n ≤ 1048576) :
    Calls Try.prog 42 #[.slice ao n cap, .agg #[.string k, .slice xo xm xc, .int .i64 sf]] w fun e w' => ∃ ao' cap', e = .returned (.slice ao' (withL L (k, ⟨d, sf⟩)).length cap') ∧ RA P w' ao' (withL L (k, ⟨d, sf⟩)).length cap' (withL L (k, ⟨d, sf⟩)) ∧ Kp Noone w w' := by
  obtain ⟨i0, hi, hz0, hz1, hz2⟩ := info_parts info_area
  have hlen := h.len
  have hA := heap_alloc_new w (.cells #[.string k, .slice xo xm xc, .int .i64 sf] 46)
  have eA := alloc_size w (.cells #[.string k, .slice xo xm xc, .int .i64 sf] 46)
  have kB : Kp Noone w ((w.alloc (.cells #[.string k, .slice xo xm xc, .int .i64 sf] 46)).alloc (.cells #[] 46)) := ((Kp.refl _ _).alloc _).alloc _
  have hB := ((Kp.refl Noone (w.alloc (.cells #[.string k, .slice xo xm xc, .int .i64 sf] 46))).alloc (.cells #[] 46)).heap hA id
  have hsB := alloc_size (w.alloc (.cells #[.string k, .slice xo xm xc, .int .i64 sf] 46)) (.cells #[] 46)
  rw [eA] at hsB
  have hG0 : RG (fun j => P j ∧ j < w.heap.size) (w.heap.size + 1) ((w.alloc (.cells #[.string k, .slice xo xm xc, .int .i64 sf] 46)).alloc (.cells #[] 46)) (some ⟨w.heap.size + 1, 0, none⟩) 0 0 [] := by
    rw [← eA]
    exact RG.fresh (Nat.le_refl _) _ rfl
  have HL := Lib.hid h
  have HD := Lib.hid (hd.mono (Q := fun j => P j ∧ j < w.heap.size) (fun i hi c => ⟨c, hi⟩))
  have HP := Lib.hid hP
  have R0 : Hid (WR (fun j => P j ∧ j < w.heap.size) (w.heap.size + 1) n _ (fun j => withS (k, ⟨d, sf⟩) (L.take j)) (.int .i64 0) (.slice (some ⟨w.heap.size + 1, 0, none⟩) 0 0) (.bool false) _) := Lib.hid ⟨⟨0, some ⟨w.heap.size + 1, 0, none⟩, 0, by rfl, Nat.zero_le _, rfl, rfl, hG0, Kp.refl _ _⟩⟩
  have HKB := Lib.hid kB
  obtain ⟨RES, hRES⟩ : ∃ x, Hid (withL L (k, ⟨d, sf⟩) = x) := ⟨_, Lib.hid rfl⟩
  rw [hRES.out]
  clear h hd hP hA hG0 kB eA
  go_enter Try.func42, Try.ntmps42
  go_upto_region 3 with fail
  generalize (w.alloc (.cells #[.string k, .slice xo xm xc, .int .i64 sf] 46)).alloc (.cells #[] 46) = wB at *
  go_wp2_with fail
  go_loopw [11, 5, 6] (fun v o dv wr => WR (fun j => P j ∧ j < w.heap.size) (w.heap.size + 1) n wB (fun j => withS (k, ⟨d, sf⟩) (L.take j)) v o dv wr) (fun v _ _ _ => n - (intOf v).toNat)
  case atStart => exact R0.out
  case round =>
    clear R0
    obtain ⟨j, ao1, cap1, rfl, hj, rfl, rfl, hG, kr⟩ := hrel.ex
    have hS1 := withS_len (k, ⟨d, sf⟩) L j (by omega)
    have kwr : Kp Noone w wr := HKB.out.fin kr (fun i c => Or.inr (by omega))
    have hbox := kr.heap hB (by omega)
    obtain ⟨z0, z1, z2, -⟩ := cells_three hbox
    have hszr := kr.size
    by_cases hlt : j < n
    · have hjl : j < L.length := by omega
      have hst : Hid (withS (k, ⟨d, sf⟩) (L.take (j + 1)) = withStep (k, ⟨d, sf⟩) (withS (k, ⟨d, sf⟩) (L.take j)) L[j]) := Lib.hid (withS_take _ L j hjl)
      obtain ⟨b, off, bo, m, c, rfl, hbl, hPb, c0, c1, c2, hda⟩ := HL.out.get j hjl
      have c0 := kwr.cell c0 id
      have c1 := kwr.cell c1 id
      have c2 := kwr.cell c2 id
      have hwj : IntKind.i64.wrap ((j : Int) + 1) = (j : Int) + 1 := IntWalk.i64_in _ (by omega)
      have hda0 := (hda.mono (Q := fun j => P j ∧ j < w.heap.size) (fun i hi c => ⟨c, hi⟩)).keep kwr
      have hdk := HD.out.keep kwr
      generalize L[j] = x at *
      obtain ⟨nm, xd, xs⟩ := x
      try simp only [] at c0 c1 c2 hda0
      try simp only [] at hG hS1
      generalize withS (k, ⟨d, sf⟩) (L.take j) = S at *
      obtain ⟨M, dn⟩ := S
      try simp only [] at hG hS1
      have hst2 : Hid (withS (k, ⟨d, sf⟩) (L.take (j + 1)) = withStep (k, ⟨d, sf⟩) (M, dn) (nm, ⟨xd, xs⟩)) := hst
      have HG := Lib.hid hG
      have HKR := Lib.hid kr
      have HDA := Lib.hid hda0
      have HDK := Lib.hid hdk
      clear hG hst hda hda0 kr kwr hdk
      generalize hls : Op.bytesLess nm.toList k.toList = ls at *
      have HLS := Lib.hid hls
      clear hls
      go_upto_region 6 with fail
      go_cut [25] from 12 to 25 (fun v wx => v = .bool (!dn && !ls) ∧ Kp Noone wr wx)
      case first =>
        have hls := HLS.out
        cases dn with
        | true =>
          go_quiet (fail)
          go_wp2_with fail
          go_meet
          case rel => exact ⟨rfl, (Kp.refl _ _).drewN _⟩
        | false =>
          go_quiet (fail)
          go_wp2_with fail
          go_meet
          case rel => exact ⟨by first | rfl | (rw [hls]; rfl) | (cases ls <;> simp_all), (Kp.refl _ _).drewN _⟩
      case rest =>
      obtain ⟨rfl, kx⟩ := hcut
      have hboxC := kx.heap hbox id
      have d0 := kx.cell c0 id
      have d1 := kx.cell c1 id
      have d2 := kx.cell c2 id
      have HKC := Lib.hid (HKR.out.trans kx.none)
      have HGC := Lib.hid (HG.out.keep kx)
      have HDX := Lib.hid (HDK.out.keep kx)
      have HDY := Lib.hid (HDA.out.keep kx)
      have hszc : w.heap.size + 2 ≤ wc.heap.size := by have := kx.size; omega
      clear z0 z1 z2 c0 c1 c2 kx hbox HKR HG HDA HDK
      obtain ⟨z0, z1, z2, -⟩ := cells_three hboxC
      generalize hq : (!dn && !ls) = q at *
      have HST : Hid (withS (k, ⟨d, sf⟩) (L.take (j + 1)) = ifX (ifW q M dn (k, ⟨d, sf⟩)) (nm, ⟨xd, xs⟩) k) := Lib.hid (by
        rw [hst2.out]
        unfold withStep ifX ifW
        simp only []
        rw [HLS.out, hq])
      clear hst2 HLS hq
      go_upto_if 25 with fail
      go_cut [5, 6] from 12 to 45 (fun o dv wx => WM (fun j => P j ∧ j < w.heap.size) (w.heap.size + 1) wc (ifW q M dn (k, ⟨d, sf⟩)).1 (ifW q M dn (k, ⟨d, sf⟩)).2 o dv wx)
      case first =>
        cases q with
        | true =>
          obtain ⟨A, hs, hg⟩ := HGC.out
          have k6 : Kp Noone wc (wc.alloc (.cells #[.string k, .slice xo xm xc, .int .i64 sf] 46)) := (Kp.refl _ _).alloc _
          have hown := hg.own.keep k6
          go_wp2_with (at_builtin; refine wpList_append_gen _ rfl (.tmp 26) (.tmp 28) 38 rfl 46 i0 (.agg #[.string ByteArray.empty, .slice none 0 0, .int .i64 0]) 3 48 Try.underlying38 hi hz0 hz1 hz2 rfl ao1 M.length cap1 rfl (some ⟨wc.heap.size, 0, none⟩) 1 1 rfl _ _ hown [.string k, .slice xo xm xc, .int .i64 sf] rfl (Row.ofHeap (heap_alloc_new wc _)) (area_one _ _ _ _ _) (by omega) (by unfold maxLen; omega) ?_)
          intro ao' cap' w7 ho7 k7
          have R := hg.snoc (w6 := wc.alloc (.cells #[.string k, .slice xo xm xc, .int .i64 sf] 46)) (k := k) (d := d) (sf := sf) (xo := xo) (xm := xm) (xc := xc) (by have := k6.size; omega) k6 ho7 k7 ((HDX.out.keep k6).mono (fun i hi c => ⟨c, fun e => by have := (hg.base i e).1; omega⟩))
          have K : Kp (fun i => w.heap.size + 1 ≤ i) wc w7 := (k6.none).trans (k7.mono (fun i _ c => (hg.base i c).1))
          have HR := Lib.hid R
          have HK := Lib.hid K
          clear R K k6 k7 ho7 hown hg
          go_wp2_with fail
          go_meet
          case rel => exact ⟨⟨ao', cap', by simp [ifW], rfl, by simpa [ifW] using HR.out, HK.out⟩⟩
        | false =>
          go_wp2_with fail
          go_meet
          case rel => exact ⟨⟨ao1, cap1, rfl, rfl, HGC.out, Kp.refl _ _⟩⟩
      case rest =>
      obtain ⟨ao2, cap2, rfl, rfl, hG2, kx2⟩ := hcut.ex
      have hbox2 := kx2.heap hboxC (fun c => by have h : w.heap.size + 1 ≤ w.heap.size := c; omega)
      have hnb : ¬ (w.heap.size + 1 ≤ b) := by omega
      have d0 := kx2.cell d0 hnb
      have d1 := kx2.cell d1 hnb
      have d2 := kx2.cell d2 hnb
      have HK2 := Lib.hid (HKC.out.trans kx2)
      have kwx := (HKB.out.fin HKC.out (fun i c => Or.inr (by omega))).fin kx2 (fun i c => Or.inr (by omega))
      have HDY2 := Lib.hid (HDY.out.kp kx2 (fun i _ c e => by have := c.2; omega))
      have hsz2 := Nat.le_trans hszc kx2.size
      have hS2 : (ifW q M dn (k, ⟨d, sf⟩)).1.length ≤ M.length + 1 := by unfold ifW; split <;> simp
      have HG2 := Lib.hid hG2
      clear z0 z1 z2 hboxC HKC HGC HDX HDY kx2 hG2 hcut kwx
      have HST2 : Hid (withS (k, ⟨d, sf⟩) (L.take (j + 1)) = ifX ((ifW q M dn (k, ⟨d, sf⟩)).1, (ifW q M dn (k, ⟨d, sf⟩)).2) (nm, ⟨xd, xs⟩) k) := HST
      clear HST
      generalize (ifW q M dn (k, ⟨d, sf⟩)).1 = M2 at *
      generalize (ifW q M dn (k, ⟨d, sf⟩)).2 = dn2 at *
      obtain ⟨z0, z1, z2, -⟩ := cells_three hbox2
      by_cases he : nm = k
      · subst he
        have R : Hid (∀ w', Kp Noone wc w' → WR (fun j => P j ∧ j < w.heap.size) (w.heap.size + 1) n wB (fun j => withS (nm, ⟨d, sf⟩) (L.take j)) (.int .i64 ((j + 1 : Nat) : Int)) (.slice ao2 M2.length cap2) (.bool dn2) w') := Lib.hid (fun w' k' => by
          have e := HST2.out
          unfold ifX at e
          rw [if_pos rfl] at e
          refine ⟨⟨j + 1, ao2, cap2, rfl, by omega, by rw [e], by rw [e], ?_, HK2.out.trans k'.none⟩⟩
          show RG _ _ w' ao2 (withS (nm, ⟨d, sf⟩) (L.take (j + 1))).1.length cap2 (withS (nm, ⟨d, sf⟩) (L.take (j + 1))).1
          rw [e]
          exact HG2.out.keep k')
        clear HG2 HK2 HST2
        go_upto_region 9 with fail
        go_quiet (fail)
        go_wp2_with fail
        go_roundw
        case rel => exact R.out _ ((Kp.refl _ _).drewN _)
        case measure => simp [intOf]; omega
      · have hne := (ba_ne he).2.2.1
        go_upto_region 9 with fail
        go_quiet (fail)
        have kq : Kp Noone wc (wc.drewN nq) := (Kp.refl _ _).drewN _
        have f0 := kq.cell d0 id
        have f1 := kq.cell d1 id
        have f2 := kq.cell d2 id
        obtain ⟨A, hs, hg⟩ := HG2.out
        have k6 : Kp Noone wc ((wc.drewN nq).alloc (.cells #[.string nm, .slice bo m c, .int .i64 xs] 46)) := kq.alloc _
        have hown := hg.own.keep k6
        clear z0 z1 z2 d0 d1 d2 kq
        go_wp2_with (at_builtin; refine wpList_append_gen _ rfl (.tmp 38) (.tmp 43) 38 rfl 46 i0 (.agg #[.string ByteArray.empty, .slice none 0 0, .int .i64 0]) 3 48 Try.underlying38 hi hz0 hz1 hz2 rfl ao2 M2.length cap2 rfl (some ⟨(wc.drewN nq).heap.size, 0, none⟩) 1 1 rfl _ _ hown [.string nm, .slice bo m c, .int .i64 xs] rfl (Row.ofHeap (heap_alloc_new (wc.drewN nq) _)) (area_one _ _ _ _ _) (by omega) (by unfold maxLen; omega) ?_)
        intro ao' cap' w7 ho7 k7
        have R7 := hg.snoc (w6 := (wc.drewN nq).alloc (.cells #[.string nm, .slice bo m c, .int .i64 xs] 46)) (k := nm) (d := xd) (sf := xs) (xo := bo) (xm := m) (xc := c) (by have := k6.size; omega) k6 ho7 k7 ((HDY2.out.keep k6).mono (fun i hi c => ⟨c, fun e => by have h1 := (hg.base i e).1; have h2 := c.2; omega⟩))
        have K7 : Kp (fun i => w.heap.size + 1 ≤ i) wc w7 := (k6.none).trans (k7.mono (fun i _ c => (hg.base i c).1))
        have R : Hid (WR (fun j => P j ∧ j < w.heap.size) (w.heap.size + 1) n wB (fun j => withS (k, ⟨d, sf⟩) (L.take j)) (.int .i64 ((j + 1 : Nat) : Int)) (.slice ao' (M2.length + 1) cap') (.bool dn2) w7) := Lib.hid (by
          have e := HST2.out
          unfold ifX at e
          rw [if_neg he] at e
          refine ⟨⟨j + 1, ao', cap', rfl, by omega, by rw [e]; simp, by rw [e], ?_, HK2.out.trans K7⟩⟩
          show RG _ _ w7 ao' (withS (k, ⟨d, sf⟩) (L.take (j + 1))).1.length cap' (withS (k, ⟨d, sf⟩) (L.take (j + 1))).1
          rw [e]
          simpa using R7)
        clear R7 K7 k6 k7 ho7 hown hg HG2 HK2 HST2
        go_wp2_with fail
        go_roundw
        case rel => exact R.out
        case measure => simp [intOf]; omega
    · have he : L.take j = L := List.take_of_length_le (by omega)
      rw [he] at hG hS1 ⊢
      have HR2 : Hid (RES = if (withS (k, ⟨d, sf⟩) L).2 = true then (withS (k, ⟨d, sf⟩) L).1 else (withS (k, ⟨d, sf⟩) L).1 ++ [(k, ⟨d, sf⟩)]) := Lib.hid hRES.out.symm
      generalize (withS (k, ⟨d, sf⟩) L).1 = M at *
      generalize (withS (k, ⟨d, sf⟩) L).2 = dn at *
      have HQP := HP.out
      cases dn with
      | true =>
        have hr := HR2.out
        rw [if_pos rfl] at hr
        have R : Hid (RA P wr ao1 M.length cap1 M) := Lib.hid (hG.ra (fun i h1 _ => HQP i (by omega)) (fun i _ c => c.1))
        have HK := Lib.hid kwr
        clear hG kr kwr HQP HR2 hRES
        go_wp2_with fail
        go_ret
        subst hr
        exact ⟨ao1, cap1, rfl, R.out, HK.out⟩
      | false =>
        have hr := HR2.out
        rw [if_neg (by simp)] at hr
        obtain ⟨A, hs, hg⟩ := hG
        have hdk := HD.out.keep kwr
        have k6 : Kp Noone wr (wr.alloc (.cells #[.string k, .slice xo xm xc, .int .i64 sf] 46)) := (Kp.refl _ _).alloc _
        have hown := hg.own.keep k6
        go_wp2_with (at_builtin; refine wpList_append_gen _ rfl (.tmp 48) (.tmp 50) 38 rfl 46 i0 (.agg #[.string ByteArray.empty, .slice none 0 0, .int .i64 0]) 3 48 Try.underlying38 hi hz0 hz1 hz2 rfl ao1 M.length cap1 rfl (some ⟨wr.heap.size, 0, none⟩) 1 1 rfl _ _ hown [.string k, .slice xo xm xc, .int .i64 sf] rfl (Row.ofHeap (heap_alloc_new wr _)) (area_one _ _ _ _ _) (by omega) (by unfold maxLen; omega) ?_)
        intro ao' cap' w7 ho7 k7
        have R7 := hg.snoc (w6 := wr.alloc (.cells #[.string k, .slice xo xm xc, .int .i64 sf] 46)) (k := k) (d := d) (sf := sf) (xo := xo) (xm := xm) (xc := xc) (by have := k6.size; omega) k6 ho7 k7 ((hdk.keep k6).mono (fun i hi c => ⟨c, fun e => by have h1 := (hg.base i e).1; have h2 := c.2; omega⟩))
        have R : Hid (RA P w7 ao' (M.length + 1) cap' (M ++ [(k, ⟨d, sf⟩)])) := Lib.hid (R7.ra (fun i h1 _ => HQP i (by omega)) (fun i _ c => c.1))
        have HK : Hid (Kp Noone w w7) := Lib.hid ((kwr.trans k6).fin k7 (fun i c => Or.inr (by have := (hg.base i c).1; omega)))
        clear R7 k6 k7 ho7 hown hg kr kwr HQP HR2 hRES hdk
        go_wp2_with fail
        go_ret
        subst hr
        exact ⟨ao', cap', by simp, by simpa using R.out, HK.out⟩

end Go.Proofs.Ytmmdojnjognccaa
