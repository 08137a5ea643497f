/-
  THE WALK of a disk's Crash.
-/
import Derived.Test.YtmmdojnjognccaaDiskD
import Derived.Test.YtmmdojnjognccaaReadIntsN
import Derived.Deep.CutRange
namespace Go.Proofs.Ytmmdojnjognccaa
open Go.RowKit

theorem alPut_fst {V : Type} (k : ByteArray) (a : V) (l : List (ByteArray × V)) (h : k ∈ l.map (·.1)) : (alPut k a l).map (·.1) = l.map (·.1) := by
  induction l with
  | nil => simp at h
  | cons p r ih =>
    unfold alPut
    by_cases hk : k = p.1
    · rw [if_pos hk]; simp [hk]
    · rw [if_neg hk]
      rw [List.map_cons, List.mem_cons] at h
      rw [List.map_cons, List.map_cons, ih (h.resolve_left hk)]
theorem get_ne {V : Type} {k : ByteArray} {l : List (ByteArray × V)} (h : k ∈ l.map (·.1)) : alGet k l ≠ none := fun c => (alGet_none k l).1 c h
theorem crashA_le {t : DS} (h : DOk t) (k : ByteArray) (x : Option Int) : (get0 k t.areas).safe ≤ crashA t (get0 k t.areas) x ∧ crashA t (get0 k t.areas) x ≤ (get0 k t.areas).data.length := by
  have hg := h.get k
  unfold crashA keepN
  cases x with
  | none => simp only []; omega
  | some v => simp only []; omega
theorem crash1_ok {t : DS} (h : DOk t) {k : ByteArray} (hk : k ∈ t.areas.map (·.1)) (x : Option Int) : DOk (crash1 t k x) := by
  have hg := h.get k
  have ha := crashA_le h k x
  unfold crash1
  obtain ⟨y, hy, rfl⟩ := List.mem_map.1 hk
  refine h.put (h.names y hy) ⟨by simp only []; omega, by simp only [List.length_take]; omega, by simp only [List.length_take]; omega⟩ (fun c => absurd c (get_ne hk))
theorem crashUp_ok {s : DS} (h : DOk s) (ns : List ByteArray) (hn : ∀ k ∈ ns, k ∈ s.areas.map (·.1)) (keep : List Int) : ∀ j, j ≤ ns.length → DOk (crashUp ns keep s j) ∧ (crashUp ns keep s j).areas.map (·.1) = s.areas.map (·.1)
  | 0, _ => ⟨h, rfl⟩
  | j + 1, hj => by
    obtain ⟨h1, h2⟩ := crashUp_ok h ns hn keep j (by omega)
    have hj' : j < ns.length := by omega
    have hm : ns[j] ∈ (crashUp ns keep s j).areas.map (·.1) := by rw [h2]; exact hn _ (List.getElem_mem hj')
    show DOk (crash1 (crashUp ns keep s j) (ns[j]?.getD ByteArray.empty) keep[j]?) ∧ (crash1 (crashUp ns keep s j) (ns[j]?.getD ByteArray.empty) keep[j]?).areas.map (·.1) = _
    rw [List.getElem?_eq_getElem hj', Option.getD_some]
    exact ⟨crash1_ok h1 hm _, by rw [← h2]; exact alPut_fst _ _ _ hm⟩
theorem crashUp_room (ns : List ByteArray) (keep : List Int) (s : DS) : ∀ j, (crashUp ns keep s j).room = s.room ∧ (crashUp ns keep s j).steps = s.steps
  | 0 => ⟨rfl, rfl⟩
  | j + 1 => crashUp_room ns keep s j
theorem namesF_mem {s : DS} : ∀ k ∈ namesF s, k ∈ s.areas.map (·.1) := fun _ hk => (sortN_of _).subset hk
theorem IS.kp {w w' : World} {ao : Option Addr} {n cap : Nat} {xs : List Int} {S : Nat → Prop} (h : IS w ao n cap xs) (k : Kp S w w') (hd : xs ≠ [] → ∀ a, ao = some a → ¬ S a.block) : IS w' ao n cap xs := by
  refine ⟨h.len, h.le, h.max, ?_⟩
  by_cases hx : xs = []
  · subst hx; exact Row.nil _ _
  · exact h.row.kp k (hd hx)

/-- Between two areas. -/
structure CrR (B i p N : Nat) (col : Nat → Nat) (w1 : World) (ns : List ByteArray) (keep : List Int) (s : DS) (v : Value) (wr : World) : Prop where
  ex : ∃ (j : Nat) (col' : Nat → Nat), v = .int .i64 (j : Int) ∧ j ≤ N ∧ Ext B (S3 i) col w1 col' wr ∧ Dk col' i wr p (crashUp ns keep s j)

theorem crashF_ok {s : DS} (h : DOk s) (keep : List Int) : DOk (crashF s keep) := by
  have h1 := (crashUp_ok h (namesF s) namesF_mem keep _ (Nat.le_refl _)).1
  exact ⟨h1.room, h1.keys, h1.len, h1.each, h1.names, h1.steps, by simp [crashF]⟩

set_option maxHeartbeats 2000000 in
set_option maxRecDepth 100000 in
theorem crash_dk (B : Nat) (col : Nat → Nat) (i p : Nat) (s : DS) (fo : Option Addr) (n cap : Nat) (keep : List Int) (w : World) (h : Dk col i w p s) (hc : Cols B w col) (hBw : B ≤ w.heap.size) (hks : IS w fo n cap keep) (hko : keep ≠ [] → ∀ a, fo = some a → col a.block = 0) :
    Calls Try.prog 14 #[.pointer (some ⟨p, 0, none⟩), .slice fo n cap] w fun e w' => e = .returned (.tuple #[]) ∧ ∃ col', Ext B (S3 i) col w col' w' ∧ Dk col' i w' p (crashF s keep) := by
  have HFIN := Lib.hid (crashF_ok h.2 keep)
  have HUP := Lib.hid (fun j hj => crashUp_ok h.2 (namesF s) namesF_mem keep j hj)
  have HMEM := Lib.hid (@namesF_mem s)
  obtain ⟨CF, hCF⟩ : ∃ x, Hid (crashF s keep = x) := ⟨_, Lib.hid rfl⟩
  rw [hCF.out] at HFIN ⊢
  have HK := Lib.hid hks
  have HKO := Lib.hid hko
  have HC := Lib.hid hc
  obtain ⟨⟨r, hr⟩, hok⟩ := h
  have HR := Lib.hid hr
  have HOK := Lib.hid hok
  have hnl : (namesF s).length ≤ 64 := by unfold namesF; rw [sortN_length, List.length_map]; exact hok.len
  clear hks hko hc hr hok
  go_enter Try.func14, Try.ntmps14
  go_wp2_with fail
  refine (names_at col i p s r w HR.out HOK.out).mono ?_
  rintro e w1 ⟨no, ncap, rfl, hns, k1⟩
  have E1 := Ext.quiet (S := S3 i) HC.out k1
  have D1 : Dk col i w1 p (crashUp (namesF s) keep s 0) := ⟨⟨r, HR.out.keep k1⟩, HOK.out⟩
  have hns1 : Hid (Own (fun j => w.heap.size ≤ j ∧ j < w1.heap.size) w1 9 1 no (namesF s).length ncap ((namesF s).map Value.string)) := Lib.hid (hns.mono (fun j hj c => ⟨c, hj⟩))
  have HE1 := Lib.hid E1
  have HR0 : Hid (CrR B i p (namesF s).length col w1 (namesF s) keep s (.int .i64 0) w1) := Lib.hid ⟨⟨0, col, by rfl, Nat.zero_le _, Ext.quiet E1.cols (Kp.refl _ _), D1⟩⟩
  have HKW := Lib.hid (HK.out.keep k1)
  have HK1 := Lib.hid k1
  have hWg0 : Hid (w.heap.size ≤ w1.heap.size) := Lib.hid k1.size
  clear hns k1 E1 D1
  generalize hNS : namesF s = ns at *
  have HNS := Lib.hid hNS
  clear hNS
  generalize hN : ns.length = N at *
  have HN := Lib.hid hN
  clear hN
  go_wp2_with fail
  go_loopw [14] (fun v wr => CrR B i p N col w1 ns keep s v wr) (fun v _ => N - (intOf v).toNat)
  case atStart => exact HR0.out
  case round =>
    clear HR0
    obtain ⟨j, col', rfl, hjN, E, D⟩ := hrel.ex
    by_cases hlt : j < N
    · have hjl : j < ns.length := by have := HN.out; omega
      have hwj : IntKind.i64.wrap ((j : Int) + 1) = (j : Int) + 1 := IntWalk.i64_in _ (by omega)
      have hone : ∀ x, w.heap.size ≤ x ∧ x < w1.heap.size → ¬ S3 i (col x) := fun x hx c => by have := HC.out x (by unfold S3 at c; omega); omega
      have hnr := hns1.out.kp E.kp hone
      obtain ⟨nb, noff, rfl, -, hnbl, hnc, -⟩ := hnr.at (k := j) (by rw [List.length_map]; exact hjl)
      rw [List.getElem_map] at hnc
      have hkr := HKW.out.kp E.kp (fun hx a ha c => by have := HKO.out hx a ha; unfold S3 at c; omega)
      have hkm : ns[j] ∈ s.areas.map (·.1) := by have := HNS.out; subst this; exact HMEM.out _ (List.getElem_mem hjl)
      have hnx : crashUp ns keep s (j + 1) = crash1 (crashUp ns keep s j) ns[j] keep[j]? := by
        show crash1 _ (ns[j]?.getD ByteArray.empty) _ = _
        rw [List.getElem?_eq_getElem hjl]; rfl
      have HUJ := Lib.hid (HUP.out (j + 1) (by have := HN.out; omega)).1
      have hrs := crashUp_room ns keep s j
      generalize hnm : ns[j] = nm at *
      have HNM := Lib.hid hnm
      clear hnm
      rw [hnx] at HUJ
      have HNX := Lib.hid hnx
      generalize crashUp ns keep s j = t at *
      obtain ⟨⟨r, hr⟩, hok⟩ := D
      have HOT := Lib.hid hok
      have HE := Lib.hid E
      have HKR := Lib.hid hkr
      clear hnx hrs E hok hnr hone hkr
      obtain ⟨ao, c0, hown, hlk⟩ := hr.lookup nm false
      simp only [Bool.false_eq_true, if_false] at hlk
      obtain ⟨⟨q0, -, -, -, -⟩, -⟩ := cells_five hr.box
      have hgk := HOT.out.get nm
      have hca := crashA_le HOT.out nm keep[j]?
      have hsum := HOT.out.sum
      have hrm := HOT.out.room
      have hc1 : crash1 t nm keep[j]? = putF t nm ⟨(get0 nm t.areas).data.take (crashA t (get0 nm t.areas) keep[j]?).toNat, crashA t (get0 nm t.areas) keep[j]?⟩ := rfl
      rw [hc1] at HUJ HNX
      clear hc1
      have hcA : crashA t (get0 nm t.areas) keep[j]? = max (get0 nm t.areas).safe (min (keepN (get0 nm t.areas) keep[j]?) (t.room - sumF t.areas + (get0 nm t.areas).safe)) := rfl
      generalize crashA t (get0 nm t.areas) keep[j]? = cn at *
      have hkn : keepN (get0 nm t.areas) keep[j]? = (get0 nm t.areas).safe + (match keep[j]? with
        | some v => max 0 (min v (((get0 nm t.areas).data.length : Int) - (get0 nm t.areas).safe))
        | none => 0) := rfl
      generalize keepN (get0 nm t.areas) keep[j]? = kn at *
      generalize get0 nm t.areas = a at *
      obtain ⟨ad, sf⟩ := a
      simp only [] at hown hlk hgk hca hcA hkn HUJ HNX
      have HCA := Lib.hid hcA
      have HKN := Lib.hid hkn
      have kA : Kp Noone wr (wr.alloc (.cells #[.slice ao ad.length c0, .int .i64 sf] 69)) := (Kp.refl _ _).alloc _
      have hAb := heap_alloc_new wr (.cells #[.slice ao ad.length c0, .int .i64 sf] 69)
      have hrA := hr.keep kA
      have hownA := hown.keep kA
      have HEE := Lib.hid HE.out
      have hWg : Hid (w1.heap.size ≤ wr.heap.size) := Lib.hid HE.out.size
      have HKA := Lib.hid (HKR.out.keep kA)
      have kAC := Lib.hid (HE.out.cols)
      have hkA2 := Lib.hid kA
      clear hr hown kA hcA hkn HE HKR
      go_upto_if 30 with fail
      generalize wr.alloc (.cells #[.slice ao ad.length c0, .int .i64 sf] 69) = wA at *
      clear hlk q0 hnc
      obtain ⟨z0, z1, -, -⟩ := cells_two hAb
      go_cut [7] from 31 to 44 (fun v wx => v = .int .i64 kn ∧ Kp Noone wA wx)
      case first =>
        by_cases hjk : j < n
        · obtain ⟨kb, koff, hkl2, rfl, hkb, hkc⟩ := HKA.out.at hjk
          have hkv : keep[j]? = some keep[j] := List.getElem?_eq_getElem hkl2
          have hkn := HKN.out
          rw [hkv] at hkn
          simp only [] at hkn
          generalize keep[j] = kv at *
          have hw1 : IntKind.i64.wrap ((ad.length : Int) - sf) = (ad.length : Int) - sf := IntWalk.i64_in _ (by omega)
          have hw2 : IntKind.i64.wrap (sf + max 0 (min kv ((ad.length : Int) - sf))) = sf + max 0 (min kv ((ad.length : Int) - sf)) := IntWalk.i64_in _ (by omega)
          have HQ := Lib.hid hkn
          clear hkn hkv
          go_wp2_with fail
          go_region
          all_goals (
            go_wp2_with fail
            go_meet
            case rel => exact ⟨by rw [HQ.out], (Kp.refl _ _).drew⟩)
        · have hkv : keep[j]? = none := List.getElem?_eq_none (by have := HKA.out.len; omega)
          have hkn := HKN.out
          rw [hkv] at hkn
          simp only [Int.add_zero] at hkn
          have HQ := Lib.hid hkn
          clear hkn hkv
          go_wp2_with fail
          go_meet
          case rel => exact ⟨by rw [HQ.out], Kp.refl _ _⟩
      case rest =>
        obtain ⟨rfl, kc⟩ := hcut
        have hAc := kc.heap hAb id
        have hrc := hrA.keep kc
        have hoc := hownA.keep kc
        have hkAc := hkA2.out.trans kc
        clear hAb hrA hownA kc z0 z1
        have hw3 : IntKind.i64.wrap (t.room - sumF t.areas) = t.room - sumF t.areas := IntWalk.i64_in _ (by omega)
        have hw4 : IntKind.i64.wrap (t.room - sumF t.areas + sf) = t.room - sumF t.areas + sf := IntWalk.i64_in _ (by omega)
        have hcl := safe_at col' i p t r wc.drew (hrc.keep ((Kp.refl Noone wc).drew)) HOT.out
        have hS : ∀ w', Kp Noone wc w' → w'.cell? ⟨p, 1, none⟩ = some (.int .i64 t.room) ∧ w'.cell? ⟨wr.heap.size, 1, none⟩ = some (.int .i64 sf) := fun w' kk => ⟨(cells_five (kk.heap hrc.box id)).1.2.1, (keep_cells hAc kk).2⟩
        generalize sumF t.areas = sm at *
        go_upto_region 8 with fail
        go_region_held3 (fun w' => w'.cell? ⟨p, 1, none⟩ = some (.int .i64 t.room) ∧ w'.cell? ⟨wr.heap.size, 1, none⟩ = some (.int .i64 sf))
          (first | exact hS _ ((Kp.refl Noone wc).drew) | exact hS _ (((Kp.refl Noone wc).drew).trans k') | assumption)
          (first
            | (go_at_call 33; refine hcl.mono ?_; rintro e w' ⟨rfl, k'⟩))
        have k6 := ((Kp.refl Noone wc).drew).trans k'
        have hA6 := k6.heap hAc id
        have hr6 := hrc.keep k6
        have ho6 := hoc.keep k6
        have hk6 := hkAc.trans k6
        clear hcl hS k6 k' hrc hoc hAc hkAc
        obtain ⟨m, hm⟩ : ∃ m : Nat, cn = m := ⟨cn.toNat, by omega⟩
        subst hm
        have hml : m ≤ ad.length := by omega
        have hmc : m ≤ c0 := by have := ho6.2.1; omega
        obtain ⟨z0, z1, -, -⟩ := cells_two hA6
        obtain ⟨⟨x0, -, -, -, -⟩, -⟩ := cells_five hr6.box
        have kd : Kp Noone w' w'.drew := (Kp.refl _ _).drew
        have hM6 := hr6.map.kp kd id
        obtain ⟨w7, hrun, hto⟩ := hM6.update (P := Try.prog) (t := 9) (m := 64) (e := 69) keyS Try.underlying64 nm (.agg #[.slice ao m m, .int .i64 (m : Int)])
        simp only [encS] at hrun
        have htl : (ad.take m).length = m := by rw [List.length_take]; omega
        have hval : (⟨ad.take m, (m : Int), ao, m⟩ : Ar).val = .agg #[.slice ao m m, .int .i64 (m : Int)] := by unfold Ar.val; rw [htl]
        rw [← hval] at hto
        obtain ⟨col5, r5, D5, E5⟩ := put_ext (B := B) kAC.out (Nat.le_trans (Nat.le_trans hBw hWg0.out) hWg.out) (hk6.none) hr6 nm ⟨ad.take m, (m : Int), ao, m⟩ (F := r.G nm) (X := Noone) (fun j c => c.elim) kd.none (by show Own _ _ _ _ _ (ad.take m).length _ _; rw [htl]; exact (ho6.front hml).keep kd) (fun j c => Or.inl c) hto
        have HD5 := Lib.hid D5
        have HE5 := Lib.hid (HEE.out.trans E5)
        clear hM6 hto D5 E5 kd ho6 hA6 htl hval hr6 hk6
        go_upto_region 10 with fail
        rw [← HCA.out]
        go_region
        all_goals (
          have R := Lib.hid (CrR.mk (N := N) (v := .int .i64 ((j + 1 : Nat) : Int)) ⟨j + 1, col5, by rfl, by omega, HE5.out, by rw [HNX.out]; exact ⟨⟨r5, HD5.out⟩, HUJ.out⟩⟩)
          go_wp2_with fail
          go_roundw
          case rel => exact R.out
          case measure => simp [intOf]; omega)
    · obtain rfl : j = N := by omega
      obtain ⟨⟨r, hr⟩, hok⟩ := D
      have HRR := Lib.hid hr
      have HEE := Lib.hid ((Ext.quiet (S := S3 i) HC.out HK1.out).trans E)
      obtain ⟨⟨q0, q1, q2, q3, q4⟩, qf⟩ := cells_five hr.box
      have hCF := hCF.out
      unfold crashF at hCF
      rw [HNS.out, HN.out] at hCF
      have HCF := Lib.hid hCF
      generalize crashUp ns keep s j = t at *
      clear hr hok E hCF
      go_wp2_with fail
      go_end0
      have k2 : Kp (fun j => j = p) wr ((wr.setCell ⟨p, 3, none⟩ (.int .i64 0)).setCell ⟨p, 4, none⟩ (.bool false)) := ((Kp.refl (fun j => j = p) wr).setCell (fun _ => rfl) _).setCell (fun _ => rfl) _
      have e2 : Ext B (S3 i) col' wr col' _ := box_ext HEE.out.cols (k2.mono (fun j _ c => by rw [c, HRR.out.pc]; unfold S3; omega))
      have hE := HCF.out
      subst hE
      refine ⟨rfl, col', HEE.out.trans e2, ⟨r, HRR.out.setBox k2 rfl ?_⟩, HFIN.out⟩
      exact (heap_set_cell (heap_set_cell HRR.out.box)).trans (by simp)

end Go.Proofs.Ytmmdojnjognccaa
