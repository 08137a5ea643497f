/-
  THE WALK of the document's snap: Current.
-/
import Derived.Test.YtigdhdclfdojgaaSnapRefA
import Derived.Test.YtigdhdclfdojgaaPackSeal
import Derived.Test.YtigdhdclfdojgaaRefDo
import Derived.Test.YtigdhdclfdojgaaSnapLoad
import Derived.Deep.MidRow
namespace Go.Proofs.Ytigdhdclfdojgaa
open Go.RowKit

theorem info_rdr : (Try.prog.info? 138).map (·.size) = some 2 := by kernel_rfl
def putQ (w : World) (g : Nat) (ao : Option Addr) (n cap bad : Nat) : World := w.setCells g 0 [.slice ao n cap, .int .i64 (bad : Int)]
theorem putQ_kp (w : World) (g : Nat) (ao : Option Addr) (n cap bad : Nat) : Kp (fun j => j = g) w (putQ w g ao n cap bad) :=
  ((Kp.refl (fun j => j = g) w).setCell (p := ⟨g, 0, none⟩) (fun _ => rfl) _).setCell (p := ⟨g, 1, none⟩) (fun _ => rfl) _
theorem putQ_heap {w : World} {g e : Nat} {a0 a1 : Value} (ao : Option Addr) (n cap bad : Nat) (h : w.heap[g]? = some (.cells #[a0, a1] e (0, 0))) : (putQ w g ao n cap bad).heap[g]? = some (.cells #[.slice ao n cap, .int .i64 (bad : Int)] e (0, 0)) :=
  (heap_set_cell (heap_set_cell h)).trans (by simp)
theorem wpList_store_rdr {ops : Array Oper} {rest : List Oper} {op : Oper} {a : Act} {w : World} {Q : Exit → Act → World → Prop} (hgd : op.guard = none) (x y : Operand) (ho : op.op = .store 138 x y)
    (g : Nat) (ao : Option Addr) (n cap bad : Nat) (hx : a.eval x = .pointer (some ⟨g, 0, none⟩)) (hy : a.eval y = rrV ao n cap bad) {a0 a1 : Value} (hb : w.heap[g]? = some (.cells #[a0, a1] 138 (0, 0)))
    (h : wpList Try.prog ops Q rest (a.put op.dst undef) (putQ w g ao n cap bad)) : wpList Try.prog ops Q (op :: rest) a w :=
  wpList_store_mid hgd 138 x y ho g 0 #[.slice ao n cap, .int .i64 (bad : Int)] hx hy (show w.there g 0 2 from there_row3 (cs := #[a0, a1]) hb) info_rdr (by simp [Value.oneCell']) h

/-- What Current answers. -/
structure CurTo (w : World) (R : Pap × Nat) (e : Ending) (w' : World) : Prop where
  ex : e = .returned (.tuple #[.int .i64 (R.1.turn : Int), .int .i64 (R.1.slot : Int), .int .u64 (R.1.sum : Int), .int .i64 (R.2 : Int)]) ∧ Kp Noone w w'

attribute [local irreducible] putQ

set_option maxHeartbeats 4000000 in
set_option maxRecDepth 100000 in
theorem current_ref (P : Nat → Prop) (ao : Option Addr) (cap : Nat) (m : RD) (w : World) (h : RA P w ao m.L.length cap m.L) (hok : ROk m) :
    Calls Try.prog 58 #[rdV ao cap m] w fun e w' => CurTo w (currentR m) e w' := by
  obtain ⟨RES, hRES⟩ : ∃ x, Hid (currentR m = x) := ⟨_, Lib.hid rfl⟩
  rw [hRES.out]
  have HR := hRES.out
  unfold currentR at HR
  have h64 := hok.len
  have hfit := hok.fit
  obtain ⟨L, room, steps, fuse, down⟩ := m
  simp only [] at h h64 HR hfit
  have hA := heap_alloc_new w (.cells #[.slice ao L.length cap, .int .i64 room, .int .i64 steps, .int .i64 fuse, .bool down] 51)
  have kA : Kp Noone w (w.alloc (.cells #[.slice ao L.length cap, .int .i64 room, .int .i64 steps, .int .i64 fuse, .bool down] 51)) := (Kp.refl _ _).alloc _
  have HRR := Lib.hid HR
  clear hRES HR
  unfold rdV rdC
  go_enter Try.func58, Try.ntmps58
  go_upto_region 1 with fail
  generalize w.alloc (.cells #[.slice ao L.length cap, .int .i64 room, .int .i64 steps, .int .i64 fuse, .bool down] 51) = wA at *
  generalize hgx : w.heap.size = gx at *
  obtain ⟨⟨y0, y1, y2, y3, y4⟩, -⟩ := cells_five hA
  have hra := h.keep kA
  clear h
  cases down with
  | true =>
    have HR2 := HRR.out
    rw [if_pos rfl] at HR2
    subst HR2
    go_wp2_with fail
    refine bodyPost_ret (results_tmp4 rfl _ _ _) rfl ?_
    exact ⟨⟨rfl, kA⟩⟩
  | false =>
    have HR2 := HRR.out
    rw [if_neg (by simp)] at HR2
    have hat := at_ref P ao L.length cap L room steps fuse false ckNow wA hra (by omega)
    unfold diskV at hat
    by_cases hg : alGet ckNow L = none
    · rw [if_pos hg] at HR2
      subst HR2
      rw [atL_none hg] at hat
      go_wp2_with fail
      refine hat.mono ?_
      rintro e w1 ⟨rfl, k1⟩
      go_wp2_with fail
      refine bodyPost_ret (results_tmp4 rfl _ _ _) rfl ?_
      exact ⟨⟨rfl, kA.trans k1⟩⟩
    · rw [if_neg hg] at HR2
      obtain ⟨i, hi, hai, hnm, hge⟩ := atL_some hg
      rw [hai] at hat
      have hg0 : get0 ckNow L = L[i].2 := by unfold get0; rw [hge]; rfl
      rw [hg0] at HR2
      obtain ⟨b, off, bo, bm, bc, rfl, hbl, -, c0, c1, c2, hbd⟩ := hra.get i hi
      have hft := (hfit L[i] (List.getElem_mem hi)).2.2
      have hlen := hbd.1.len
      generalize L[i].2.data = d at *
      have HRA := Lib.hid HR2
      clear HR2 HRR hg hai hge hg0 hfit c0 c2
      go_wp2_with fail
      refine hat.mono ?_
      rintro e w1 ⟨rfl, k1⟩
      obtain ⟨⟨y0, y1, y2, y3, y4⟩, -⟩ := cells_five (k1.heap hA id)
      have c1 := k1.cell c1 id
      have hb1 := hbd.1.keep k1
      have HK1 := Lib.hid (kA.trans k1)
      have hop := refOpen_any bo bm bc d w1 hb1 (by omega)
      clear hat k1 hb1 hbd hA kA
      go_wp2_with fail
      refine hop.mono ?_
      rintro e w2 ⟨co, cm, cc, rfl, ho, k2⟩
      have hob := ho.bs
      have HK2 := Lib.hid (HK1.out.trans k2)
      have hoe := openE_le d
      have hol := openL_length d
      have HRB := HRA.out
      unfold readPF at HRB
      generalize openL d = c at *
      generalize openE d = oe at *
      have HRB := Lib.hid HRB
      clear hop ho k2 HRA y0 y1 y2 y3 y4 c1
      obtain ⟨R1, hR1⟩ : ∃ x, Hid (papR1 c = x) := ⟨_, Lib.hid rfl⟩
      obtain ⟨R2, hR2⟩ : ∃ x, Hid (papR2 c = x) := ⟨_, Lib.hid rfl⟩
      obtain ⟨R3, hR3⟩ : ∃ x, Hid (papR3 c = x) := ⟨_, Lib.hid rfl⟩
      have e1 : rcount c 0 1099511627776 = R1 := hR1.out
      have e2 : rcount R1.1.1 R1.1.2 1099511627776 = R2 := by rw [← hR1.out]; exact hR2.out
      have e3 : rnum R2.1.1 R2.1.2 = R3 := by rw [← hR2.out]; exact hR3.out
      have f1 : R1.1.2 ≤ 13 := by rw [← e1]; exact rcount_bad_le _ _ _ (by omega)
      have f2 : R2.1.2 ≤ 13 := by rw [← e2]; exact rcount_bad_le _ _ _ f1
      have eP : papR c = (⟨R1.2, R2.2, R3.2⟩, rdone R3.1.1 R3.1.2) := by unfold papR; rw [hR1.out, hR2.out, hR3.out]
      have HRC := HRB.out
      rw [eP] at HRC
      have HRC := Lib.hid HRC
      have C1 : Calls Try.prog 87 #[.agg #[.slice co cm cc, .int .i64 0], .int .i64 1099511627776] w2 (RefPost w2 co cm cc c R1.1.1 R1.1.2 (.int .i64 (R1.2 : Int))) := by
        have h := refReadCount_any co cm cc c 0 1099511627776 w2 hob (by omega) (by omega) (by omega)
        rw [e1] at h
        exact h
      have E2 := Lib.hid e2
      have E3 := Lib.hid e3
      have HF := Lib.hid (And.intro f1 f2)
      clear e1 e2 e3 hR1 hR2 hR3 eP HRB f1 f2
      go_wp2_with fail
      refine C1.mono ?_
      rintro e w3 ⟨r1o, r1n, r1c, rfl, hb3, k3⟩
      have hbs3 := hb3 w3 (hob.keep k3)
      have F3 := Lib.hid hb3
      have hgs : w2.heap.size ≤ w3.heap.size := k3.size
      have HD3 := Lib.hid ((hob.dataP (P := fun j => j < w2.heap.size) (fun _ h => h)).keep k3)
      have HK3 := Lib.hid (HK2.out.trans k3)
      have C2 := fun (W : World) (hb : BS W r1o r1n r1c R1.1.1) => refReadCount_any r1o r1n r1c R1.1.1 R1.1.2 1099511627776 W hb HF.out.1 (by omega) (by omega)
      rw [E2.out] at C2
      have HB3 := Lib.hid hbs3
      clear C1 hob hb3 k3 hbs3
      unfold rrV at C2 ⊢
      have kB : Kp Noone w3 (w3.alloc (.cells #[.slice r1o r1n r1c, .int .i64 (R1.1.2 : Int)] 138)) := (Kp.refl _ _).alloc _
      have hB := heap_alloc_new w3 (.cells #[.slice r1o r1n r1c, .int .i64 (R1.1.2 : Int)] 138)
      have HB4 := Lib.hid (HB3.out.keep kB)
      have HK4 := Lib.hid (HK3.out.trans kB)
      have HD4 := Lib.hid ((HD3.out.mono (Q := fun j => j < w3.heap.size) (fun _ _ c => Nat.lt_of_lt_of_le c hgs)).keep kB)
      go_upto_region 8 with fail
      generalize w3.alloc (.cells #[.slice r1o r1n r1c, .int .i64 (R1.1.2 : Int)] 138) = w4 at *
      have hgb : w.heap.size ≤ w3.heap.size := HK3.out.size
      generalize w3.heap.size = gb at *
      obtain ⟨z0, z1, -, -⟩ := cells_two hB
      go_wp2_with fail
      refine (C2 _ HB4.out).mono ?_
      rintro e w5 ⟨r2o, r2n, r2c, rfl, hb5, k5⟩
      have hB5 := k5.heap hB id
      have F5 := Lib.hid hb5
      have HD5 := Lib.hid (HD4.out.keep k5)
      have HK5 := Lib.hid (HK4.out.trans k5)
      clear C2 hb5 k5 hB z0 z1 HB3 HB4 kB HD3 HD4
      unfold rrV
      have k6 := putQ_kp w5 gb r2o r2n r2c R2.1.2
      have hB6 := putQ_heap r2o r2n r2c R2.1.2 hB5
      have HD6 := Lib.hid (HD5.out.kp k6 (fun j _ c e => by omega))
      have HK6 := Lib.hid (HK5.out.fin k6 (fun j e => Or.inr (by omega)))
      go_upto_region 9 with (refine wpList_store_rdr rfl (.tmp 9) (.tmp 38) rfl gb r2o r2n r2c R2.1.2 (by rfl) (by rfl) hB5 ?_)
      clear k6 hB5 HD5 HK5
      generalize putQ w5 gb r2o r2n r2c R2.1.2 = w6 at *
      obtain ⟨z0, z1, -, -⟩ := cells_two hB6
      have hbs6 := F5.out w6 (F3.out w6 HD6.out.1)
      have C3 := refReadNum_any r2o r2n r2c R2.1.1 R2.1.2 w6 hbs6 HF.out.2
      rw [E3.out] at C3
      unfold rrV at C3
      clear hbs6
      go_wp2_with fail
      refine C3.mono ?_
      rintro e w7 ⟨r3o, r3n, r3c, rfl, hb7, k7⟩
      have hB7 := k7.heap hB6 id
      have F7 := Lib.hid hb7
      have HD7 := Lib.hid (HD6.out.keep k7)
      have HK7 := Lib.hid (HK6.out.trans k7)
      clear C3 hb7 k7 hB6 z0 z1 HD6 HK6
      unfold rrV
      have k8 := putQ_kp w7 gb r3o r3n r3c R3.1.2
      have hB8 := putQ_heap r3o r3n r3c R3.1.2 hB7
      have HD8 := Lib.hid (HD7.out.kp k8 (fun j _ c e => by omega))
      have HK8 := Lib.hid (HK7.out.fin k8 (fun j e => Or.inr (by omega)))
      go_upto_region 10 with (refine wpList_store_rdr rfl (.tmp 9) (.tmp 43) rfl gb r3o r3n r3c R3.1.2 (by rfl) (by rfl) hB7 ?_)
      clear k8 hB7 HD7 HK7
      generalize putQ w7 gb r3o r3n r3c R3.1.2 = w8 at *
      obtain ⟨z0, z1, -, -⟩ := cells_two hB8
      have hbs8 := F7.out w8 (F5.out w8 (F3.out w8 HD8.out.1))
      have C4 := refDone_any r3o r3n r3c R3.1.1 R3.1.2 w8 hbs8
      unfold rrV at C4
      clear hbs8
      generalize rdone R3.1.1 R3.1.2 = dn at *
      go_wp2_with fail
      refine C4.mono ?_
      rintro e w9 ⟨rfl, k9⟩
      have hB9 := k9.heap hB8 id
      have HK9 := Lib.hid (HK8.out.trans k9)
      clear C4 k9 hB8 z0 z1 HD8 HK8
      have k10 := putQ_kp w9 gb r3o r3n r3c dn
      have hB10 := putQ_heap r3o r3n r3c dn hB9
      have HK10 := Lib.hid (HK9.out.fin k10 (fun j e => Or.inr (by omega)))
      go_upto_region 11 with (refine wpList_store_rdr rfl (.tmp 9) (.tmp 46) rfl gb r3o r3n r3c dn (by rfl) (by rfl) hB9 ?_)
      clear k10 hB9 HK9
      generalize putQ w9 gb r3o r3n r3c dn = w10 at *
      obtain ⟨z0, z1, -, -⟩ := cells_two hB10
      generalize R1.2 = tn at *
      generalize R2.2 = sn at *
      generalize R3.2 = un at *
      have HRD := HRC.out
      clear HRC hoe
      by_cases hE : oe = 0
      case neg =>
        rw [if_pos hE] at HRD
        subst HRD
        have n0 : (oe != 0) = true := by simpa using hE
        go_wp2_with fail
        refine bodyPost_ret (results_tmp4 rfl _ _ _) rfl ?_
        exact ⟨⟨rfl, HK10.out⟩⟩
      subst hE
      rw [if_neg (by simp)] at HRD
      by_cases hdn : dn = 0
      case neg =>
        rw [if_pos (Or.inl hdn)] at HRD
        subst HRD
        have n0 : ((dn : Int) != 0) = true := by simpa using hdn
        go_wp2_with fail
        refine bodyPost_ret (results_tmp4 rfl _ _ _) rfl ?_
        exact ⟨⟨rfl, HK10.out⟩⟩
      subst hdn
      rw [Int.natCast_zero] at z1
      by_cases htn : tn = 0
      · rw [if_pos (Or.inr htn)] at HRD
        subst HRD
        have n0 : (tn : Int) < 1 := by omega
        clear htn
        go_wp2_with fail
        refine bodyPost_ret (results_tmp4 rfl _ _ _) rfl ?_
        exact ⟨⟨rfl, HK10.out⟩⟩
      · rw [if_neg (by simpa using htn)] at HRD
        subst HRD
        have n0 : ¬ (tn : Int) < 1 := by omega
        clear htn
        go_wp2_with fail
        refine bodyPost_ret (results_tmp4 rfl _ _ _) rfl ?_
        exact ⟨⟨rfl, HK10.out⟩⟩

end Go.Proofs.Ytigdhdclfdojgaa
