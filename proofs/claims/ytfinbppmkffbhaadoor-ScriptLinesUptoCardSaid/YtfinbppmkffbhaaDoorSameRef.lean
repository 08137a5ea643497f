/-
  WALK of the document's Same: two commands of the same content are the same.
-/
import Derived.Test.YtfinbppmkffbhaaDoorScriptI
import Derived.BigQuiet
import Derived.Deep.Cut
import Derived.OwnWalk
import Derived.Laws.BytesArg
import Derived.Laws.IdiomStrings
namespace Go.Proofs.YtfinbppmkffbhaaDoor
open Go.RowKit Go.Sort

/-- Bytes as a text. -/
theorem bs_str {w : World} {ao : Option Addr} {n cap : Nat} {l : List UInt8} (h : BS w ao n cap l) :
    (convert 25 9 (.slice ao n cap)).run Tryd.prog w = .ok (.string ⟨l.toArray⟩) w := by
  have hl := h.len
  subst hl
  cases ao with
  | none =>
    have h0 : l = [] := by
      rcases h.row with h0 | ⟨b, off, h1, -⟩
      · have := congrArg List.length h0
        rw [length_bv] at this
        exact List.eq_nil_of_length_eq_zero this
      · cases h1
    subst h0
    exact run_convert_bytes_nil w 25 5 Tryd.underlying25 Tryd.underlying5 _ _ 9 Tryd.underlying9
  | some a =>
    refine run_convert_bytes_back w 25 9 5 a cap l Tryd.underlying25 Tryd.underlying5 Tryd.underlying9 (fun j hj => ?_)
    rcases h.row with h0 | ⟨b, off, h1, hr⟩
    · have := congrArg List.length h0
      rw [length_bv] at this
      simp at this
      rw [this] at hj
      simp at hj
    · injection h1 with h1
      subst h1
      have hc := hr j (by rw [length_bv]; exact hj)
      rw [bv_get l _ hj] at hc
      rw [Addr.add_lit]
      exact hc
set_option maxHeartbeats 8000000 in
set_option maxRecDepth 100000 in
theorem same_ref (c : CmdV) (la lb : Loc) (w : World) (hA : CmdAt w c la) (hB : CmdAt w c lb) :
    Calls Tryd.prog 14 #[cmdV c la, cmdV c lb] w fun e w' => e = .returned (.bool true) ∧ Kp Noone w w' := by
  have hx : (w.alloc (.cells (cmdCs c la) 27)).heap.size = w.heap.size + 1 := by simp
  have hk1 : Kp Noone w (w.alloc (.cells (cmdCs c la) 27)) := (Kp.refl _ _).alloc _
  have hk2 : Kp Noone (w.alloc (.cells (cmdCs c la) 27)) ((w.alloc (.cells (cmdCs c la) 27)).alloc (.cells (cmdCs c lb) 27)) := (Kp.refl _ _).alloc _
  have hr1 := hk2.heap (heap_alloc_new w (.cells (cmdCs c la) 27)) id
  have hr2 := heap_alloc_new (w.alloc (.cells (cmdCs c la) 27)) (.cells (cmdCs c lb) 27)
  rw [hx] at hr2
  have hca := bs_str (hA.keep (hk1.trans hk2)).data
  have hcb := bs_str (hB.keep (hk1.trans hk2)).data
  have HNA := Lib.hid (hA.keep (hk1.trans hk2)).nums
  have HNB := Lib.hid (hB.keep (hk1.trans hk2)).nums
  have HK := Lib.hid (hk1.trans hk2)
  have HNM := hA.nlen
  clear hA hB hk1 hk2 hx
  obtain ⟨v, ns, o, d⟩ := c
  obtain ⟨k, r, t, a, b⟩ := o
  obtain ⟨no, nc, bo, bc⟩ := la
  obtain ⟨no', nc', bo', bc'⟩ := lb
  unfold cmdV
  unfold cmdCs strV at hr1 hr2 hca hcb HNA HNB HK ⊢
  simp only [] at hr1 hr2 hca hcb HNA HNB HK HNM ⊢
  generalize (⟨v.toArray⟩ : ByteArray) = sv at *
  generalize (⟨d.toArray⟩ : ByteArray) = sd at *
  generalize d.length = dl at *
  go_enter Tryd.func14, Tryd.ntmps14
  go_upto_region 1 with fail
  generalize (w.alloc (.cells #[.string sv, .slice no ns.length nc, .int .i64 k, .int .i64 r, .int .i64 t, .int .i64 a, .int .i64 b, .slice bo dl bc] 27)).alloc (.cells #[.string sv, .slice no' ns.length nc', .int .i64 k, .int .i64 r, .int .i64 t, .int .i64 a, .int .i64 b, .slice bo' dl bc'] 27) = w0 at *
  generalize hgs : w.heap.size = g at *
  clear hgs
  have HR1 := Lib.hid hr1
  have HR2 := Lib.hid hr2
  obtain ⟨z0, z1, z2, z3, z4, z5, z6, z7⟩ := cells_8f hr1
  obtain ⟨y0, y1, y2, y3, y4, y5, y6, y7⟩ := cells_8f hr2
  clear hr1 hr2
  obtain ⟨m, hm⟩ : ∃ m, ns.length = m := ⟨_, rfl⟩
  rw [hm] at z1 y1 HNM
  have HM := Lib.hid hm
  simp only [hm] at *
  clear hm
  go_wp2_with fail
  clear z0 z1 z2 z3 z4 z5 z6 z7 y0 y1 y2 y3 y4 y5 y6 y7 hca hcb
  go_loopw [39] (fun v wx => ∃ i : Nat, v = .int .i64 (i : Int) ∧ i ≤ m ∧ Hid (Kp Noone w0 wx)) (fun v _ => (4194305 - intOf v).toNat)
  case atStart => exact ⟨0, rfl, Nat.zero_le _, Lib.hid (Kp.refl _ _)⟩
  case round =>
    obtain ⟨i, rfl, hi, hk⟩ := hrel
    by_cases hlt : i < m
    · have hltz : (i : Int) < (m : Int) := by omega
      have hwi : IntKind.i64.wrap ((i : Int) + 1) = (i : Int) + 1 := IntWalk.i64_in _ (by omega)
      obtain ⟨b1, o1, hl1, rfl, -, q1⟩ := (HNA.out.keep hk.out).at hlt
      obtain ⟨b2, o2, hl2, rfl, -, q2⟩ := (HNB.out.keep hk.out).at hlt
      generalize ns[i] = x at *
      obtain ⟨z0, z1, z2, z3, z4, z5, z6, z7⟩ := cells_8f (hk.out.heap HR1.out id)
      obtain ⟨y0, y1, y2, y3, y4, y5, y6, y7⟩ := cells_8f (hk.out.heap HR2.out id)
      clear z0 z2 z3 z4 z5 z6 z7 y0 y2 y3 y4 y5 y6 y7 hl1 hl2
      go_upto_region 6 with fail
      go_quiet (fail)
      have HKQ : Hid (Kp Noone w0 (wr.drewN nq)) := Lib.hid (hk.out.drewN _)
      go_wp2_with fail
      go_roundw
      case rel => exact ⟨i + 1, rfl, hlt, HKQ⟩
      case measure => exact meas_down i m hlt HNM
    · obtain rfl : i = m := by omega
      have hltz : ¬ (i : Int) < (i : Int) := by omega
      clear hlt
      go_wp2_with fail
      go_ret
      exact ⟨rfl, HK.out.trans hk.out⟩

end Go.Proofs.YtfinbppmkffbhaaDoor
