/-
  WALK of the document's Split: the pieces between a byte.
-/
import Derived.Test.YtfinbppmkffbhaaDoorScriptI
namespace Go.Proofs.YtfinbppmkffbhaaDoor
open Go.RowKit Go.Sort

/-- The pieces so far, and where the next begins. -/
structure SpSt (c : UInt8) (l : List UInt8) (f i : Nat) (ps : List (List UInt8)) : Prop where
  le : f ≤ i
  li : i ≤ l.length
  is : splitF c l = ps ++ splitF c (l.drop f)
  no : ∀ k (h : k < l.length), f ≤ k → k < i → l[k] ≠ c
theorem SpSt.start (c : UInt8) (l : List UInt8) : SpSt c l 0 0 [] := ⟨Nat.le_refl _, Nat.zero_le _, by simp, fun k _ _ h => by omega⟩
theorem SpSt.miss {c : UInt8} {l : List UInt8} {f i : Nat} {ps : List (List UInt8)} (h : SpSt c l f i ps) (hi : i < l.length) (hc : l[i] ≠ c) : SpSt c l f (i + 1) ps :=
  ⟨by have := h.le; omega, hi, h.is, fun k hk h1 h2 => by
    by_cases e : k = i
    · subst e; exact hc
    · exact h.no k hk h1 (by omega)⟩
theorem SpSt.notin {c : UInt8} {l : List UInt8} {f i : Nat} {ps : List (List UInt8)} (h : SpSt c l f i ps) : c ∉ (l.drop f).take (i - f) := by
  intro hm
  obtain ⟨k, hk, e⟩ := List.getElem_of_mem hm
  rw [List.length_take, List.length_drop] at hk
  rw [List.getElem_take, List.getElem_drop] at e
  exact h.no (f + k) (by omega) (by omega) (by omega) e
theorem SpSt.hit {c : UInt8} {l : List UInt8} {f i : Nat} {ps : List (List UInt8)} (h : SpSt c l f i ps) (hi : i < l.length) (hc : l[i] = c) : SpSt c l (i + 1) (i + 1) (ps ++ [(l.drop f).take (i - f)]) := by
  refine ⟨Nat.le_refl _, hi, ?_, fun k _ h1 h2 => by omega⟩
  have e : l.drop f = (l.drop f).take (i - f) ++ c :: l.drop (i + 1) := by
    conv => lhs; rw [← List.take_append_drop (i - f) (l.drop f)]
    rw [List.drop_drop, show f + (i - f) = i by have := h.le; omega, List.drop_eq_getElem_cons hi, hc]
  have e2 : splitF c (l.drop f) = (l.drop f).take (i - f) :: splitF c (l.drop (i + 1)) := by
    conv => lhs; rw [e]
    exact splitF_hit c _ _ h.notin
  rw [h.is, e2]
  simp
theorem SpSt.fin {c : UInt8} {l : List UInt8} {f : Nat} {ps : List (List UInt8)} (h : SpSt c l f l.length ps) : splitF c l = ps ++ [l.drop f] := by
  have hn := h.notin
  rw [List.take_of_length_le (by rw [List.length_drop]; omega)] at hn
  rw [h.is, splitF_miss c _ hn]
/-- What the document's Split answers. -/
structure SplitO (l : List UInt8) (c : UInt8) (w : World) (e : Ending) (w' : World) : Prop where
  kp : Kp Noone w w'
  is : ∃ ao cap, e = .returned (.slice ao (splitF c l).length cap) ∧ SS w' ao (splitF c l).length cap (splitF c l)
theorem sv_one (l : List (List UInt8)) : ∀ u ∈ sv l, u.oneCell' = true := by
  intro u hu
  obtain ⟨_, _, rfl⟩ := List.mem_map.1 hu
  rfl
theorem sv_app (a b : List (List UInt8)) : sv (a ++ b) = sv a ++ sv b := by simp [sv]
theorem Own.ss {F : Nat → Prop} {w : World} {ao : Option Addr} {n cap : Nat} {ls : List (List UInt8)} (h : Own F w 9 1 ao n cap (sv ls)) : SS w ao n cap ls :=
  ⟨by have := h.1; simpa [sv] using this, h.2.1, h.2.2.1, h.row⟩
set_option maxHeartbeats 4000000 in
set_option maxRecDepth 100000 in
theorem split_ref (s : ByteArray) (c : UInt8) (w : World) (hs : s.size ≤ 4194304) :
    Calls Tryd.prog 16 #[.string s, .int .u8 (c.toNat : Int)] w fun e w' => SplitO s.data.toList c w e w' := by
  have hsl := ba_len s
  have hget : ∀ i (h : i < s.size), s.data.toList[i]? = some (s[i]'h) := fun i h => Lib.data_getElem? s i h
  have hext : ∀ a b, (s.extract a b).data.toList = (s.data.toList.drop a).take (b - a) := fun a b => by
    rw [ByteArray.data_extract, Array.toList_extract]
  obtain ⟨l, hl⟩ : ∃ l, s.data.toList = l := ⟨_, rfl⟩
  rw [hl] at hsl hget ⊢
  simp only [hl] at hext
  have HSL := Lib.hid hsl
  have HG := Lib.hid hget
  have HX := Lib.hid hext
  clear hsl hget hl hext
  have hcm := c.toNat_lt
  obtain ⟨i0, hi, hz0, hz1, hz2⟩ := info_parts (P := Tryd.prog) (e := 9) (z := .string .empty) (size := 1) (bytes := 16) (by kernel_rfl)
  go_enter Tryd.func16, Tryd.ntmps16
  go_wp2_with fail
  go_loopw [5, 6, 7] (fun v5 v6 v7 wx => ∃ (f i : Nat) (ps : List (List UInt8)) (ao : Option Addr) (cap : Nat), v6 = .int .i64 (f : Int) ∧ v7 = .int .i64 (i : Int) ∧ f ≤ i ∧ i ≤ s.size ∧ v5 = .slice ao ps.length cap ∧ ps.length ≤ i ∧ Hid (SpSt c l f i ps) ∧ Hid (Own (fun k => w.heap.size ≤ k) wx 9 1 ao ps.length cap (sv ps)) ∧ Hid (Kp Noone w wx)) (fun _ _ v7 _ => (4194305 - intOf v7).toNat)
  case atStart => exact ⟨0, 0, [], _, _, rfl, rfl, Nat.le_refl _, Nat.zero_le _, rfl, Nat.le_refl _, Lib.hid (SpSt.start c l), Lib.hid (Own.nil _ _ _ _ _), Lib.hid ((Kp.refl _ _).alloc _)⟩
  case round =>
    obtain ⟨f, i, ps, ao, cap, rfl, rfl, hfi, his, rfl, hpi, hsp, ho, hk⟩ := hrel
    have hf0 : (0 : Int) ≤ (f : Int) := by omega
    have hfz : (f : Int) ≤ (i : Int) := by omega
    have hfs : f ≤ s.size := by omega
    have hfsz : (f : Int) ≤ (s.size : Int) := by omega
    by_cases hlt : i < s.size
    · have hltz : (i : Int) < (s.size : Int) := by omega
      have hiz : (i : Int) ≤ (s.size : Int) := by omega
      have hwi : IntKind.i64.wrap ((i : Int) + 1) = (i : Int) + 1 := IntWalk.i64_in _ (by omega)
      have hll : i < l.length := by rw [HSL.out]; exact hlt
      obtain ⟨x, hx⟩ : ∃ x, s[i]'hlt = x := ⟨_, rfl⟩
      have hlx : l[i] = x := by
        have h1 := HG.out i hlt
        rw [List.getElem?_eq_getElem hll, hx] at h1
        injection h1
      have hxn : (s[i]'hlt).toNat = x.toNat := by rw [hx]
      have hxm := x.toNat_lt
      by_cases hc : x = c
      · have hcc : x.toNat = c.toNat := by rw [hc]
        have HSP : Hid (SpSt c l (i + 1) (i + 1) (ps ++ [(l.drop f).take (i - f)])) := Lib.hid (hsp.out.hit hll (by rw [hlx]; exact hc))
        have HP : Hid (strV ((l.drop f).take (i - f)) = .string (s.extract f i)) := Lib.hid (by
          unfold strV
          congr 1
          apply ByteArray.ext
          apply Array.ext'
          rw [HX.out])
        have HROW : Hid (∀ W : World, Row (W.alloc (.cells #[.string (s.extract f i)] 9)) (some ⟨W.heap.size, 0, none⟩) (sv [(l.drop f).take (i - f)])) := Lib.hid (fun W => by
          unfold sv
          rw [List.map_cons, List.map_nil, HP.out]
          exact Row.ofHeap (heap_alloc_new W _))
        have HSP2 := Lib.hid hsp.out.le
        rw [hcc] at hxn
        clear hx hc hcc hlx hsp hll
        generalize c.toNat = cm at *
        go_upto_region 7 with fail
        go_wp2_with (at_builtin; refine wpList_append_gen _ rfl (.tmp 20) (.tmp 25) 41 rfl 9 i0 (.string .empty) 1 16 Tryd.underlying41 hi hz0 hz1 hz2 rfl ao ps.length cap rfl _ 1 1 rfl _ (sv ps) (ho.out.keep ((Kp.refl _ _).alloc _)) (sv [(l.drop f).take (i - f)]) rfl (HROW.out _) (sv_one _) (by omega) (by unfold maxLen; omega) ?_)
        intro ao' cap' w2 ho2 hk2
        have HO2 : Hid (Own (fun k => w.heap.size ≤ k) w2 9 1 ao' (ps ++ [(l.drop f).take (i - f)]).length cap' (sv (ps ++ [(l.drop f).take (i - f)])) ∧ Kp Noone w w2) := Lib.hid ⟨by
          rw [sv_app, List.length_append, List.length_singleton]
          refine ho2.mono (fun x hx h => ?_)
          rcases h with h | h
          · exact h
          · have s1 := hk.out.size
            have s2 : (wr.alloc (.cells #[.string (s.extract f i)] 9)).heap.size = wr.heap.size + 1 := by simp
            omega, Kp.fin (hk.out.alloc _) hk2 (fun x h => Or.inr h)⟩
        have hpl : (ps ++ [(l.drop f).take (i - f)]).length = ps.length + 1 := by simp
        clear ho2 hk2
        go_wp2_with fail
        go_roundw
        case rel => exact ⟨i + 1, i + 1, _, ao', cap', rfl, rfl, Nat.le_refl _, hlt, by rw [hpl], by rw [hpl]; omega, HSP, Lib.hid HO2.out.1, Lib.hid HO2.out.2⟩
        case measure => exact meas_down i s.size hlt hs
      · have hne : ((x.toNat : Int) == (c.toNat : Int)) = false := by
          rw [beq_eq_false_iff_ne]
          intro e
          exact hc (UInt8.toNat_inj.1 (by omega))
        have HSP : Hid (SpSt c l f (i + 1) ps) := Lib.hid (hsp.out.miss hll (by rw [hlx]; exact hc))
        clear hx hc hlx hsp hll
        generalize x.toNat = xm at *
        generalize c.toNat = cm at *
        go_wp2_with fail
        go_roundw
        case rel => exact ⟨f, i + 1, ps, ao, cap, rfl, rfl, by omega, hlt, rfl, by omega, HSP, ho, hk⟩
        case measure => exact meas_down i s.size hlt hs
    · obtain rfl : i = s.size := by omega
      have hltz : ¬ (s.size : Int) < (s.size : Int) := by omega
      have HF : Hid (splitF c l = ps ++ [l.drop f]) := Lib.hid (by
        have h1 := hsp.out
        rw [← HSL.out] at h1
        exact h1.fin)
      have HP : Hid (strV (l.drop f) = .string (s.extract f s.size)) := Lib.hid (by
        unfold strV
        congr 1
        apply ByteArray.ext
        apply Array.ext'
        rw [HX.out, List.take_of_length_le (by rw [List.length_drop, HSL.out]; omega)])
      have HROW : Hid (∀ W : World, Row (W.alloc (.cells #[.string (s.extract f s.size)] 9)) (some ⟨W.heap.size, 0, none⟩) (sv [l.drop f])) := Lib.hid (fun W => by
        unfold sv
        rw [List.map_cons, List.map_nil, HP.out]
        exact Row.ofHeap (heap_alloc_new W _))
      clear hlt hsp
      go_upto_region 9 with fail
      go_wp2_with (at_builtin; refine wpList_append_gen _ rfl (.tmp 29) (.tmp 33) 41 rfl 9 i0 (.string .empty) 1 16 Tryd.underlying41 hi hz0 hz1 hz2 rfl ao ps.length cap rfl _ 1 1 rfl _ (sv ps) (ho.out.keep ((Kp.refl _ _).alloc _)) (sv [l.drop f]) rfl (HROW.out _) (sv_one _) (by omega) (by unfold maxLen; omega) ?_)
      intro ao' cap' w2 ho2 hk2
      have HFIN : Hid (SplitO l c w (.returned (.slice ao' (ps.length + 1) cap')) w2) := Lib.hid ⟨Kp.fin (hk.out.alloc _) hk2 (fun x h => Or.inr h), ao', cap', by rw [HF.out, List.length_append, List.length_singleton], by
        rw [HF.out, List.length_append, List.length_singleton]
        rw [← sv_app] at ho2
        exact ho2.ss⟩
      clear ho2 hk2
      go_wp2_with fail
      go_ret
      exact HFIN.out

end Go.Proofs.YtfinbppmkffbhaaDoor
