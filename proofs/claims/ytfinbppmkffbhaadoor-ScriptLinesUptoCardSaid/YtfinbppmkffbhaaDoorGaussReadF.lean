/-
  THE WALK of Read, over any text: what it answers is gaussF.
-/
import Derived.Test.YtfinbppmkffbhaaDoorLastIdx
import Derived.ScopeJumps
import Derived.Lib.AtoiAll
import Derived.Lib.AtoiAllMem
import Derived.Test.YtfinbppmkffbhaaDoorGaussPlain
namespace Go.Proofs.YtfinbppmkffbhaaDoor
open Go.RowKit Go.Sort

/-- A scope that is left by one goto, forward. -/
theorem wp_scope_fwd {P : Program} {a : Act} {w : World} {Q : Exit → Act → World → Prop} {c rest : Code} (l : Nat) (hf : findLabel c l = some rest)
    (h : c.wp P (Exit.jump l (fun a w => rest.wp P (Exit.noGoto Q) a w) Q) a w) : (Code.scope c).wp P Q a w :=
  wp_scope_jumps l _ (fun _ _ => 0) hf h (fun _ _ hJ => wp_mono hJ (fun e a w hq => by
    cases e with
    | goto l => exact hq.elim
    | normal => exact hq
    | exit id => exact hq
    | ret => exact hq
    | panic ch => exact hq
    | outgrown => exact hq))
/-- The library's tables and errors lie as start-up lays them. -/
structure Laid (w : World) : Prop where
  pow : PowTab w
  utf : UTab w
  syn : ∃ tp p, w.var? Tryd.prog "strconv.ErrSyntax" = some #[.iface tp p]
  ran : ∃ tp p, w.var? Tryd.prog "strconv.ErrRange" = some #[.iface tp p]
theorem var_keep {w w' : World} {nm : String} {cs : Array Value} (h : w.var? Tryd.prog nm = some cs) (k : Kp Noone w w') : w'.var? Tryd.prog nm = some cs := by
  unfold World.var? at *
  cases hg : Tryd.prog.globalNamed nm with
  | none => rw [hg] at h; exact h
  | some g =>
    rw [hg] at h
    simp only [Option.bind_some] at h ⊢
    cases hb : w.heap[g]? with
    | none => rw [hb] at h; simp at h
    | some o =>
      have hl : g < w.heap.size := (Array.getElem?_eq_some_iff.1 hb).1
      rw [k.block g hl id]
      exact h
theorem Laid.keep {w w' : World} (h : Laid w) (k : Kp Noone w w') : Laid w' := by
  obtain ⟨t1, p1, h1⟩ := h.syn
  obtain ⟨t2, p2, h2⟩ := h.ran
  exact ⟨h.pow.keep k, h.utf.keep k, ⟨t1, p1, var_keep h1 k⟩, ⟨t2, p2, var_keep h2 k⟩⟩
/-- What Atoi answers. -/
structure AtoiTo (l : List UInt8) (w : World) (e : Ending) (w' : World) : Prop where
  ex : Kp Noone w w' ∧ ((∃ v, Lib.atoiAll l = .ok v ∧ e = .returned (.tuple #[.int .i64 v, .nilIface])) ∨ ((∀ v, Lib.atoiAll l ≠ .ok v) ∧ ∃ v te pe, e = .returned (.tuple #[.int .i64 v, .iface te pe])))
theorem atoi_any (s : ByteArray) (w : World) (hs : s.size ≤ 281474976710656) (hL : Laid w) : Calls Tryd.prog 40 #[.string s] w fun e w' => AtoiTo s.data.toList w e w' := by
  rcases (show (∃ v, Lib.atoiAll s.data.toList = .ok v) ∨ Lib.atoiAll s.data.toList = Lib.NumEnd.syntax ∨ Lib.atoiAll s.data.toList = .range by cases Lib.atoiAll s.data.toList <;> simp) with ⟨v, h⟩ | h | h
  · refine (Tryd.strconv_Atoi_ok s (by omega) v h w).mono ?_
    rintro e w' ⟨rfl, hw⟩
    refine ⟨?_, Or.inl ⟨v, h, rfl⟩⟩
    rcases hw with rfl | ⟨t, rfl⟩
    · exact Kp.refl _ _
    · exact Kp.ofBelow (Lib.bytesWorld_below _ _ _)
  · obtain ⟨tp, p, hv⟩ := hL.syn
    refine (Tryd.strconv_Atoi_syntax_var s hs h tp p w hv).mono ?_
    rintro e w' ⟨N, rfl, -, -, hb⟩
    exact ⟨Kp.ofBelow hb, Or.inr ⟨fun v c => (by rw [h] at c; cases c), _, _, _, rfl⟩⟩
  · obtain ⟨tp, p, hv⟩ := hL.ran
    refine (Tryd.strconv_Atoi_range_var s hs h tp p w hv).mono ?_
    rintro e w' ⟨N, rfl, -, -, hb⟩
    exact ⟨Kp.ofBelow hb, Or.inr ⟨fun v c => (by rw [h] at c; cases c), _, _, _, rfl⟩⟩

/-- What Read answers. -/
def readT (n m c : Int) : Value := .tuple #[.complex .f64 (floatOfInt .f64 n) (floatOfInt .f64 m), .int .i64 c]
structure ReadTo (s : ByteArray) (w : World) (e : Ending) (w' : World) : Prop where
  ex : Kp Noone w w'
  is : e = .returned (readT (gaussF s.data.toList).1 (gaussF s.data.toList).2.1 (gaussF s.data.toList).2.2)
theorem float_zero : floatOfInt .f64 0 = 0 := by decide +kernel
theorem readT_zero (c : Int) : readT 0 0 c = .tuple #[.complex .f64 0 0, .int .i64 c] := by unfold readT; rw [float_zero]
theorem ReadTo.err {s : ByteArray} {w w' : World} {c : Int} (h : gaussF s.data.toList = (0, 0, c)) (k : Kp Noone w w') : ReadTo s w (.returned (.tuple #[.complex .f64 0 0, .int .i64 c])) w' :=
  ⟨k, by rw [h, readT_zero]⟩
theorem ReadTo.good {s : ByteArray} {w w' : World} {n m : Int} (h : gaussF s.data.toList = (n, m, 0)) (k : Kp Noone w w') : ReadTo s w (.returned (.tuple #[.complex .f64 (floatOfInt .f64 n) (floatOfInt .f64 m), .int .i64 0])) w' :=
  ⟨k, by rw [h]; rfl⟩
set_option maxHeartbeats 4000000 in
set_option maxRecDepth 1000000 in
theorem readF_any (s : ByteArray) (w : World) (hs : s.size ≤ 9223372036854775806) (hL : Laid w) : Calls Tryd.prog 33 #[.string s] w fun e w' => ReadTo s w e w' := by
  have hcs := fun W => Tryd.strings_CutSuffix s ⟨#[105]⟩ W (by omega)
  have HLD := Lib.hid hL
  clear hL
  go_enter Tryd.func33, Tryd.ntmps33
  go_wp2_with fail
  refine wp_scope_fwd 0 rfl ?_
  go_wp2_with fail
  refine (hcs w).mono ?_
  clear hcs
  rintro e w0 ⟨rfl, rfl⟩
  have hsz : s.data.toList.length = s.size := by rw [Array.length_toList]; rfl
  have HSZ := Lib.hid hsz
  clear hsz
  obtain ⟨sb, hsb⟩ : ∃ x : ByteArray, (⟨(Lib.trimSuffix s.data.toList [105]).toArray⟩ : ByteArray) = x := ⟨_, rfl⟩
  have hbl : sb.data.toList = bodyL s.data.toList := by rw [← hsb]; rfl
  have hbz : sb.size ≤ s.size := by
    rw [← hsb]
    show (Lib.trimSuffix s.data.toList [105]).toArray.size ≤ s.data.size
    unfold Lib.trimSuffix
    split <;> simp
  have hbz2 : (bodyL s.data.toList).length = sb.size := by rw [← hbl, Array.length_toList]; rfl
  rw [hsb]
  have HBL := Lib.hid hbl
  have HBZ := Lib.hid hbz2
  clear hsb hbl hbz2
  go_wp2_with fail
  refine (lastAny_any sb _ (by omega) HLD.out.utf).mono ?_
  rintro e w1 hto
  obtain ⟨i, rfl, i0, i1, i2, k1⟩ := hto.ex
  have HL1 := Lib.hid (HLD.out.keep k1)
  have HK1 := Lib.hid k1
  have HI2 : Hid ((∀ c ∈ bodyL s.data.toList, c.toNat < 128) → i = atL s.data.toList) := Lib.hid (fun hl => by
    have := i2 (by rw [HBL.out]; exact hl)
    rw [this]
    unfold atL
    rw [HBL.out, HBZ.out])
  clear hto k1 i2
  cases hok : Lib.hasSuffix s.data.toList [105]
  · have HQ := Lib.hid (ReadTo.err (gaussF_suf hok) HK1.out)
    clear i0 i1
    go_wp2_with fail
    go_step3
    refine ⟨rfl, ?_⟩
    go_wp2_with fail
    go_ret2
    exact HQ.out
  have HSF := Lib.hid hok
  by_cases i3 : i < 1
  · have HQ := Lib.hid (ReadTo.err (gaussF_at0 HI2.out i3) HK1.out)
    go_wp2_with fail
    go_step3
    refine ⟨rfl, ?_⟩
    go_wp2_with fail
    go_ret2
    exact HQ.out
  have i4 : 1 ≤ i := by omega
  by_cases i5 : s.size ≤ 48
  case neg =>
    have HQ := Lib.hid (ReadTo.err (s := s) (gaussF_len (by rw [HSZ.out]; omega)) HK1.out)
    have i6 : ¬ (s.size : Int) ≤ 48 := by omega
    go_wp2_with fail
    go_step3
    refine ⟨rfl, ?_⟩
    go_wp2_with fail
    go_ret2
    exact HQ.out
  have HS48 : Hid (s.data.toList.length ≤ 48) := Lib.hid (by rw [HSZ.out]; exact i5)
  obtain ⟨j, rfl⟩ := Int.eq_ofNat_of_zero_le (show 0 ≤ i by omega)
  have HJ : Hid (1 ≤ j) := Lib.hid (by omega)
  have j0 : j ≤ sb.size := by omega
  have h4 : ∀ a b : Nat, (sb.extract a b).data.toList = (sb.data.toList.drop a).take (b - a) := fun a b => by
    rw [ByteArray.data_extract, Array.toList_extract, List.extract_eq_take_drop]
  have hl : sb.data.toList.length = sb.size := by rw [Array.length_toList]; rfl
  have hpl : (sb.extract 0 j).data.toList = (bodyL s.data.toList).take j := by rw [h4, List.drop_zero, Nat.sub_zero, HBL.out]
  have hpr : (sb.extract j sb.size).data.toList = (bodyL s.data.toList).drop j := by
    rw [h4, List.take_of_length_le (by rw [List.length_drop, hl]; exact Nat.le_refl _), HBL.out]
  have HPL := Lib.hid hpl
  have HPR := Lib.hid hpr
  clear i0 i3 h4 hl hpl hpr
  have z1 : (sb.extract 0 j).size ≤ sb.size := by rw [ByteArray.size_extract]; omega
  have z2 : (sb.extract j sb.size).size ≤ sb.size := by rw [ByteArray.size_extract]; omega
  have n16 : ¬ ((48 : Int) < (s.size : Int)) := by omega
  go_wp2_with fail
  refine (atoi_any (sb.extract 0 j) _ (by omega) HL1.out).mono ?_
  rintro e w2 hto
  obtain ⟨k2, ⟨n, hn, rfl⟩ | ⟨hno, v, te, pe, rfl⟩⟩ := hto.ex
  case inr =>
    have HQ := Lib.hid (ReadTo.err (s := s) (gaussF_left HI2.out (by rw [← HPL.out]; exact hno)) (HK1.out.trans k2))
    clear hto hno k2
    go_wp2_with fail
    go_step3
    refine ⟨rfl, ?_⟩
    go_wp2_with fail
    go_ret2
    exact HQ.out
  have HK2 := Lib.hid (HK1.out.trans k2)
  have HL2 := Lib.hid (HL1.out.keep k2)
  have HN := Lib.hid hn
  clear hto k2 hn
  go_wp2_with fail
  refine (atoi_any (sb.extract j sb.size) _ (by omega) HL2.out).mono ?_
  rintro e w3 hto
  obtain ⟨k3, ⟨m, hm, rfl⟩ | ⟨hno, v, te, pe, rfl⟩⟩ := hto.ex
  case inr =>
    have HQ := Lib.hid (ReadTo.err (s := s) (gaussF_right HI2.out (by rw [← HPR.out]; exact hno)) (HK2.out.trans k3))
    clear hto hno k3
    go_wp2_with fail
    go_step3
    refine ⟨rfl, ?_⟩
    go_wp2_with fail
    go_ret2
    exact HQ.out
  have HK3 := Lib.hid (HK2.out.trans k3)
  have HL3 := Lib.hid (HL2.out.keep k3)
  have HG := Lib.hid (gaussF_both (n := n) (m := m) HI2.out HSF.out HJ.out HS48.out (by rw [← HPL.out]; exact HN.out) (by rw [← HPR.out]; exact hm))
  clear hto k3 hm
  go_wp2_with fail
  refine (of_any n m _).mono ?_
  rintro e w4 ⟨rfl, rfl⟩
  cases hr : rB n m
  · rw [ofT_out hr]
    have HQ := Lib.hid (ReadTo.err (s := s) (c := 20) (by rw [HG.out, if_neg (by rw [hr]; simp)]) HK3.out)
    clear hr
    go_wp2_with fail
    go_ret2
    exact HQ.out
  · rw [ofT_in hr]
    have b1 := rB_bound hr
    have HR := Lib.hid hr
    have fn := fi_of n (by omega)
    have fm := fi_of m (by omega)
    clear hr
    go_wp2_with fail
    refine (show_ok _ _ n m _ fn fm HR.out HL3.out.pow).mono ?_
    rintro e w5 ⟨rfl, k5⟩
    have HK5 := Lib.hid (HK3.out.trans k5)
    clear k5
    by_cases he : (⟨(showL n m).toArray⟩ : ByteArray) = s
    · have HQ := Lib.hid (ReadTo.good (s := s) (by rw [HG.out, if_pos HR.out, if_pos (by rw [← he])]) HK5.out)
      rw [he]
      clear he
      go_wp2_with fail
      go_ret2
      exact HQ.out
    · have HQ := Lib.hid (ReadTo.err (s := s) (c := 21) (by rw [HG.out, if_pos HR.out, if_neg (fun e => he (by apply ByteArray.ext; rw [e]))]) HK5.out)
      generalize (⟨(showL n m).toArray⟩ : ByteArray) = sx at *
      have he2 : (sx.toList == s.toList) = false := by
        cases h : (sx.toList == s.toList) with
        | false => rfl
        | true =>
          have := beq_iff_eq.1 h
          rw [ByteArray.toList_eq, ByteArray.toList_eq] at this
          exact (he (by apply ByteArray.ext; exact Array.toList_inj.1 this)).elim
      go_wp2_with fail
      go_step3
      refine ⟨rfl, ?_⟩
      go_wp2_with fail
      go_ret2
      exact HQ.out

end Go.Proofs.YtfinbppmkffbhaaDoor
