/-
  THE WALK of strings.LastIndexAny at the signs + and -, over short texts; any text.
-/
import Derived.Test.YtfinbppmkffbhaaDoorLastRune
import Derived.Lib.TrimAscii
namespace Go.Proofs.YtfinbppmkffbhaaDoor
open Go.RowKit Go.Sort

/-- What LastIndexAny answers at the signs. -/
structure LastTo (s : ByteArray) (w : World) (e : Ending) (w' : World) : Prop where
  ex : ∃ i : Int, e = .returned (.int .i64 i) ∧ -1 ≤ i ∧ i < s.size ∧ ((∀ b ∈ s.data.toList, b.toNat < 128) → i = lastPM s.data.toList s.size) ∧ Kp Noone w w'
def UTab (w : World) : Prop := Lib.Utf8Tabs 5 6 w
theorem UTab.keep {w w' : World} (h : UTab w) (k : Kp Noone w w') : UTab w' := by
  exact Utf8Tabs_below h k.below
set_option maxHeartbeats 4000000 in
set_option maxRecDepth 1000000 in
theorem lastAny_short (s : ByteArray) (w : World) (h8 : s.size ≤ 8) (h1 : s.size ≠ 1) (hT : UTab w) :
    Calls Tryd.prog 43 #[.string s, .string ⟨#[43, 45]⟩] w fun e w' => LastTo s w e w' := by
  have hh := fun W => Tryd.strings_shouldUseASCIISet (s.size : Int) W
  have h8z : decide ((8 : Int) < (s.size : Int)) = false := decide_eq_false (by omega)
  have hn1 : ((s.size : Int) == 1) = false := beq_eq_false_iff_ne.2 (by omega)
  rw [h8z] at hh
  have hl : s.data.toList.length = s.size := by rw [Array.length_toList]; rfl
  have HL := Lib.hid hl
  have HT := Lib.hid hT
  clear hl hT
  go_enter Tryd.func43, Tryd.ntmps43
  go_wp2_with (first
    | (go_at_call 55; refine (hh _).mono ?_; rintro e w' ⟨rfl, hw⟩; rw [hw]))
  go_loopw [13] (fun v wx => ∃ k : Nat, k ≤ s.size ∧ v = .int .i64 (k : Int) ∧ Kp Noone w wx ∧ ((∀ b ∈ s.data.toList, b.toNat < 128) → lastPM s.data.toList s.size = lastPM s.data.toList k)) (fun v _ => (intOf v).toNat)
  case atStart => exact ⟨s.size, Nat.le_refl _, rfl, Kp.refl _ _, fun _ => rfl⟩
  case round =>
    obtain ⟨k, hk, rfl, kw, he⟩ := hrel
    have HE := Lib.hid he
    clear he
    cases k with
    | zero =>
      have HR : Hid (LastTo s w (.returned (.int .i64 (-1))) wr) := Lib.hid ⟨⟨-1, rfl, by omega, by omega, fun ha => by rw [HE.out ha]; rfl, kw⟩⟩
      clear kw
      go_wp2_with fail
      go_ret
      exact HR.out
    | succ k =>
      have hkz : (0 : Int) < ((k + 1 : Nat) : Int) := by omega
      have hk1 : ((k + 1 : Nat) : Int) ≤ (s.size : Int) := by omega
      have hk0 : (0 : Int) ≤ ((k + 1 : Nat) : Int) := by omega
      have hts : (s.extract 0 (k + 1)).size = k + 1 := by rw [ByteArray.size_extract]; omega
      have htl : (s.extract 0 (k + 1)).data.toList = s.data.toList.take (k + 1) := by
        rw [ByteArray.data_extract, Array.toList_extract]
        simp
      have hdl := Tryd.utf8_DecodeLastRuneInString (s.extract 0 (k + 1)) wr (by omega) (HT.out.keep kw)
      have hwd := Lib.decodeLastL_width (s.extract 0 (k + 1)).data.toList (by rw [htl, List.length_take, HL.out]; omega)
      have hrn := Lib.decodeLastL_rune (s.extract 0 (k + 1)).data.toList
      have hlen : (s.extract 0 (k + 1)).data.toList.length = k + 1 := by rw [htl, List.length_take, HL.out]; omega
      rw [hlen] at hwd
      have hA : (∀ b ∈ s.data.toList, b.toNat < 128) → Lib.decodeLastL (s.extract 0 (k + 1)).data.toList = ((s.data.toList.getD k 0).toNat, 1) := fun ha => by
        have hkl : k < s.data.toList.length := by rw [HL.out]; omega
        have hg : s.data.toList.getD k 0 = s.data.toList[k] := by rw [List.getD_eq_getElem?_getD, List.getElem?_eq_getElem hkl]; rfl
        rw [htl, List.take_succ_eq_append_getElem hkl, hg]
        exact Lib.decodeLastL_ascii _ _ (ha _ (List.getElem_mem hkl))
      generalize Lib.decodeLastL (s.extract 0 (k + 1)).data.toList = d at *
      obtain ⟨r, wd⟩ := d
      simp only [] at hdl hwd hrn hA
      have HA := Lib.hid hA
      have hw : IntKind.i64.wrap (((k + 1 : Nat) : Int) - (wd : Int)) = ((k + 1 - wd : Nat) : Int) := by rw [IntWalk.i64_in _ (by omega)]; omega
      have HKW := Lib.hid kw
      clear hA kw hts htl hlen
      go_wp2_with fail
      refine hdl.mono ?_
      clear hdl
      rintro e w2 ⟨rfl, hb2⟩
      have HK2 := Lib.hid (HKW.out.trans (Kp.ofBelow hb2))
      clear hb2
      go_wp2_with fail
      refine (idxRune r hrn w2).mono ?_
      rintro e w3 ⟨i, rfl, hi, k3⟩
      have HK3 := Lib.hid (HK2.out.trans k3)
      have HI := Lib.hid hi
      clear hi k3
      have HCS := Lib.hid (show ((k : Int) + 1 - (wd : Int)) = ((k + 1 - wd : Nat) : Int) by omega)
      by_cases h0 : (0 : Int) ≤ i
      · have HR : Hid (LastTo s w (.returned (.int .i64 ((k + 1 - wd : Nat) : Int))) w3) := Lib.hid ⟨⟨_, rfl, by omega, by omega, fun ha => by
          have h := HA.out ha
          simp only [Prod.mk.injEq] at h
          have hp : isPM (s.data.toList.getD k 0) = true := by
            have hr := HI.out.1 h0
            rw [h.1] at hr
            unfold isPM
            rcases hr with hr | hr
            · rw [show s.data.toList.getD k 0 = 43 from UInt8.toNat_inj.1 hr]; rfl
            · rw [show s.data.toList.getD k 0 = 45 from UInt8.toNat_inj.1 hr]; rfl
          rw [HE.out ha, lastPM_succ, if_pos hp, h.2]
          simp, HK3.out⟩⟩
        clear hwd hrn
        go_wp2_with fail
        go_ret
        have hR := HR.out
        rw [← HCS.out] at hR
        exact hR
      · have HN : Hid ((∀ b ∈ s.data.toList, b.toNat < 128) → lastPM s.data.toList s.size = lastPM s.data.toList (k + 1 - wd)) := Lib.hid (fun ha => by
          have h := HA.out ha
          simp only [Prod.mk.injEq] at h
          have hp : ¬ isPM (s.data.toList.getD k 0) = true := fun hp => h0 (HI.out.2 (by
            rw [h.1]
            unfold isPM at hp
            rw [Bool.or_eq_true, beq_iff_eq, beq_iff_eq] at hp
            rcases hp with hp | hp
            · rw [hp]; exact Or.inl rfl
            · rw [hp]; exact Or.inr rfl))
          rw [HE.out ha, lastPM_succ, if_neg hp, h.2]
          rfl)
        have hwd1 := hwd.1
        clear hrn
        go_wp2_with fail
        go_roundw
        case rel => exact ⟨k + 1 - wd, by omega, by rw [HCS.out], HK3.out, HN.out⟩
        case measure => simp [intOf]; omega

theorem pm_iff (x : UInt8) : isPM x = true ↔ (x.toNat = 43 ∨ x.toNat = 45) := by
  unfold isPM
  rw [Bool.or_eq_true, beq_iff_eq, beq_iff_eq]
  exact ⟨fun h => h.elim (fun h => Or.inl (by rw [h]; rfl)) (fun h => Or.inr (by rw [h]; rfl)), fun h => h.elim (fun h => Or.inl (UInt8.toNat_inj.1 h)) (fun h => Or.inr (UInt8.toNat_inj.1 h))⟩
set_option maxHeartbeats 4000000 in
set_option maxRecDepth 1000000 in
theorem lastAny_one (s : ByteArray) (w : World) (h1 : s.size = 1) :
    Calls Tryd.prog 43 #[.string s, .string ⟨#[43, 45]⟩] w fun e w' => LastTo s w e w' := by
  have hi0 : 0 < s.size := by omega
  have hi0z : (0 : Int) < (s.size : Int) := by omega
  have hn1 : ((s.size : Int) == 1) = true := by rw [h1]; rfl
  obtain ⟨x, hx⟩ : ∃ x : UInt8, s[0]'hi0 = x := ⟨_, rfl⟩
  have hg : s.data.toList.getD 0 0 = x := by
    have h2 := Lib.data_getElem? s 0 hi0
    rw [hx] at h2
    rw [List.getD_eq_getElem?_getD, h2]
    rfl
  have hp : lastPM s.data.toList s.size = if isPM x = true then 0 else -1 := by rw [h1, lastPM_succ, hg]; rfl
  have hmem : x ∈ s.data.toList := by
    have h2 := Lib.data_getElem? s 0 hi0
    rw [hx] at h2
    exact List.mem_of_getElem? h2
  have HP := Lib.hid (And.intro hp hmem)
  have hx256 : x.toNat < 256 := x.toNat_lt
  have HS := Lib.hid h1
  clear hp hmem hg h1
  by_cases hb : 128 ≤ x.toNat
  · have hbz : (128 : Int) ≤ (x.toNat : Int) := by omega
    go_enter Tryd.func43, Tryd.ntmps43
    go_wp2_with fail
    refine (idxRune 65533 (by omega) w).mono ?_
    rintro e w3 ⟨i, rfl, hi, k3⟩
    have h0 : ¬ (0 : Int) ≤ i := fun c => by have := hi.1 c; omega
    have HR : Hid (LastTo s w (.returned (.int .i64 (-1))) w3) := Lib.hid ⟨⟨-1, rfl, by omega, by omega, fun ha => absurd (ha x HP.out.2) (by omega), k3⟩⟩
    clear hi k3
    go_wp2_with fail
    go_ret
    exact HR.out
  · have hbz : ¬ (128 : Int) ≤ (x.toNat : Int) := by omega
    go_enter Tryd.func43, Tryd.ntmps43
    go_wp2_with fail
    refine (idxRune x.toNat (by omega) w).mono ?_
    rintro e w3 ⟨i, rfl, hi, k3⟩
    rw [← pm_iff] at hi
    by_cases h0 : (0 : Int) ≤ i
    · have HR : Hid (LastTo s w (.returned (.int .i64 0)) w3) := Lib.hid ⟨⟨0, rfl, by omega, by omega, fun _ => by rw [HP.out.1, if_pos (hi.1 h0)], k3⟩⟩
      clear hi k3
      go_wp2_with fail
      go_ret
      exact HR.out
    · have HR : Hid (LastTo s w (.returned (.int .i64 (-1))) w3) := Lib.hid ⟨⟨-1, rfl, by omega, by omega, fun _ => by rw [HP.out.1, if_neg (fun c => h0 (hi.2 c))], k3⟩⟩
      clear hi k3
      go_wp2_with fail
      go_ret
      exact HR.out
theorem lastAny_any (s : ByteArray) (w : World) (hs : s.size ≤ 9223372036854775806) (hT : UTab w) :
    Calls Tryd.prog 43 #[.string s, .string ⟨#[43, 45]⟩] w fun e w' => LastTo s w e w' := by
  by_cases h8 : 8 < s.size
  · refine (lastAny_long s w h8 hs).mono ?_
    rintro e w' ⟨rfl, k⟩
    have := lastPM_lt s.data.toList s.size
    exact ⟨⟨_, rfl, this.1, this.2, fun _ => rfl, k⟩⟩
  · by_cases h1 : s.size = 1
    · exact lastAny_one s w h1
    · exact lastAny_short s w (by omega) h1 hT

end Go.Proofs.YtfinbppmkffbhaaDoor
