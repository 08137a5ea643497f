/-
  THE WALK of strings.IndexRune in the text "+-", at any rune.
-/
import Derived.Test.YtfinbppmkffbhaaDoorLastAny
import Derived.Laws.Runes
import Derived.Laws.RangeString
import Derived.Deep.RegionHeld3
import Derived.Deep.RegionLaw
import Derived.Test.YtfinbppmkffbhaaDoorRegion9
namespace Go.Proofs.YtfinbppmkffbhaaDoor
open Go.RowKit Go.Sort

theorem index_pm : ∀ r : Fin 128, (0 ≤ Lib.indexByte [43, 45] ((r.val : Int).toNat).toUInt8) ↔ (r.val = 43 ∨ r.val = 45) := by decide
set_option maxHeartbeats 4000000 in
set_option maxRecDepth 1000000 in
theorem idxRune (r : Nat) (hr : r ≤ 1114111) (w : World) :
    Calls Tryd.prog 54 #[.string ⟨#[43, 45]⟩, .int .i32 (r : Int)] w fun e w' => ∃ i : Int, e = .returned (.int .i64 i) ∧ (0 ≤ i ↔ (r = 43 ∨ r = 45)) ∧ Kp Noone w w' := by
  by_cases h : r < 128
  · refine (Tryd.strings_IndexRune_ascii ⟨#[43, 45]⟩ r w (by omega) (by omega)).mono ?_
    rintro e w' ⟨rfl, rfl⟩
    exact ⟨_, rfl, index_pm ⟨r, h⟩, Kp.refl _ _⟩
  have hno : ¬ (r = 43 ∨ r = 45) := by omega
  by_cases h2 : r = 65533
  · subst h2
    clear h hr
    have kI : ∀ i, Kp Noone w (w.iter ⟨#[43, 45]⟩ i) := fun i => by
      unfold World.iter
      exact (Kp.refl _ _).alloc _
    have HKI := Lib.hid kI
    clear kI
    go_enter Tryd.func54, Tryd.ntmps54
    go_wp2_with fail
    go_loopg [5, 6] 2 (fun g _ _ wx => ∃ i : Nat, i + g = 2 ∧ wx = w.iter ⟨#[43, 45]⟩ i)
    case atStart => exact ⟨0, by omega, rfl⟩
    case round =>
      obtain ⟨i, hig, rfl⟩ := hrel
      cases gk with
      | zero =>
        obtain rfl : i = 2 := by omega
        have hnx := fun ty => run_next_end (P := Tryd.prog) w ⟨#[43, 45]⟩ 2 ty (by decide)
        go_wp2
        go_ret
        exact ⟨-1, rfl, by simp, HKI.out _⟩
      | succ g =>
        have hi : i < (⟨#[43, 45]⟩ : ByteArray).size := by show i < 2; omega
        obtain ⟨x, hx⟩ : ∃ x : UInt8, (⟨#[43, 45]⟩ : ByteArray)[i]'hi = x := ⟨_, rfl⟩
        have hx128 : x.toNat < 128 := by
          rcases (show i = 0 ∨ i = 1 by omega) with rfl | rfl
          · rw [← hx]
            exact (show (43 : UInt8).toNat < 128 by decide)
          · rw [← hx]
            exact (show (45 : UInt8).toNat < 128 by decide)
        have hnx := fun ty => run_next_ascii (P := Tryd.prog) w ⟨#[43, 45]⟩ i ty hi (by rw [hx]; exact hx128)
        rw [hx] at hnx
        have hne : ((x.toNat : Int) == 65533) = false := by simp; omega
        clear hx
        go_wp2
        go_roundg g
        case measure => omega
        case rel => exact ⟨i + 1, by omega, rfl⟩
  · have hv := Tryd.utf8_ValidRune (r : Int) w
    have n1 : ((r : Int) == 65533) = false := by simp; omega
    cases hvb : Lib.validRune (r : Int) <;> rw [hvb] at hv
    · clear hvb
      have c1 : ¬ (r : Int) < 128 := by omega
      go_enter Tryd.func54, Tryd.ntmps54
      go_wp2_with fail
      refine hv.mono ?_
      rintro e w' ⟨rfl, rfl⟩
      go_wp2_with fail
      go_ret
      exact ⟨-1, rfl, by simp [hno], Kp.refl _ _⟩
    · have c1 : ¬ (r : Int) < 128 := by omega
      have hval : Utf8.valid (r : Int) = true := by
        rw [validRune_eq]
        exact hvb
      obtain ⟨e1, e2, e3⟩ := encode_facts (r : Int) hval (by omega)
      obtain ⟨z, hz⟩ : ∃ z, Utf8.encode (r : Int) = z := ⟨_, rfl⟩
      rw [hz] at e1 e2
      simp only [hz] at e3
      obtain ⟨n, hn⟩ : ∃ n, z.size = n + 1 := ⟨z.size - 1, by omega⟩
      have hw : IntKind.i64.wrap ((z.size : Int) - 1) = (n : Int) := by rw [IntWalk.i64_in _ (by omega)]; omega
      have HN := Lib.hid hn
      have h12 : n = 1 ∨ 2 ≤ n := by omega
      clear hval hvb hn
      rcases h12 with h1 | h1
      · subst h1
        have hn := HN.out
        have h3 : 1 < z.size := by omega
        have h3z : (1 : Int) < (z.size : Int) := by omega
        have e4 := e3 (by omega)
        obtain ⟨y, hy⟩ : ∃ y : UInt8, z[1]'h3 = y := ⟨_, rfl⟩
        have e5 : 128 ≤ y.toNat := by
          rw [← hy]
          simpa [hn] using e4
        have hne : ((45 : Int) != (y.toNat : Int)) = true := by simp; omega
        have hib := fun s c W => Tryd.strings_IndexByte s c W
        have hw2 : IntKind.i64.wrap (2 : Int) = 2 := by decide
        have hc : ((⟨#[43, 45]⟩ : ByteArray)[1]'(by decide)).toNat = 45 := rfl
        clear e1 e2 e3 e4 hn
        go_enter Tryd.func54, Tryd.ntmps54
        go_wp2_with fail
        refine hv.mono ?_
        rintro e w' ⟨rfl, rfl⟩
        go_wp2_with fail
        go_step3
        go_wp2
        refine wp_loop_rounds 3 ?_
        rw [rounds_succ]
        go_wp2
        go_step3
        go_wp2
        apply wp_region_0 (G := fun wz => Kp Noone w' wz)
        case h =>
          go_region
          exact NoPanic.normal ⟨rfl, rfl, (Kp.refl _ _).drew⟩
        case k =>
          intro w1 k1
          go_wp2
          apply wp_region_0 (G := fun wz => Kp Noone w' wz)
          case h =>
            go_region_law (go_simp; go_at_call 41; refine (hib _ _ _).mono ?_; rintro e wq ⟨rfl, rfl⟩)
            all_goals (exact NoPanic.normal ⟨rfl, rfl, k1.drew⟩)
          case k =>
            intro w2 k2
            have hneg : Lib.indexByte [] y = -1 := rfl
            go_wp2
            simp only [Exit.noGoto, Exit.inBlock, Exit.then]
            go_ret
            exact ⟨-1, rfl, by simp [hno], k2⟩
      · have h3 : ¬ (n : Int) < 2 := by omega
        have h4 : decide ((n : Int) < 2) = false := decide_eq_false h3
        clear e1 e2 e3
        go_enter Tryd.func54, Tryd.ntmps54
        go_wp2_with fail
        refine hv.mono ?_
        rintro e w' ⟨rfl, rfl⟩
        go_wp2_with fail
        go_step3
        go_wp2
        refine wp_loop_rounds 3 ?_
        rw [rounds_succ]
        go_wp2
        simp only [Exit.noGoto, Exit.inBlock]
        go_ret
        exact ⟨-1, rfl, by simp [hno], Kp.refl _ _⟩

end Go.Proofs.YtfinbppmkffbhaaDoor
