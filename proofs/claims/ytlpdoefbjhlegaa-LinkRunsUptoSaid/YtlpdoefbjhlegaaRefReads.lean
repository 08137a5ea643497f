/-
  THE WALKS of the document's own reader.
-/
import Derived.Test.YtlpdoefbjhlegaaReadsT
import Derived.Laws.ResultCell
namespace Go.Proofs.Ytlpdoefbjhlegaa
open Go.RowKit

/-- The document's reader, as a value: what is left and the error. -/
def rdV (ao : Option Addr) (n cap : Nat) (bad : Nat) : Value := .agg #[.slice ao n cap, .int .i64 (bad : Int)]

/-- What a read of it answers: the reader behind it, and a value; nothing of the old is written. -/
def RefPost (w : World) (ao : Option Addr) (n cap : Nat) (left left' : List UInt8) (bad : Nat) (v : Value) (e : Ending) (w' : World) : Prop :=
  ∃ ao' n' cap', e = .returned (.tuple #[rdV ao' n' cap' bad, v]) ∧ (∀ W, BS W ao n cap left → BS W ao' n' cap' left') ∧ Kp Noone w w'

theorem BS.past {w : World} {ao : Option Addr} {n cap : Nat} {l : List UInt8} (h : BS w ao n cap l) {m : Nat} (hm : m ≤ n) : BS w (if cap = m then ao else ao.map (·.add m)) (n - m) (cap - m) (l.drop m) := by
  have h1 := h.le
  have h2 := h.max
  refine ⟨by rw [List.length_drop, h.len], by omega, by omega, ?_⟩
  exact h.row.sub m cap (by rw [length_bv, h.len]; exact h1) _ (by unfold bv; rw [List.map_drop]; exact List.prefix_rfl)

theorem rnum_cons (c : UInt8) (r : List UInt8) : rnum (c :: r) 0 = if 8 < c.toNat then ((c :: r, 11), 0) else if r.length < c.toNat then ((c :: r, 10), 0)
    else if 0 < c.toNat ∧ r[0]? = some 0 then ((c :: r, 11), 0) else ((r.drop c.toNat, 0), ofBE (r.take c.toNat)) := by
  unfold rnum; rw [if_neg (by simp)]

theorem ref_end {n cap n' cap' : Nat} {ao ao' : Option Addr} {left left' : List UInt8} {w : World} (hb : ∀ W, BS W ao n cap left → BS W ao' n' cap' left') (A B : Obj) : (∀ W, BS W ao n cap left → BS W ao' n' cap' left') ∧ Kp Noone w ((w.alloc A).alloc B) :=
  ⟨hb, ((Kp.refl _ _).alloc _).alloc _⟩

set_option maxHeartbeats 1000000 in
set_option maxRecDepth 100000 in
theorem refReadNum_any (ao : Option Addr) (n cap : Nat) (left : List UInt8) (bad : Nat) (w : World) (hb : BS w ao n cap left) (_hbad : bad ≤ 13) :
    Calls Try.prog 42 #[rdV ao n cap bad] w (RefPost w ao n cap left (rnum left bad).1.1 (rnum left bad).1.2 (.int .u64 ((rnum left bad).2 : Int))) := by
  unfold rdV
  go_enter Try.func42, Try.ntmps42
  by_cases c0 : bad = 0
  case neg =>
    have hr : rnum left bad = ((left, bad), 0) := by unfold rnum; rw [if_pos c0]
    have d : ((bad : Int) != 0) = true := by simp; omega
    rw [hr]
    go_wp2_with fail
    refine bodyPost_ret (v := .tuple #[rdV ao n cap bad, .int .u64 0]) (by rw [results_cell_tmp rfl]; go_simp; rfl) rfl ⟨ao, n, cap, rfl, ref_end (fun _ h => h) _ _⟩
  subst c0
  rw [Int.natCast_zero]
  have hmx : cap ≤ 9223372036854775807 := by have := hb.max; unfold maxLen at this; omega
  have hlc := hb.le
  have hlen := hb.len
  by_cases c1 : 0 < n
  case neg =>
    obtain rfl : n = 0 := by omega
    obtain rfl : left = [] := List.eq_nil_of_length_eq_zero hlen
    have hr : rnum [] 0 = (([], 10), 0) := rfl
    rw [hr]
    go_wp2_with fail
    refine bodyPost_ret (v := .tuple #[rdV ao 0 cap 10, .int .u64 0]) (by rw [results_cell_tmp rfl]; go_simp; rfl) rfl ⟨ao, 0, cap, rfl, ref_end (fun _ h => h) _ _⟩
  have HC : Hid (∀ j, (h : j < n) → ∃ b off, ∃ h2 : j < left.length, ao = some ⟨b, off, none⟩ ∧ ∀ A B, ((w.alloc A).alloc B).cell? ⟨b, off + j, none⟩ = some (.int .u8 ((left[j].toNat : Nat) : Int))) := Lib.hid (fun j hj => by
    obtain ⟨b', off', h2, he, hbw, hc⟩ := hb.at (k := j) hj
    refine ⟨b', off', h2, he, fun A B => ?_⟩
    have hs := ((Kp.refl Noone w).alloc A).size
    rw [World.cell?_alloc_past _ _ _ (by show b' < _; omega), World.cell?_alloc_past _ _ _ hbw]
    exact hc)
  obtain ⟨b, off, hl, rfl, hc0⟩ := HC.out 0 c1
  rw [Nat.add_zero] at hc0
  have hds : left = left[0] :: left.drop 1 := by
    have := (List.getElem_cons_drop hl).symm
    simpa using this
  have hrn := rnum_cons left[0] (left.drop 1)
  rw [← hds] at hrn
  clear hds
  have hm : left[0].toNat ≤ 255 := by have := left[0].toNat_lt; omega
  generalize left[0].toNat = m at hrn hc0 hm
  have hdl : (left.drop 1).length = n - 1 := by rw [List.length_drop, hlen]
  rw [hdl] at hrn
  have HRN := Lib.hid hrn
  clear hrn
  by_cases c2 : 8 < m
  · have hr : rnum left 0 = ((left, 11), 0) := by rw [HRN.out, if_pos c2]
    rw [hr]
    go_wp2_with fail
    refine bodyPost_ret (v := .tuple #[rdV (some ⟨b, off, none⟩) n cap 11, .int .u64 0]) (by rw [results_cell_tmp rfl]; go_simp; rfl) rfl ⟨_, n, cap, rfl, ref_end (fun _ h => h) _ _⟩
  by_cases c3 : n - 1 < m
  · have hr : rnum left 0 = ((left, 10), 0) := by rw [HRN.out, if_neg c2, if_pos c3]
    rw [hr]
    go_wp2_with fail
    refine bodyPost_ret (v := .tuple #[rdV (some ⟨b, off, none⟩) n cap 10, .int .u64 0]) (by rw [results_cell_tmp rfl]; go_simp; rfl) rfl ⟨_, n, cap, rfl, ref_end (fun _ h => h) _ _⟩
  by_cases c4 : 0 < m ∧ (left.drop 1)[0]? = some 0
  · have hr : rnum left 0 = ((left, 11), 0) := by rw [HRN.out, if_neg c2, if_neg c3, if_pos c4]
    rw [hr]
    obtain ⟨b', off', h2, he, hc1⟩ := HC.out 1 (by omega)
    cases he
    have hz : left[1].toNat = 0 := by
      have := c4.2
      rw [List.getElem?_drop, List.getElem?_eq_getElem h2] at this
      rw [Option.some.inj this]; rfl
    rw [hz] at hc1
    have hm0 := c4.1
    clear c4
    go_wp2_with fail
    refine bodyPost_ret (v := .tuple #[rdV (some ⟨b, off, none⟩) n cap 11, .int .u64 0]) (by rw [results_cell_tmp rfl]; go_simp; rfl) rfl ⟨_, n, cap, rfl, ref_end (fun _ h => h) _ _⟩
  · have hr : Hid (rnum left 0 = ((left.drop (m + 1), 0), ofBE ((left.drop 1).take m))) := Lib.hid (by rw [HRN.out, if_neg c2, if_neg c3, if_neg c4, List.drop_drop, Nat.add_comm 1 m])
    have hgo : (0 < m ∧ ∃ x : Nat, ((x : Int) == 0) = false ∧ ∀ A B, ((w.alloc A).alloc B).cell? ⟨b, off + 1, none⟩ = some (.int .u8 (x : Int))) ∨ m = 0 := by
      by_cases hm0 : 0 < m
      · left
        obtain ⟨b', off', h2, he, hc1⟩ := HC.out 1 (by omega)
        cases he
        refine ⟨hm0, left[1].toNat, ?_, hc1⟩
        have hne : left[1] ≠ 0 := fun c => c4 ⟨hm0, by rw [List.getElem?_drop, List.getElem?_eq_getElem h2, c]⟩
        have : left[1].toNat ≠ 0 := fun c => hne (UInt8.toNat_inj.1 c)
        simp; omega
      · right; omega
    have hcap : cap = m + 1 ∨ cap ≠ m + 1 := by omega
    clear c4
    rcases hgo with ⟨hm0, x, hx, hc1⟩ | hm0
    · go_wp2_with fail
      go_loopw [6, 5] (fun i x wr => ∃ j y : Nat, j ≤ m ∧ i = .int .i64 ((j : Int) + 1) ∧ x = .int .u64 (y : Int) ∧ Hid (y = ofBE ((left.drop 1).take j)) ∧ y < 256 ^ j ∧ wr = (w.alloc (.cells #[.slice (some ⟨b, off, none⟩) n cap, .int .i64 0] 76)).alloc (.cells #[.slice none 0 0, .int .i64 0] 76)) (fun i _ _ => m + 1 - (intOf i).toNat)
      case atStart => exact ⟨0, 0, Nat.zero_le _, rfl, rfl, Lib.hid rfl, by simp, rfl⟩
      case round =>
        obtain ⟨j, y, hj, rfl, rfl, hy, hyb, rfl⟩ := hrel
        by_cases hjm : j < m
        · obtain ⟨b', off', h2, he, hcj⟩ := HC.out (j + 1) (by omega)
          cases he
          have hsn : ofBE ((left.drop 1).take (j + 1)) = 256 * ofBE ((left.drop 1).take j) + left[j + 1].toNat := by
            rw [take_snoc _ j (by omega), ofBE_snoc, List.getElem_drop]
            simp [Nat.add_comm]
          have HN := Lib.hid hsn
          have hc256 := left[j + 1].toNat_lt
          clear hsn
          generalize left[j + 1].toNat = x at hcj HN hc256
          have hp := pow256_le (j := j) (by omega)
          go_wp2_with fail
          refine ⟨⟨j + 1, 256 * y + x, by omega, int_eq (by omega), int_eq (by omega), Lib.hid (by rw [HN.out, hy.out]), ?_, trivial⟩, by simp [intOf]; omega⟩
          rw [Nat.pow_succ]
          omega
        · obtain rfl : j = m := by omega
          have hp := pow256_le8 (j := j) (by omega)
          have hbp := fun W (h : BS W (some ⟨b, off, none⟩) n cap left) => h.past (m := j + 1) (by omega)
          rcases hcap with hcap | hcap
          · simp only [if_pos hcap, show cap - (j + 1) = 0 by omega] at hbp
            have HB := Lib.hid hbp
            clear hbp
            go_wp2_with fail
            rw [hr.out, ← hy.out]
            refine bodyPost_ret (v := .tuple #[rdV (some ⟨b, off, none⟩) (n - (j + 1)) 0 0, .int .u64 y]) (by rw [results_cell_tmp rfl]; go_simp; rfl) rfl ⟨_, _, _, rfl, ref_end HB.out _ _⟩
          · simp only [if_neg hcap] at hbp
            have HB := Lib.hid hbp
            clear hbp
            go_wp2_with fail
            rw [hr.out, ← hy.out]
            refine bodyPost_ret (v := .tuple #[rdV (some ⟨b, off + (j + 1), none⟩) (n - (j + 1)) (cap - (j + 1)) 0, .int .u64 y]) (by rw [results_cell_tmp rfl]; go_simp; rfl) rfl ⟨_, _, _, rfl, ref_end HB.out _ _⟩
    · subst hm0
      have hbp := fun W (h : BS W (some ⟨b, off, none⟩) n cap left) => h.past (m := 1) (by omega)
      go_wp2_with fail
      go_loopw [6, 5] (fun i x wr => i = .int .i64 1 ∧ x = .int .u64 0 ∧ wr = (w.alloc (.cells #[.slice (some ⟨b, off, none⟩) n cap, .int .i64 0] 76)).alloc (.cells #[.slice none 0 0, .int .i64 0] 76)) (fun _ _ _ => 0)
      case atStart => exact ⟨rfl, rfl, rfl⟩
      case round =>
        obtain ⟨rfl, rfl, rfl⟩ := hrel
        rcases hcap with hcap | hcap
        · simp only [if_pos (show cap = 1 by omega), show cap - 1 = 0 by omega] at hbp
          have HB := Lib.hid hbp
          clear hbp
          go_wp2_with fail
          rw [hr.out]
          refine bodyPost_ret (v := .tuple #[rdV (some ⟨b, off, none⟩) (n - 1) 0 0, .int .u64 0]) (by rw [results_cell_tmp rfl]; go_simp; rfl) rfl ⟨_, _, _, rfl, ref_end HB.out _ _⟩
        · simp only [if_neg (show ¬ cap = 1 by omega)] at hbp
          have HB := Lib.hid hbp
          clear hbp
          go_wp2_with fail
          rw [hr.out]
          refine bodyPost_ret (v := .tuple #[rdV (some ⟨b, off + 1, none⟩) (n - 1) (cap - 1) 0, .int .u64 0]) (by rw [results_cell_tmp rfl]; go_simp; rfl) rfl ⟨_, _, _, rfl, ref_end HB.out _ _⟩

end Go.Proofs.Ytlpdoefbjhlegaa
