/-
  THE WALKS of the document's own reader: counts, texts, the end.
-/
import Derived.Test.YtlpdoefbjhlegaaRefReads
namespace Go.Proofs.Ytlpdoefbjhlegaa
open Go.RowKit

theorem rnum_bad (left : List UInt8) (bad : Nat) (h : (rnum left bad).1.2 ≠ 0) : (rnum left bad).2 = 0 := by
  unfold rnum at *
  split
  · rfl
  · rename_i hb
    rw [if_neg hb] at h
    split
    · rfl
    · split
      · rfl
      · split
        · rfl
        · split
          · rfl
          · rename_i h1 h2 h3
            simp only [] at h
            rw [if_neg h1, if_neg h2, if_neg h3] at h
            exact (h rfl).elim
theorem rnum_bad_le (left : List UInt8) (bad : Nat) (h : bad ≤ 13) : (rnum left bad).1.2 ≤ 13 := by
  unfold rnum
  split
  · exact h
  · split
    · simp
    · split
      · simp
      · split
        · simp
        · split
          · simp
          · simp

theorem cells_two {w : World} {p e : Nat} {a b : Value} (h : w.heap[p]? = some (.cells #[a, b] e (0, 0))) :
    w.cell? ⟨p, 0, none⟩ = some a ∧ w.cell? ⟨p, 1, none⟩ = some b ∧ w.frozen? ⟨p, 0, none⟩ = false ∧ w.frozen? ⟨p, 1, none⟩ = false := by
  refine ⟨?_, ?_, ?_, ?_⟩
  · rw [cell_of_row w p 0 _ e (0, 0) h]; rfl
  · rw [cell_of_row w p 1 _ e (0, 0) h]; rfl
  all_goals simp [World.frozen?, h]

theorem set_two0 {w : World} {p e : Nat} {a b : Value} (h : w.heap[p]? = some (.cells #[a, b] e (0, 0))) (u : Value) : (w.setCell ⟨p, 0, none⟩ u).heap[p]? = some (.cells #[u, b] e (0, 0)) := by
  simp [World.setCell, Array.getElem?_modify, h]
theorem set_two1 {w : World} {p e : Nat} {a b : Value} (h : w.heap[p]? = some (.cells #[a, b] e (0, 0))) (u : Value) : (w.setCell ⟨p, 1, none⟩ u).heap[p]? = some (.cells #[a, u] e (0, 0)) := by
  simp [World.setCell, Array.getElem?_modify, h]

theorem set_off {w : World} {g p : Nat} {o : Obj} (h : w.heap[p]? = some o) (hne : g ≠ p) (i : Nat) (u : Value) : (w.setCell ⟨g, i, none⟩ u).heap[p]? = some o := by
  simp [World.setCell, Array.getElem?_modify, hne, h]
theorem kp_new {w w1 : World} (k : Kp Noone w w1) {g : Nat} (hg : w.heap.size ≤ g) (i : Nat) (u : Value) : Kp Noone w (w1.setCell ⟨g, i, none⟩ u) :=
  Kp.setCell (p := ⟨g, i, none⟩) k (fun h => by have h' : g < w.heap.size := h; omega) u

/-- What is written and read at the two blocks of a reader that is handed on. -/
theorem two_blocks {w w1 : World} {g e : Nat} {a b c d : Value} (hg : w.heap.size ≤ g) (K : Kp Noone w w1) (hA : w1.heap[g]? = some (.cells #[a, b] e (0, 0))) (hB : w1.heap[g + 1]? = some (.cells #[c, d] e (0, 0))) (x y : Value) :
    ∃ w2, w2 = (w1.setCell ⟨g, 0, none⟩ x).setCell ⟨g, 1, none⟩ y ∧ Kp Noone w w2 ∧ w2.heap[g]? = some (.cells #[x, y] e (0, 0)) ∧ w2.heap[g + 1]? = some (.cells #[c, d] e (0, 0)) :=
  ⟨_, rfl, kp_new (kp_new K hg 0 x) hg 1 y, set_two1 (set_two0 hA x) y, set_off (set_off hB (by omega) 0 x) (by omega) 1 y⟩

set_option maxHeartbeats 1000000 in
set_option maxRecDepth 100000 in
theorem refReadCount_any (ao : Option Addr) (n cap : Nat) (left : List UInt8) (bad : Nat) (most : Int) (w : World) (hb : BS w ao n cap left) (hbad : bad ≤ 13) (hm0 : -9223372036854775808 ≤ most) (hm1 : most ≤ 9223372036854775807) :
    Calls Try.prog 30 #[rdV ao n cap bad, .int .i64 most] w (RefPost w ao n cap left (rcount left bad most).1.1 (rcount left bad most).1.2 (.int .i64 ((rcount left bad most).2 : Int))) := by
  have hf := rnum_lt left bad
  have hbd := rnum_bad left bad
  have hble := rnum_bad_le left bad hbad
  have HC := Lib.hid (show rcount left bad most = if (max 0 most).toNat < (rnum left bad).2 then (((rnum left bad).1.1, 12), 0) else rnum left bad from rfl)
  obtain ⟨t, ht⟩ : ∃ t : Nat, (max 0 most).toNat = t := ⟨_, rfl⟩
  have HT := Lib.hid ht
  have htt : (most < 0 ∧ t = 0) ∨ (most = (t : Int)) := by omega
  clear ht
  unfold rdV
  go_enter Try.func30, Try.ntmps30
  go_wp2_with fail
  have kA : ∀ A B : Obj, Kp Noone w ((w.alloc A).alloc B) := fun A B => ((Kp.refl _ _).alloc _).alloc _
  refine (refReadNum_any ao n cap left bad _ (hb.keep (kA _ _)) hbad).mono ?_
  rintro e w1 ⟨ao', n', cap', rfl, hb1, k1⟩
  have hA := k1.heap (heap_alloc2_old w _ _) id
  have hB := k1.heap (heap_alloc2_new w _ _) id
  obtain ⟨a0, a1, a2, a3⟩ := cells_two hA
  obtain ⟨b0, b1, b2, b3⟩ := cells_two hB
  have K1 := (kA _ _).trans k1
  generalize hR : rnum left bad = R at *
  obtain ⟨⟨left', bad'⟩, u⟩ := R
  simp only [] at *
  unfold W64 at hf
  unfold rdV
  clear kA k1 hR
  have hS := fun x y z => cells_two (set_two1 (set_two1 (set_two0 hA x) y) z)
  have hS0 := fun x y z => (hS x y z).1
  have hS1 := fun x y z => (hS x y z).2.1
  have hE := fun x y z a b => cells_two (set_two1 (set_two0 (set_off (set_off (set_off hB (g := w.heap.size) (by omega) 0 x) (g := w.heap.size) (by omega) 1 y) (g := w.heap.size) (by omega) 1 z) a) b)
  have hE0 := fun x y z a b => (hE x y z a b).1
  have hE1 := fun x y z a b => (hE x y z a b).2.1
  have hF := fun x y a b => cells_two (set_two1 (set_two0 (set_off (set_off hB (g := w.heap.size) (by omega) 0 x) (g := w.heap.size) (by omega) 1 y) a) b)
  have hF0 := fun x y a b => (hF x y a b).1
  have hF1 := fun x y a b => (hF x y a b).2.1
  have KE := fun x y z a b => kp_new (kp_new (kp_new (kp_new (kp_new K1 (g := w.heap.size) (Nat.le_refl _) 0 x) (g := w.heap.size) (Nat.le_refl _) 1 y) (g := w.heap.size) (Nat.le_refl _) 1 z) (g := w.heap.size + 1) (by omega) 0 a) (g := w.heap.size + 1) (by omega) 1 b
  have KF := fun x y a b => kp_new (kp_new (kp_new (kp_new K1 (g := w.heap.size) (Nat.le_refl _) 0 x) (g := w.heap.size) (Nat.le_refl _) 1 y) (g := w.heap.size + 1) (by omega) 0 a) (g := w.heap.size + 1) (by omega) 1 b
  have HKE := Lib.hid KE
  have HKF := Lib.hid KF
  clear hS hE hF hA hB KE KF K1
  have hcase : (t < u ∧ bad' = 0) ∨ (u ≤ t ∧ bad' = 0) ∨ (bad' ≠ 0 ∧ u = 0) := by
    rcases Nat.eq_zero_or_pos bad' with h | h
    · omega
    · have := hbd (by omega)
      omega
  clear hbd
  have hfin : ∀ x : Nat, x ≤ 9223372036854775807 → True := fun _ _ => trivial
  clear hfin
  rcases hcase with ⟨c, rfl⟩ | ⟨c, rfl⟩ | ⟨c, rfl⟩
  · have hr : Hid (rcount left bad most = ((left', 12), 0)) := Lib.hid (by rw [HC.out, HT.out, if_pos c])
    rw [Int.natCast_zero]
    rcases htt with ⟨hs, rfl⟩ | rfl
    all_goals (
      go_wp2_with fail
      rw [hr.out]
      exact bodyPost_ret (v := .tuple #[rdV ao' n' cap' 12, .int .i64 0]) (by rw [results_cell_tmp rfl]; go_simp; rfl) rfl ⟨_, _, _, rfl, hb1, HKE.out _ _ _ _ _⟩)
  · have hr : Hid (rcount left bad most = ((left', 0), u)) := Lib.hid (by rw [HC.out, HT.out, if_neg (by omega)])
    rw [Int.natCast_zero]
    rcases htt with ⟨hs, rfl⟩ | rfl
    all_goals (
      go_wp2_with fail
      rw [hr.out]
      exact bodyPost_ret (v := .tuple #[rdV ao' n' cap' 0, .int .i64 (u : Int)]) (by rw [results_cell_tmp rfl]; go_simp; rfl) rfl ⟨_, _, _, rfl, hb1, HKF.out _ _ _ _⟩)
  · have hr : Hid (rcount left bad most = ((left', bad'), 0)) := Lib.hid (by rw [HC.out, HT.out, if_neg (by omega)])
    have d : ((bad' : Int) == 0) = false := by simp; omega
    rcases htt with ⟨hs, rfl⟩ | rfl
    all_goals (
      go_wp2_with fail
      rw [hr.out]
      exact bodyPost_ret (v := .tuple #[rdV ao' n' cap' bad', .int .i64 0]) (by rw [results_cell_tmp rfl]; go_simp; rfl) rfl ⟨_, _, _, rfl, hb1, HKF.out _ _ _ _⟩)

theorem BS.front {w : World} {ao : Option Addr} {n cap : Nat} {l : List UInt8} (h : BS w ao n cap l) {m : Nat} (hm : m ≤ n) : BS w ao m cap (l.take m) := by
  have h1 := h.le
  refine ⟨by rw [List.length_take, h.len]; omega, by omega, h.max, ?_⟩
  rcases h.row with hr | ⟨b, off, rfl, hr⟩
  · left
    have : l = [] := by simpa [bv] using hr
    rw [this]; simp [bv]
  · right
    refine ⟨b, off, rfl, fun i hi => ?_⟩
    have hi2 : i < l.length := by rw [length_bv, List.length_take] at hi; omega
    rw [hr i (by rw [length_bv]; exact hi2)]
    simp [bv]

theorem rcount_bad_le (left : List UInt8) (bad : Nat) (most : Int) (h : bad ≤ 13) : (rcount left bad most).1.2 ≤ 13 := by
  unfold rcount
  split
  · simp
  · exact rnum_bad_le left bad h

def RefTextPost (w : World) (ao : Option Addr) (n cap : Nat) (left left' : List UInt8) (bad : Nat) (t : List UInt8) (e : Ending) (w' : World) : Prop :=
  ∃ ao' n' cap' bo c, e = .returned (.tuple #[rdV ao' n' cap' bad, .slice bo t.length c]) ∧ (∀ W, BS W ao n cap left → BS W ao' n' cap' left') ∧ BS w' bo t.length c t ∧ Kp Noone w w' ∧ ∀ a, bo = some a → w.heap.size ≤ a.block

theorem copied2 {w w' : World} {n : Nat} {l : List UInt8} (h : w' = w.alloc (.cells (bv l).toArray 5)) (hl : l.length = n) (hn : n ≤ maxLen) : BS w' (some ⟨w.heap.size, 0, none⟩) n n l ∧ Kp Noone w w' := by
  subst h
  exact ⟨BS.ofHeap (heap_alloc_new _ _) hl hn, (Kp.refl _ _).alloc _⟩

/-- The text stays while the reader's two blocks are written. -/
theorem three_sets {w3 : World} {g B n : Nat} {l : List UInt8} (h : BS w3 (some ⟨B, 0, none⟩) n n l) (hB : g + 1 < B) (s a b : Value) : BS (((w3.setCell ⟨g, 0, none⟩ s).setCell ⟨g + 1, 0, none⟩ a).setCell ⟨g + 1, 1, none⟩ b) (some ⟨B, 0, none⟩) n n l := by
  have k : Kp (fun j => j = g ∨ j = g + 1) w3 (((w3.setCell ⟨g, 0, none⟩ s).setCell ⟨g + 1, 0, none⟩ a).setCell ⟨g + 1, 1, none⟩ b) :=
    Kp.setCell (S := fun j => j = g ∨ j = g + 1) (p := ⟨g + 1, 1, none⟩) (Kp.setCell (S := fun j => j = g ∨ j = g + 1) (p := ⟨g + 1, 0, none⟩) (Kp.setCell (S := fun j => j = g ∨ j = g + 1) (p := ⟨g, 0, none⟩) (Kp.refl _ _) (fun _ => Or.inl rfl) s) (fun _ => Or.inr rfl) a) (fun _ => Or.inr rfl) b
  refine h.kp k (fun x hx c => ?_)
  cases hx
  rcases c with c | c <;> simp at c <;> omega

set_option maxHeartbeats 1000000 in
set_option maxRecDepth 100000 in
theorem refReadText_any (ao : Option Addr) (n cap : Nat) (left : List UInt8) (bad : Nat) (most : Int) (w : World) (hb : BS w ao n cap left) (hbad : bad ≤ 13) (hm0 : -9223372036854775808 ≤ most) (hm1 : most ≤ 9223372036854775807) (hn : left.length ≤ 140737488355328) :
    Calls Try.prog 31 #[rdV ao n cap bad, .int .i64 most] w (RefTextPost w ao n cap left (rtext left bad most).1.1 (rtext left bad most).1.2 (rtext left bad most).2) := by
  have HT := Lib.hid (show rtext left bad most = if (rcount left bad most).1.2 ≠ 0 then ((rcount left bad most).1, [])
    else if (rcount left bad most).1.1.length < (rcount left bad most).2 then (((rcount left bad most).1.1, 10), [])
    else (((rcount left bad most).1.1.drop (rcount left bad most).2, 0), (rcount left bad most).1.1.take (rcount left bad most).2) from rfl)
  have hle := rcount_le left bad most hm1
  have hlen := rcount_len left bad most
  unfold rdV
  go_enter Try.func31, Try.ntmps31
  go_wp2_with fail
  have kA : ∀ A B : Obj, Kp Noone w ((w.alloc A).alloc B) := fun A B => ((Kp.refl _ _).alloc _).alloc _
  refine (refReadCount_any ao n cap left bad most _ (hb.keep (kA _ _)) hbad hm0 hm1).mono ?_
  rintro e w1 ⟨ao', n', cap', rfl, hb1, k1⟩
  have hA := k1.heap (heap_alloc2_old w _ _) id
  have hB := k1.heap (heap_alloc2_new w _ _) id
  obtain ⟨a0, a1, a2, a3⟩ := cells_two hA
  obtain ⟨b0, b1, b2, b3⟩ := cells_two hB
  have K1 := (kA _ _).trans k1
  generalize hR : rcount left bad most = R at *
  obtain ⟨⟨left', bad'⟩, q⟩ := R
  simp only [] at *
  unfold rdV
  have hbW := hb1 w hb
  have hlen' := hbW.len
  have hlc' := hbW.le
  have hmx' : cap' ≤ 9223372036854775807 := by have := hbW.max; unfold maxLen at this; omega
  clear kA k1 hR
  have hS := fun x y z => cells_two (set_two1 (set_two1 (set_two0 hA x) y) z)
  have hS0 := fun x y z => (hS x y z).1
  have hS1 := fun x y z => (hS x y z).2.1
  have hE := fun x y z a b => cells_two (set_two1 (set_two0 (set_off (set_off (set_off hB (g := w.heap.size) (by omega) 0 x) (g := w.heap.size) (by omega) 1 y) (g := w.heap.size) (by omega) 1 z) a) b)
  have hE0 := fun x y z a b => (hE x y z a b).1
  have hE1 := fun x y z a b => (hE x y z a b).2.1
  have hF := fun x y a b => cells_two (set_two1 (set_two0 (set_off (set_off hB (g := w.heap.size) (by omega) 0 x) (g := w.heap.size) (by omega) 1 y) a) b)
  have hF0 := fun x y a b => (hF x y a b).1
  have hF1 := fun x y a b => (hF x y a b).2.1
  have KE := fun x y z a b => kp_new (kp_new (kp_new (kp_new (kp_new K1 (g := w.heap.size) (Nat.le_refl _) 0 x) (g := w.heap.size) (Nat.le_refl _) 1 y) (g := w.heap.size) (Nat.le_refl _) 1 z) (g := w.heap.size + 1) (by omega) 0 a) (g := w.heap.size + 1) (by omega) 1 b
  have KF := fun x y a b => kp_new (kp_new (kp_new (kp_new K1 (g := w.heap.size) (Nat.le_refl _) 0 x) (g := w.heap.size) (Nat.le_refl _) 1 y) (g := w.heap.size + 1) (by omega) 0 a) (g := w.heap.size + 1) (by omega) 1 b
  have HKE := Lib.hid KE
  have HKF := Lib.hid KF
  by_cases c0 : bad' = 0
  case neg =>
    have hr : Hid (rtext left bad most = ((left', bad'), [])) := Lib.hid (by rw [HT.out, if_pos c0])
    have d : ((bad' : Int) != 0) = true := by simp; omega
    clear hS hE hF hA hB KE KF K1
    go_wp2_with fail
    rw [hr.out]
    exact bodyPost_ret (v := .tuple #[rdV ao' n' cap' bad', .slice none 0 0]) (by rw [results_cell_tmp rfl]; go_simp; rfl) rfl ⟨_, _, _, none, 0, rfl, hb1, ⟨rfl, Nat.le_refl _, by unfold maxLen; omega, Row.nil _ _⟩, HKF.out _ _ _ _, fun a h => by cases h⟩
  subst c0
  rw [Int.natCast_zero]
  by_cases c1 : n' < q
  · have hr : Hid (rtext left bad most = ((left', 10), [])) := Lib.hid (by rw [HT.out, if_neg (by simp), if_pos (by rw [hlen']; exact c1)])
    clear hS hE hF hA hB KE KF K1
    go_wp2_with fail
    rw [hr.out]
    exact bodyPost_ret (v := .tuple #[rdV ao' n' cap' 10, .slice none 0 0]) (by rw [results_cell_tmp rfl]; go_simp; rfl) rfl ⟨_, _, _, none, 0, rfl, hb1, ⟨rfl, Nat.le_refl _, by unfold maxLen; omega, Row.nil _ _⟩, HKE.out _ _ _ _ _, fun a h => by cases h⟩
  · have hr : Hid (rtext left bad most = ((left'.drop q, 0), left'.take q)) := Lib.hid (by rw [HT.out, if_neg (by simp), if_neg (by rw [hlen']; exact c1)])
    have HA := Lib.hid hA
    have HB := Lib.hid hB
    have HK1 := Lib.hid K1
    clear hS hE hF hA hB KE KF K1
    go_wp2_with fail
    obtain ⟨w2, hw2, K2, h2A, h2B⟩ := two_blocks (Nat.le_refl _) HK1.out HA.out HB.out (.slice ao' n' cap') (.int .i64 0)
    rw [← hw2]
    clear hw2
    have hK2s := K2.size
    have htl : (left'.take q).length = q := by rw [List.length_take]; omega
    refine (copy_exact _ _ _ (left'.take q) _ ((hb1 w2 (hb.keep K2)).front (by omega)) (by omega)).mono ?_
    rintro e w3 ⟨rfl, hw3⟩
    obtain ⟨hB3, k3⟩ := copied2 hw3 htl (by unfold maxLen; omega)
    clear hw3
    have h3A := k3.heap h2A id
    have h3B := k3.heap h2B id
    have K3 := K2.trans k3
    have hg1 := (Array.getElem?_eq_some_iff.1 h2B).1
    obtain ⟨c0, c1', c2, c3⟩ := cells_two h3A
    obtain ⟨d0, d1, d2, d3⟩ := cells_two h3B
    have hG := fun s a b => cells_two (set_two1 (set_two0 (set_off h3B (g := w.heap.size) (by omega) 0 s) a) b)
    have hG0 := fun s a b => (hG s a b).1
    have hG1 := fun s a b => (hG s a b).2.1
    have HKG := Lib.hid (fun s a b => kp_new (kp_new (kp_new K3 (g := w.heap.size) (Nat.le_refl _) 0 s) (g := w.heap.size + 1) (by omega) 0 a) (g := w.heap.size + 1) (by omega) 1 b)
    have HB3 := Lib.hid (fun s a b => three_sets (g := w.heap.size) hB3 hg1 s a b)
    have hbp := fun W (h : BS W ao n cap left) => (hb1 W h).past (m := q) (by omega)
    clear hG h3A h3B h2A h2B k3 K3 K2 hB3 hE0 hE1 hF0 hF1 hS0 hS1 a0 a1 a2 a3 b0 b1 b2 b3
    by_cases hcap : cap' = q
    · simp only [if_pos hcap, show cap' - q = 0 by omega] at hbp
      have HBP := Lib.hid hbp
      clear hbp
      go_wp2_with fail
      rw [hr.out]
      refine bodyPost_ret (v := .tuple #[rdV (ao') (n' - q) (0) 0, .slice (some ⟨w2.heap.size, 0, none⟩) q q]) (by rw [results_cell_tmp rfl]; go_simp; rfl) rfl ⟨_, _, _, some ⟨w2.heap.size, 0, none⟩, q, by rw [htl], HBP.out, by rw [htl]; exact HB3.out _ _ _, HKG.out _ _ _, fun a h => by cases h; exact hK2s⟩
    · simp only [if_neg hcap] at hbp
      have HBP := Lib.hid hbp
      clear hbp
      go_wp2_with fail
      rw [hr.out]
      refine bodyPost_ret (v := .tuple #[rdV (ao'.map (·.add q)) (n' - q) (cap' - q) 0, .slice (some ⟨w2.heap.size, 0, none⟩) q q]) (by rw [results_cell_tmp rfl]; go_simp; rfl) rfl ⟨_, _, _, some ⟨w2.heap.size, 0, none⟩, q, by rw [htl], HBP.out, by rw [htl]; exact HB3.out _ _ _, HKG.out _ _ _, fun a h => by cases h; exact hK2s⟩

theorem info_reader : (Try.prog.info? 76).map (·.size) = some 2 := by kernel_rfl

set_option maxHeartbeats 400000 in
set_option maxRecDepth 100000 in
theorem refDone_any (ao : Option Addr) (n cap : Nat) (left : List UInt8) (bad : Nat) (w : World) (hb : BS w ao n cap left) :
    Calls Try.prog 32 #[rdV ao n cap bad] w fun e w' => e = .returned (rdV ao n cap (rdone left bad)) ∧ Kp Noone w w' := by
  unfold rdV
  go_enter Try.func32, Try.ntmps32
  have hlen := hb.len
  by_cases c0 : bad = 0
  · subst c0
    rw [Int.natCast_zero]
    by_cases c1 : 0 < n
    · have hr : rdone left 0 = 13 := by
        unfold rdone
        rw [if_pos ⟨rfl, fun c => by subst c; simp at hlen; omega⟩]
      rw [hr]
      go_wp2_with fail
      exact bodyPost_ret (v := .agg #[.slice ao n cap, .int .i64 13]) (results_cell_row (ty := 76) rfl _ _ (w.heap.size + 1) _ _ _ _ rfl (heap_alloc2_new w _ _) Try.underlying76 rfl info_reader) rfl ⟨rfl, ((Kp.refl _ _).alloc _).alloc _⟩
    · have hr : rdone left 0 = 0 := by
        unfold rdone
        rw [if_neg (fun c => c.2 (List.eq_nil_of_length_eq_zero (by omega)))]
      rw [hr]
      go_wp2_with fail
      exact bodyPost_ret (v := .agg #[.slice ao n cap, .int .i64 0]) (results_cell_row (ty := 76) rfl _ _ (w.heap.size + 1) _ _ _ _ rfl (heap_alloc2_new w _ _) Try.underlying76 rfl info_reader) rfl ⟨rfl, ((Kp.refl _ _).alloc _).alloc _⟩
  · have hr : rdone left bad = bad := by
      unfold rdone
      rw [if_neg (fun c => c0 c.1)]
    rw [hr]
    have d : ((bad : Int) == 0) = false := by simp; omega
    go_wp2_with fail
    exact bodyPost_ret (v := .agg #[.slice ao n cap, .int .i64 (bad : Int)]) (results_cell_row (ty := 76) rfl _ _ (w.heap.size + 1) _ _ _ _ rfl (heap_alloc2_new w _ _) Try.underlying76 rfl info_reader) rfl ⟨rfl, ((Kp.refl _ _).alloc _).alloc _⟩

end Go.Proofs.Ytlpdoefbjhlegaa
