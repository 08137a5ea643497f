/-
  SnapTurned: a turned byte is told (plain).
-/
import Derived.Test.YtigdhdclfdojgaaSnapSteps2
import Derived.Test.YtigdhdclfdojgaaDiskWhole
namespace Go.Proofs.Ytigdhdclfdojgaa
open Go.RowKit

theorem sortN_two {a b : ByteArray} (h : toL a ≤ toL b) : sortN [a, b] = [a, b] := by
  unfold sortN
  rw [List.mergeSort_of_pairwise, List.map_map]
  · have : (ofL ∘ toL) = id := funext ofL_toL
    rw [this, List.map_id]
  · simp [h]
theorem le_b_now : toL ckB ≤ toL ckNow := by decide
theorem image_A1 (r st f : Int) (d : Bool) (s : Nat) (b : List UInt8) : imageF ⟨A1 s b, r, st, f, d⟩ = A1 s b := by
  have h1 : get0 ckB (A1 s b) = full b := by unfold get0 A1; rw [alGet_cons, if_pos rfl]; rfl
  have h2 : get0 ckNow (A1 s b) = full (pL 1 s b) := by unfold get0 A1; rw [alGet_cons, if_neg n_now_b, alGet_cons, if_pos rfl]; rfl
  have h3 : namesF ⟨A1 s b, r, st, f, d⟩ = [ckB, ckNow] := sortN_two le_b_now
  unfold imageF
  rw [h3, List.map_cons, List.map_cons, List.map_nil]
  show [(ckB, get0 ckB (A1 s b)), (ckNow, get0 ckNow (A1 s b))] = _
  rw [h1, h2]
  rfl
theorem save_room (s : Nat) (b : List UInt8) (hs : s ≤ 1099511627776) (hb : b.length ≤ 16384) : ∃ st, saveF (newF 4194304) (s : Int) b = (⟨A1 s b, 4194304, st, 0, false⟩, 0) := by
  have h0 := save_0 4194304 0 0 s b hs hb
  have hp := len_pL 1 s b
  have e0 : newF 4194304 = ⟨[], 4194304, 0, 0, false⟩ := by
    unfold newF
    have : max (0 : Int) (min 4194304 4194304) = 4194304 := by omega
    rw [this]
  rw [← e0] at h0
  generalize saveF (newF 4194304) (s : Int) b = R at h0
  cases h0 with
  | dark A st h => omega
  | full1 st f h hr => omega
  | full2 st f h hr => omega
  | done st f h hr =>
    have hf := h rfl
    subst hf
    exact ⟨st, rfl⟩
def M2 (x y : AreaP) : Areas := [(ckB, x), (ckNow, y)]
theorem mount_two (x y : AreaP) (hx : 0 ≤ x.safe ∧ x.safe ≤ x.data.length) (hy : 0 ≤ y.safe ∧ y.safe ≤ y.data.length) (hr : x.safe + y.safe ≤ 4194304) : mountF 4194304 (M2 x y) = (⟨M2 x y, 4194304, 0, 0, false⟩, 0) := by
  have e0 : newF 4194304 = ⟨[], 4194304, 0, 0, false⟩ := by
    unfold newF
    have : max (0 : Int) (min 4194304 4194304) = 4194304 := by omega
    rw [this]
  have m1 : mountE ⟨[], 4194304, 0, 0, false⟩ (ckB, x) = 0 := by
    unfold mountE
    rw [ok_b, if_neg (by simp), if_neg (by intro c; rcases c with c | c | c; exact c rfl; simp only [] at c; omega; simp only [] at c; omega)]
  have m2 : mountE ⟨[(ckB, x)], 4194304, 0, 0, false⟩ (ckNow, y) = 0 := by
    unfold mountE
    rw [ok_now, if_neg (by simp), if_neg (by intro c; rcases c with c | c | c; (simp only [alGet_cons] at c; rw [if_neg n_now_b, alGet_nil] at c; exact c rfl); simp only [] at c; omega; simp only [] at c; omega)]
  have hput : alPut ckNow y [(ckB, x)] = M2 x y := by rw [put_cons, if_neg n_now_b]; rfl
  have hm : mountL (M2 x y) (newF 4194304) = (⟨M2 x y, 4194304, 0, 0, false⟩, 0) := by
    rw [e0]
    unfold M2 mountL
    rw [m1, if_neg (by simp)]
    show mountL [(ckNow, y)] ⟨[(ckB, x)], 4194304, 0, 0, false⟩ = _
    unfold mountL
    rw [m2, if_neg (by simp)]
    unfold mountL putF
    simp only []
    rw [hput]
    rfl
  unfold mountF
  rw [if_neg (by simp [M2]), hm, if_neg (by simp), if_neg (by simp [M2, sumF]; omega)]
theorem cur_M2 (s : Nat) (b : List UInt8) (x : AreaP) (z : Int) (hs : s ≤ 1099511627776) : currentF ⟨M2 x ⟨pL 1 s b, z⟩, 4194304, 0, 0, false⟩ = (⟨1, s, sumN b⟩, 0) :=
  current_some _ rfl (t := 1) (sl := s) (b := b) (x := z) (by show alGet ckNow (M2 x ⟨pL 1 s b, z⟩) = _; unfold M2; rw [alGet_cons, if_neg n_now_b, alGet_cons, if_pos rfl]) (by omega) (by omega) hs
/-- The image's byte. -/
theorem turned_image (s : Nat) (b : List UInt8) (hs : s ≤ 1099511627776) {k : Nat} (hk : k < b.length) (c : UInt8) (hc : b[k] ≠ c) (x z : Int) : loadF ⟨M2 ⟨b.set k c, x⟩ ⟨pL 1 s b, z⟩, 4194304, 0, 0, false⟩ = (0, [], false, 44) := by
  have h2 : readF ⟨M2 ⟨b.set k c, x⟩ ⟨pL 1 s b, z⟩, 4194304, 0, 0, false⟩ (areaN 1) = (b.set k c, 0) := by
    have hg : alGet ckB (M2 ⟨b.set k c, x⟩ ⟨pL 1 s b, z⟩) = some ⟨b.set k c, x⟩ := by unfold M2; rw [alGet_cons, if_pos rfl]
    unfold readF
    rw [area_1, bars_up rfl ok_b (fun _ => by show alGet ckB (M2 _ _) ≠ none; rw [hg]; simp), if_neg (by simp)]
    unfold get0
    simp only []
    rw [hg]
    rfl
  unfold loadF
  rw [cur_M2 _ _ _ _ hs, if_neg (by simp)]
  unfold loadP
  simp only []
  rw [h2, if_pos (Or.inr ⟨rfl, Or.inl (fun e => hc ((sum_set hk c).1 e))⟩)]
/-- The manifest's byte. -/
theorem turned_paper (s : Nat) (b : List UInt8) {k : Nat} (hk : k < (pL 1 s b).length) (c : UInt8) (hc : (pL 1 s b)[k] ≠ c) (x : AreaP) (z : Int) : loadF ⟨M2 x ⟨(pL 1 s b).set k c, z⟩, 4194304, 0, 0, false⟩ = (0, [], false, 44) := by
  have h1 : readF ⟨M2 x ⟨(pL 1 s b).set k c, z⟩, 4194304, 0, 0, false⟩ ckNow = ((pL 1 s b).set k c, 0) := by
    have hg : alGet ckNow (M2 x ⟨(pL 1 s b).set k c, z⟩) = some ⟨(pL 1 s b).set k c, z⟩ := by unfold M2; rw [alGet_cons, if_neg n_now_b, alGet_cons, if_pos rfl]
    unfold readF
    rw [bars_up rfl ok_now (fun _ => by show alGet ckNow (M2 _ _) ≠ none; rw [hg]; simp), if_neg (by simp)]
    unfold get0
    simp only []
    rw [hg]
    rfl
  have hk2 : okSeal ((pL 1 s b).set k c) = false := by
    have h := ok_set (numL 1 ++ numL s ++ numL (sumN b)) (k := k) hk c
    have h3 : ((numL 1 ++ numL s ++ numL (sumN b)) ++ eightL (sumN (numL 1 ++ numL s ++ numL (sumN b))))[k]'hk = (pL 1 s b)[k] := rfl
    rw [h3] at h
    have h4 : okSeal ((pL 1 s b).set k c) = ((pL 1 s b)[k] == c) := h
    rw [h4]
    simpa using hc
  have h5 : openE ((pL 1 s b).set k c) ≠ 0 := by
    unfold openE
    rw [hk2]
    split
    · contradiction
    · split <;> omega
  have h6 : currentF ⟨M2 x ⟨(pL 1 s b).set k c, z⟩, 4194304, 0, 0, false⟩ = (pap0, 44) := by
    unfold currentF
    rw [h1, if_pos rfl]
    unfold readPF
    rw [if_pos h5]
  unfold loadF
  rw [h6, if_pos (by simp)]

end Go.Proofs.Ytigdhdclfdojgaa
