/-
  SnapSwaps: whenever the power fails in a Save, the former checkpoint or the new one (plain).
-/
import Derived.Test.YtigdhdclfdojgaaSnapFull
import Derived.Test.YtigdhdclfdojgaaSnapTurned
namespace Go.Proofs.Ytigdhdclfdojgaa
open Go.RowKit

/-- What a loss of power may make of an area. -/
def CrA (a a' : AreaP) : Prop := a' = a ∨ ∃ x : Int, a.safe ≤ x ∧ x ≤ a.data.length ∧ a' = ⟨a.data.take x.toNat, x⟩
theorem crA_full {l : List UInt8} {a' : AreaP} (h : CrA (full l) a') : a' = full l := by
  rcases h with h | ⟨x, h1, h2, h3⟩
  · exact h
  · simp only [full] at h1 h2 h3
    have : x = (l.length : Int) := by omega
    subst this
    rw [h3, Int.toNat_natCast, List.take_length]
    rfl
theorem crA_next {a b : AreaP} (h : CrA a b) (hb : 0 ≤ a.safe) {x : Int} (h1 : b.safe ≤ x) (h2 : x ≤ b.data.length) : CrA a ⟨b.data.take x.toNat, x⟩ := by
  rcases h with rfl | ⟨y, hy1, hy2, rfl⟩
  · exact Or.inr ⟨x, h1, h2, rfl⟩
  · simp only [List.length_take] at h1 h2 ⊢
    have hxy : x = y := by omega
    subst hxy
    refine Or.inr ⟨x, hy1, hy2, ?_⟩
    rw [List.take_take, Nat.min_self]
theorem crash_get {s : DS} (h : DOk s) (keep : List Int) (k : ByteArray) (a : AreaP) (hk : alGet k s.areas = some a) : ∀ j, j ≤ (namesF s).length → ∃ a', alGet k (crashUp (namesF s) keep s j).areas = some a' ∧ CrA a a'
  | 0, _ => ⟨a, hk, Or.inl rfl⟩
  | j + 1, hj => by
    obtain ⟨b, hb, hc⟩ := crash_get h keep k a hk j (by omega)
    have hok := (crashUp_ok h (namesF s) namesF_mem keep j (by omega)).1
    have ha0 := (h.each _ (alGet_mem hk)).1
    have hn : (namesF s)[j]?.getD ByteArray.empty = (namesF s)[j] := by rw [List.getElem?_eq_getElem (by omega)]; rfl
    show ∃ a', alGet k (crash1 (crashUp (namesF s) keep s j) ((namesF s)[j]?.getD ByteArray.empty) keep[j]?).areas = some a' ∧ CrA a a'
    rw [hn]
    unfold crash1 putF
    simp only []
    rw [alGet_put]
    by_cases e : k = (namesF s)[j]
    · rw [if_pos e, ← e]
      have hg : get0 k (crashUp (namesF s) keep s j).areas = b := by unfold get0; rw [hb]; rfl
      have hl := crashA_le hok k keep[j]?
      rw [hg] at hl ⊢
      exact ⟨_, rfl, crA_next hc ha0 hl.1 hl.2⟩
    · rw [if_neg e]
      exact ⟨b, hb, hc⟩
/-- Behind a loss of power: a checkpoint is there. -/
structure Aft (t sl : Nat) (b : List UInt8) (K : List ByteArray) (s : DS) : Prop where
  up : s.down = false ∧ s.fuse = 0
  keys : s.areas.map (·.1) = K
  now : alGet ckNow s.areas = some (full (pL t sl b))
  img : alGet (areaN t) s.areas = some (full b)
theorem crash_aft {s : DS} (h : DOk s) (keep : List Int) {t sl : Nat} {b : List UInt8} {K : List ByteArray} (hK : s.areas.map (·.1) = K) (hn : alGet ckNow s.areas = some (full (pL t sl b))) (hi : alGet (areaN t) s.areas = some (full b)) : Aft t sl b K (crashF s keep) := by
  have hk := (crashUp_ok h (namesF s) namesF_mem keep (namesF s).length (Nat.le_refl _)).2
  obtain ⟨a1, g1, c1⟩ := crash_get h keep _ _ hn (namesF s).length (Nat.le_refl _)
  obtain ⟨a2, g2, c2⟩ := crash_get h keep _ _ hi (namesF s).length (Nat.le_refl _)
  rw [crA_full c1] at g1
  rw [crA_full c2] at g2
  exact ⟨⟨rfl, rfl⟩, hk.trans hK, g1, g2⟩
theorem Aft.load {t sl : Nat} {b : List UInt8} {K : List ByteArray} {s : DS} (h : Aft t sl b K s) (ht0 : 0 < t) (ht : t ≤ 2) (hs : sl ≤ 1099511627776) (hb : b.length ≤ 16384) : loadF s = (sl, b, true, 0) :=
  load_some s h.up.1 (t := t) (x := (pL t sl b).length) (y := b.length) h.now ht0 (by omega) hs hb h.img
theorem get_filter_stays (t : Nat) (k : ByteArray) (hk : staysN t k = true) : ∀ (A : Areas), alGet k (A.filter (fun p => staysN t p.1)) = alGet k A
  | [] => rfl
  | p :: r => by
    rw [alGet_cons]
    by_cases hp : staysN t p.1 = true
    · rw [List.filter_cons_of_pos (p := fun p : ByteArray × AreaP => staysN t p.1) hp, alGet_cons, get_filter_stays t k hk r]
    · rw [List.filter_cons_of_neg (p := fun p : ByteArray × AreaP => staysN t p.1) hp, if_neg (fun e : k = p.1 => hp (e ▸ hk)), get_filter_stays t k hk r]
theorem Aft.clean {t sl : Nat} {b : List UInt8} {K : List ByteArray} {s : DS} (h : Aft t sl b K s) (hok : DOk s) (ht0 : 0 < t) (ht : t ≤ 2) (hs : sl ≤ 1099511627776) (hK : (K.filter (staysN t)).length = 2) (hst : staysN t ckNow = true ∧ staysN t (areaN t) = true) :
    (cleanF s).2 = 0 ∧ (listF (cleanF s).1).length = 2 ∧ Aft t sl b (K.filter (staysN t)) (cleanF s).1 := by
  obtain ⟨A, r, st, f, d⟩ := s
  obtain ⟨⟨u1, u2⟩, k1, n1, i1⟩ := h
  simp only [] at u1 u2 k1 n1 i1
  subst u1 u2
  have hc := current_some ⟨A, r, st, 0, false⟩ rfl (t := t) (sl := sl) (b := b) (x := (pL t sl b).length) n1 ht0 (by omega) hs
  obtain ⟨st', e⟩ := clean_up t A r st hok.keys (fun p hp => hok.names p hp) (by rw [hc]; exact ⟨rfl, rfl⟩)
  have hmap : (A.filter (fun p => staysN t p.1)).map (·.1) = K.filter (staysN t) := by
    rw [← k1, List.filter_map]
    rfl
  rw [e]
  refine ⟨rfl, ?_, ⟨rfl, rfl⟩, hmap, ?_, ?_⟩
  · rw [listF_length, if_neg (by simp)]
    have := congrArg List.length hmap
    rw [List.length_map, hK] at this
    exact this
  · show alGet ckNow (A.filter _) = _
    rw [get_filter_stays t _ hst.1]
    exact n1
  · show alGet (areaN t) (A.filter _) = _
    rw [get_filter_stays t _ hst.2]
    exact i1
/-- What the law asks of the second Save and of the loss of power. -/
inductive SwapP (n : Nat) (first : List UInt8) (m : Int) (second : List UInt8) (keep : List Int) (R : DS × Nat) : Prop
  | old (h : R.2 ≠ 0) (K : List ByteArray) (ha : Aft 1 n first K (crashF R.1 keep)) (hK : (K.filter (staysN 1)).length = 2)
  | young (h : R.2 = 0 ∨ R.2 = 2) (k : Nat) (hm : m = (k : Int)) (hk : k ≤ 1099511627776) (hb : second.length ≤ 16384) (K : List ByteArray) (ha : Aft 2 k second K (crashF R.1 keep)) (hK : (K.filter (staysN 2)).length = 2)
theorem swap_plain (st f0 : Int) (n : Nat) (first : List UInt8) (m : Int) (second : List UInt8) (keep : List Int) (hn : n ≤ 1099511627776) (hok : DOk (saveF ⟨A1 n first, 4194304, st, f0, false⟩ m second).1) :
    SwapP n first m second keep (saveF ⟨A1 n first, 4194304, st, f0, false⟩ m second) := by
  have g1 : ∀ X : Areas, alGet ckNow ((ckB, full first) :: (ckNow, full (pL 1 n first)) :: X) = some (full (pL 1 n first)) := fun X => by rw [alGet_cons, if_neg n_now_b, alGet_cons, if_pos rfl]
  have g2 : ∀ X : Areas, alGet (areaN 1) ((ckB, full first) :: X) = some (full first) := fun X => by rw [area_1, alGet_cons, if_pos rfl]
  have s1 := stays_1
  have s2 := stays_2
  by_cases hbad : m < 0 ∨ 1099511627776 < m
  · have e : saveF ⟨A1 n first, 4194304, st, f0, false⟩ m second = (⟨A1 n first, 4194304, st, f0, false⟩, 1) := by unfold saveF; rw [if_pos hbad]
    rw [e] at hok ⊢
    exact SwapP.old (by simp) [ckB, ckNow] (crash_aft hok keep rfl (g1 []) (g2 _)) (by simp [s1.1, s1.2.1])
  by_cases hbig : 16384 < second.length
  · have e : saveF ⟨A1 n first, 4194304, st, f0, false⟩ m second = (⟨A1 n first, 4194304, st, f0, false⟩, 12) := by unfold saveF; rw [if_neg hbad, if_pos hbig]
    rw [e] at hok ⊢
    exact SwapP.old (by simp) [ckB, ckNow] (crash_aft hok keep rfl (g1 []) (g2 _)) (by simp [s1.1, s1.2.1])
  obtain ⟨k, rfl⟩ : ∃ k : Nat, m = (k : Int) := ⟨m.toNat, by omega⟩
  have hk : k ≤ 1099511627776 := by omega
  have h1 := save_1 4194304 st f0 n first k second hn hk (by omega)
  generalize saveF ⟨A1 n first, 4194304, st, f0, false⟩ (k : Int) second = R at *
  cases h1 with
  | dark1 st h a ha => exact SwapP.old (by simp) [ckB, ckNow, ckA] (crash_aft hok keep rfl (g1 _) (g2 _)) (by simp [s1.1, s1.2.1, s1.2.2.1])
  | dark2 st h a ha => exact SwapP.old (by simp) [ckB, ckNow, ckA, ckTmp] (crash_aft hok keep rfl (g1 _) (g2 _)) (by simp [s1.1, s1.2.1, s1.2.2.1, s1.2.2.2])
  | dark3 st h => exact SwapP.young (Or.inr rfl) k rfl hk (by omega) [ckB, ckNow, ckA] (crash_aft hok keep rfl (by rw [alGet_cons, if_neg n_now_b, alGet_cons, if_pos rfl]) (by rw [area_2, alGet_cons, if_neg n_a_b, alGet_cons, if_neg n_now_a.symm, alGet_cons, if_pos rfl])) (by simp [s2.1, s2.2.1, s2.2.2.1])
  | full1 st f h => exact SwapP.old (by simp) [ckB, ckNow] (crash_aft hok keep rfl (g1 []) (g2 _)) (by simp [s1.1, s1.2.1])
  | full2 st f h => exact SwapP.old (by simp) [ckB, ckNow, ckA] (crash_aft hok keep rfl (g1 _) (g2 _)) (by simp [s1.1, s1.2.1, s1.2.2.1])
  | done st f h => exact SwapP.young (Or.inl rfl) k rfl hk (by omega) [ckNow, ckA] (crash_aft hok keep rfl (by show alGet ckNow (A2 k second) = _; unfold A2; rw [alGet_cons, if_pos rfl]) (by show alGet (areaN 2) (A2 k second) = _; unfold A2; rw [area_2, alGet_cons, if_neg n_now_a.symm, alGet_cons, if_pos rfl])) (by simp [s2.2.1, s2.2.2.1])

end Go.Proofs.Ytigdhdclfdojgaa
