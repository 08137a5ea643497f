/-
  SAVE behind a Save; Load; Clean; a loss of power (plain).
-/
import Derived.Test.YtigdhdclfdojgaaSnapSteps
import Derived.Test.YtigdhdclfdojgaaDiskWhole
namespace Go.Proofs.Ytigdhdclfdojgaa
open Go.RowKit

/-- What Save leaves behind the second one (turn 1). -/
inductive Save1 (r f0 : Int) (s0 : Nat) (b0 : List UInt8) (s : Nat) (b : List UInt8) : DS × Nat → Prop
  | dark1 (st : Int) (h : f0 ≠ 0) (a : AreaP) (ha : a.data = b ∧ a.safe = 0) : Save1 r f0 s0 b0 s b (⟨[(ckB, full b0), (ckNow, full (pL 1 s0 b0)), (ckA, a)], r, st, 0, true⟩, 2)
  | dark2 (st : Int) (h : f0 ≠ 0) (a : AreaP) (ha : a.data = pL 2 s b ∧ 0 ≤ a.safe ∧ a.safe ≤ a.data.length) : Save1 r f0 s0 b0 s b (⟨[(ckB, full b0), (ckNow, full (pL 1 s0 b0)), (ckA, full b), (ckTmp, a)], r, st, 0, true⟩, 2)
  | dark3 (st : Int) (h : f0 ≠ 0) : Save1 r f0 s0 b0 s b (⟨[(ckB, full b0), (ckNow, full (pL 2 s b)), (ckA, full b)], r, st, 0, true⟩, 2)
  | full1 (st f : Int) (h : f0 = 0 → f = 0) : Save1 r f0 s0 b0 s b (⟨A1 s0 b0, r, st, f, false⟩, 42)
  | full2 (st f : Int) (h : f0 = 0 → f = 0) : Save1 r f0 s0 b0 s b (⟨[(ckB, full b0), (ckNow, full (pL 1 s0 b0)), (ckA, full b)], r, st, f, false⟩, 42)
  | done (st f : Int) (h : f0 = 0 → f = 0) : Save1 r f0 s0 b0 s b (⟨A2 s b, r, st, f, false⟩, 0)
theorem save_1 (r st f0 : Int) (s0 : Nat) (b0 : List UInt8) (s : Nat) (b : List UInt8) (hs0 : s0 ≤ 1099511627776) (hs : s ≤ 1099511627776) (hb : b.length ≤ 16384) :
    Save1 r f0 s0 b0 s b (saveF ⟨A1 s0 b0, r, st, f0, false⟩ (s : Int) b) := by
  have hp := len_pL 2 s b
  have hpe : paperL (1 + 1) s (sumN b) = pL 2 s b := rfl
  have hcu := current_some ⟨A1 s0 b0, r, st, f0, false⟩ rfl (t := 1) (sl := s0) (b := b0) (x := (pL 1 s0 b0).length) (by show alGet ckNow [(ckB, full b0), (ckNow, full (pL 1 s0 b0))] = _; rw [alGet_cons, if_neg n_now_b, alGet_cons, if_pos rfl]; rfl) (by omega) (by omega) hs0
  unfold saveF
  rw [if_neg (by omega), if_neg (by omega), hcu]
  simp only [ne_eq, not_true_eq_false, if_false]
  rw [if_neg (by omega), Int.toNat_natCast]
  show Save1 r f0 s0 b0 s b (saveA (layF ⟨A1 s0 b0, r, st, f0, false⟩ ckA b) 1 s (sumN b))
  generalize hL : layF ⟨A1 s0 b0, r, st, f0, false⟩ ckA b = R
  have h1 := lay_new (A1 s0 b0) r st f0 ckA b ok_a (by unfold A1; rw [alGet_cons, if_neg n_a_b, alGet_cons, if_neg n_now_a.symm]; rfl) (by simp [A1]) (by omega)
  rw [hL] at h1
  have hput : ∀ a : AreaP, alPut ckA a (A1 s0 b0) = [(ckB, full b0), (ckNow, full (pL 1 s0 b0)), (ckA, a)] := fun a => by
    unfold A1; rw [put_cons, if_neg n_a_b, put_cons, if_neg n_now_a.symm]; rfl
  unfold saveA
  cases h1 with
  | dark st h a ha => rw [if_pos (by simp), hput]; exact Save1.dark1 _ h a ha
  | full st f h hr => rw [if_pos (by simp)]; exact Save1.full1 _ _ h
  | done st f h hr =>
    rw [if_neg (by simp), hpe, hput]
    show Save1 r f0 s0 b0 s b (saveB (layF ⟨[(ckB, full b0), (ckNow, full (pL 1 s0 b0)), (ckA, full b)], r, st, f, false⟩ ckTmp (pL 2 s b)) 1)
    generalize hL2 : layF ⟨[(ckB, full b0), (ckNow, full (pL 1 s0 b0)), (ckA, full b)], r, st, f, false⟩ ckTmp (pL 2 s b) = R2
    have h2 := lay_new [(ckB, full b0), (ckNow, full (pL 1 s0 b0)), (ckA, full b)] r st f ckTmp (pL 2 s b) ok_tmp (by rw [alGet_cons, if_neg n_tmp_b, alGet_cons, if_neg n_now_tmp.symm, alGet_cons, if_neg n_tmp_a]; rfl) (by simp) (by omega)
    rw [hL2] at h2
    have hpt : ∀ a : AreaP, alPut ckTmp a [(ckB, full b0), (ckNow, full (pL 1 s0 b0)), (ckA, full b)] = [(ckB, full b0), (ckNow, full (pL 1 s0 b0)), (ckA, full b), (ckTmp, a)] := fun a => by
      rw [put_cons, if_neg n_tmp_b, put_cons, if_neg n_now_tmp.symm, put_cons, if_neg n_tmp_a]; rfl
    unfold saveB
    cases h2 with
    | dark st h2 a ha => rw [if_pos (by simp), hpt]; exact Save1.dark2 _ (fun c => h2 (h c)) a ⟨ha.1, by omega, by omega⟩
    | full st f h2 hr => rw [if_pos (by simp)]; exact Save1.full2 _ _ (fun c => h2 (h c))
    | done st f h2 hr2 =>
      rw [if_neg (by simp), hpt]
      have hgt : alGet ckTmp [(ckB, full b0), (ckNow, full (pL 1 s0 b0)), (ckA, full b), (ckTmp, full (pL 2 s b))] = some (full (pL 2 s b)) := by
        rw [alGet_cons, if_neg n_tmp_b, alGet_cons, if_neg n_now_tmp.symm, alGet_cons, if_neg n_tmp_a, alGet_cons, if_pos rfl]
      rcases move_tmp [(ckB, full b0), (ckNow, full (pL 1 s0 b0)), (ckA, full b), (ckTmp, full (pL 2 s b))] r st f (by rw [hgt]; simp) with ⟨e0, e1⟩ | ⟨e0, e1⟩
      · have e1' : moveF ⟨[(ckB, full b0), (ckNow, full (pL 1 s0 b0)), (ckA, full b), (ckTmp, ⟨pL 2 s b, ((pL 2 s b).length : Int)⟩)], r, st, f, false⟩ ckTmp ckNow = _ := e1
        rw [e1']
        unfold saveC
        rw [if_pos (by simp)]
        exact Save1.dark2 _ (fun c => by have := h2 (h c); omega) _ ⟨rfl, by simp [full], by simp [full]⟩
      · have e1' : moveF ⟨[(ckB, full b0), (ckNow, full (pL 1 s0 b0)), (ckA, full b), (ckTmp, ⟨pL 2 s b, ((pL 2 s b).length : Int)⟩)], r, st, f, false⟩ ckTmp ckNow = _ := e1
        rw [e1']
        unfold saveC
        rw [if_neg (by simp), if_pos (by omega), area_1]
        have hg : get0 ckTmp [(ckB, full b0), (ckNow, full (pL 1 s0 b0)), (ckA, full b), (ckTmp, full (pL 2 s b))] = full (pL 2 s b) := by
          unfold get0; rw [hgt]; rfl
        have hd : alDel ckTmp [(ckB, full b0), (ckNow, full (pL 1 s0 b0)), (ckA, full b), (ckTmp, full (pL 2 s b))] = [(ckB, full b0), (ckNow, full (pL 1 s0 b0)), (ckA, full b)] := by
          rw [del_cons, if_neg n_tmp_b, del_cons, if_neg n_now_tmp.symm, del_cons, if_neg n_tmp_a, del_cons, if_pos rfl]
        have hpn : alPut ckNow (full (pL 2 s b)) [(ckB, full b0), (ckNow, full (pL 1 s0 b0)), (ckA, full b)] = [(ckB, full b0), (ckNow, full (pL 2 s b)), (ckA, full b)] := by
          rw [put_cons, if_neg n_now_b, put_cons, if_pos rfl]
        rw [hg, hd, hpn]
        simp only []
        rcases drop_there [(ckB, full b0), (ckNow, full (pL 2 s b)), (ckA, full b)] r (st + 1) (max 0 (f - 1)) ckB ok_b (by rw [alGet_cons, if_pos rfl]; simp) with ⟨e2, e3⟩ | ⟨e2, e3⟩
        · rw [e3]
          unfold saveD
          rw [if_neg (by simp)]
          exact Save1.dark3 _ (fun c => by have := h2 (h c); omega)
        · rw [e3]
          unfold saveD
          rw [if_neg (by simp), del_cons, if_pos rfl]
          exact Save1.done _ _ (fun c => by have := h2 (h c); omega)

/-! ### Load -/

theorem load_some (s : DS) (hd : s.down = false) {t sl : Nat} {b : List UInt8} {x y : Int} (h : alGet ckNow s.areas = some ⟨pL t sl b, x⟩) (ht0 : 0 < t) (ht : t ≤ 1099511627776) (hs : sl ≤ 1099511627776) (hb : b.length ≤ 16384)
    (ha : alGet (areaN t) s.areas = some ⟨b, y⟩) : loadF s = (sl, b, true, 0) := by
  have h2 : readF s (areaN t) = (b, 0) := by
    unfold readF
    rw [bars_up hd (areaN_ok t) (fun _ => by rw [ha]; simp), if_neg (by simp)]
    unfold get0
    rw [ha]
    rfl
  unfold loadF
  rw [current_some s hd h ht0 ht hs, if_neg (by simp only []; omega)]
  unfold loadP
  simp only []
  rw [h2, if_neg (by simp only []; omega), if_neg (by simp)]

/-! ### Clean -/

def inN : List ByteArray → ByteArray → Bool
  | [], _ => false
  | k :: N, x => decide (x = k) || inN N x
theorem inN_cons (k : ByteArray) (N : List ByteArray) (x : ByteArray) : inN (k :: N) x = (decide (x = k) || inN N x) := rfl
theorem inN_iff {N : List ByteArray} {x : ByteArray} : inN N x = true ↔ x ∈ N := by
  induction N with
  | nil => simp [inN]
  | cons k N ih => simp [inN, ih]
theorem clean_keys (t : Nat) : ∀ (N : List ByteArray) (A : Areas) (r st : Int), N.Nodup → (A.map (·.1)).Nodup → (∀ k ∈ N, nameOk k = true ∧ alGet k A ≠ none) →
    ∃ st', cleanL t N ⟨A, r, st, 0, false⟩ = (⟨A.filter (fun p => !(inN N p.1 && !staysN t p.1)), r, st', 0, false⟩, 0)
  | [], A, r, st, _, _, _ => ⟨st, by
    unfold cleanL
    have : A.filter (fun p => !(inN [] p.1 && !staysN t p.1)) = A := List.filter_eq_self.2 (fun p _ => by simp [inN])
    rw [this]⟩
  | k :: N, A, r, st, hN, hA, hk => by
    have hN2 := List.nodup_cons.1 hN
    have hNk : inN N k = false := by
      cases h : inN N k with
      | false => rfl
      | true => exact absurd (inN_iff.1 h) hN2.1
    unfold cleanL
    by_cases hs : staysN t k = true
    · obtain ⟨st', e⟩ := clean_keys t N A r st hN2.2 hA (fun x hx => hk x (List.mem_cons_of_mem _ hx))
      refine ⟨st', ?_⟩
      rw [if_pos hs, e]
      have : A.filter (fun p => !(inN N p.1 && !staysN t p.1)) = A.filter (fun p => !(inN (k :: N) p.1 && !staysN t p.1)) := by
        apply List.filter_congr
        intro p _
        rw [inN_cons]
        by_cases hp : p.1 = k
        · rw [hp, hs]; simp
        · rw [decide_eq_false hp, Bool.false_or]
      rw [this]
    · rw [if_neg hs]
      have hs : staysN t k = false := by simpa using hs
      rcases drop_there A r st 0 k (hk k List.mem_cons_self).1 (hk k List.mem_cons_self).2 with ⟨e0, _⟩ | ⟨_, e1⟩
      · omega
      · rw [e1, if_neg (by simp)]
        have hdl := alDel_eq k A hA
        obtain ⟨st', e⟩ := clean_keys t N (alDel k A) r (st + 1) hN2.2 (alDel_keys k A hA) (fun x hx => ⟨(hk x (List.mem_cons_of_mem _ hx)).1, by
          rw [alGet_del _ _ _ hA, if_neg (fun c : x = k => hN2.1 (c ▸ hx))]
          exact (hk x (List.mem_cons_of_mem _ hx)).2⟩)
        refine ⟨st', ?_⟩
        show cleanL t N ⟨alDel k A, r, st + 1, max 0 (0 - 1), false⟩ = _
        rw [show max 0 ((0 : Int) - 1) = 0 from by decide, e, hdl, List.filter_filter]
        have : A.filter (fun p => !(inN N p.1 && !staysN t p.1) && !decide (k = p.1)) = A.filter (fun p => !(inN (k :: N) p.1 && !staysN t p.1)) := by
          apply List.filter_congr
          intro p _
          rw [inN_cons]
          by_cases hp : p.1 = k
          · rw [hp, hs, hNk]; simp
          · rw [decide_eq_false hp, decide_eq_false (Ne.symm hp), Bool.false_or]; simp
        rw [this]
theorem clean_up (t : Nat) (A : Areas) (r st : Int) (hA : (A.map (·.1)).Nodup) (hk : ∀ p ∈ A, nameOk p.1 = true) (hc : (currentF ⟨A, r, st, 0, false⟩).2 = 0 ∧ (currentF ⟨A, r, st, 0, false⟩).1.turn = t) :
    ∃ st', cleanF ⟨A, r, st, 0, false⟩ = (⟨A.filter (fun p => staysN t p.1), r, st', 0, false⟩, 0) := by
  have hm : ∀ k, k ∈ namesF ⟨A, r, st, 0, false⟩ ↔ k ∈ A.map (·.1) := fun k => (sortN_of _).mem_iff
  obtain ⟨st', e⟩ := clean_keys t (namesF ⟨A, r, st, 0, false⟩) A r st ((sortN_of _).nodup_iff.2 hA) hA (fun k hkm => by
    have h1 := (hm k).1 hkm
    obtain ⟨p, hp, rfl⟩ := List.mem_map.1 h1
    exact ⟨hk p hp, get_ne h1⟩)
  refine ⟨st', ?_⟩
  unfold cleanF
  rw [hc.1, hc.2, if_neg (by simp)]
  unfold listF
  rw [if_neg (by simp), e]
  have : A.filter (fun p => !(inN (namesF ⟨A, r, st, 0, false⟩) p.1 && !staysN t p.1)) = A.filter (fun p => staysN t p.1) := by
    apply List.filter_congr
    intro p hp
    rw [inN_iff.2 ((hm _).2 (List.mem_map_of_mem hp))]
    simp
  rw [this]

end Go.Proofs.Ytigdhdclfdojgaa
