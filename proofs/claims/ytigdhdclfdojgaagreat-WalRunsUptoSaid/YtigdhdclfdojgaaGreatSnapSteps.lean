/-
  SAVE, LOAD, CLEAN on a disk whose areas are known (plain).
-/
import Derived.Test.YtigdhdclfdojgaaGreatSnapPlain
import Derived.Test.YtigdhdclfdojgaaGreatPackSeal
namespace Go.Proofs.YtigdhdclfdojgaaGreat
open Go.RowKit

/-! ### A paper is read again -/

theorem ok_sealL (l : List UInt8) : okSeal (sealL l) = true := by
  have h : (l ++ eightL (sumN l)).length = l.length + 8 := by rw [List.length_append, length_eightL]
  unfold sealL
  rw [okSeal_iff h, List.take_left' rfl, List.drop_left' rfl]
  exact beq_self_eq_true _
theorem openL_sealL (l : List UInt8) : openL (sealL l) = l := by
  unfold openL
  rw [if_pos (ok_sealL l)]
  unfold sealL
  rw [List.length_append, length_eightL, Nat.add_sub_cancel, List.take_left' rfl]
theorem openE_sealL (l : List UInt8) : openE (sealL l) = 0 := by unfold openE; rw [if_pos (ok_sealL l)]
theorem rnum_num (u : Nat) (hu : W64 u) (rest : List UInt8) : rnum (numL u ++ rest) 0 = ((rest, 0), u) := by
  have h8 := sizeN_le u
  have hlt := sizeN_lt u (by unfold W64 at hu; omega)
  have hc : (UInt8.ofNat (sizeN u)).toNat = sizeN u := by simp; omega
  have htk : (beN (sizeN u) u ++ rest).take (sizeN u) = beN (sizeN u) u := List.take_left' (length_beN _ _)
  have hdr : (beN (sizeN u) u ++ rest).drop (sizeN u) = rest := List.drop_left' (length_beN _ _)
  have hob : ofBE (beN (sizeN u) u) = u := by rw [ofBE_beN, Nat.mod_eq_of_lt hlt]
  have hl : sizeN u ≤ (beN (sizeN u) u ++ rest).length := by rw [List.length_append, length_beN]; omega
  have hz : ¬ (0 < sizeN u ∧ (beN (sizeN u) u ++ rest)[0]? = some 0) := by
    rw [← sizeN_read _ (sizeN u) h8 hl, htk, hob]
  show rnum (UInt8.ofNat (sizeN u) :: (beN (sizeN u) u ++ rest)) 0 = _
  rw [rnum_cons, hc, if_neg (by omega), if_neg (by omega), if_neg hz, hdr, htk, hob]
theorem rcount_num (u : Nat) (most : Int) (hu : (u : Int) ≤ most) (hm : most ≤ 1099511627776) (rest : List UInt8) : rcount (numL u ++ rest) 0 most = ((rest, 0), u) := by
  unfold rcount
  rw [rnum_num u (by unfold W64; omega), if_neg (by simp only []; omega)]
theorem readPF_paper {t s sum : Nat} (ht0 : 0 < t) (ht : t ≤ 1099511627776) (hs : s ≤ 1099511627776) (hsum : W64 sum) : readPF (paperL t s sum) = (⟨t, s, sum⟩, 0) := by
  have h1 : papR1 (numL t ++ numL s ++ numL sum) = ((numL s ++ numL sum, 0), t) := by
    unfold papR1
    rw [List.append_assoc, rcount_num t _ (by omega) (by omega)]
  have h2 : papR2 (numL t ++ numL s ++ numL sum) = ((numL sum, 0), s) := by
    unfold papR2
    rw [h1]
    exact rcount_num s _ (by omega) (by omega) _
  have h3 : papR3 (numL t ++ numL s ++ numL sum) = (([], 0), sum) := by
    unfold papR3
    rw [h2]
    have := rnum_num sum hsum []
    rwa [List.append_nil] at this
  have h4 : papR (numL t ++ numL s ++ numL sum) = (⟨t, s, sum⟩, 0) := by
    unfold papR
    rw [h1, h2, h3]
    rfl
  unfold readPF paperL
  rw [openE_sealL, openL_sealL, h4, if_neg (by simp), if_neg (by simp only []; omega)]

/-! ### One call -/

theorem ok_now : nameOk ckNow = true := by decide +kernel
theorem ok_tmp : nameOk ckTmp = true := by decide +kernel
theorem ok_a : nameOk ckA = true := by decide +kernel
theorem ok_b : nameOk ckB = true := by decide +kernel
theorem bars_up {s : DS} {k : ByteArray} {t : Bool} (hd : s.down = false) (hk : nameOk k = true) (hg : t = true → alGet k s.areas ≠ none) : barsF s k t = 0 := by
  unfold barsF
  rw [hd, hk, if_neg (by simp), if_neg (by simp), if_neg (fun c => hg c.1 c.2)]
theorem bars_none {s : DS} {k : ByteArray} (hd : s.down = false) (hk : nameOk k = true) (hg : alGet k s.areas = none) : barsF s k true = 41 := by
  unfold barsF
  rw [hd, hk, if_neg (by simp), if_neg (by simp), if_pos ⟨rfl, hg⟩]
/-- A step: the power fails, or it goes on. -/
theorem step_two (s : DS) (hd : s.down = false) : (s.fuse = 1 ∧ stepF s = (⟨s.areas, s.room, s.steps, 0, true⟩, false)) ∨ (s.fuse ≠ 1 ∧ stepF s = (⟨s.areas, s.room, s.steps + 1, max 0 (s.fuse - 1), false⟩, true)) := by
  unfold stepF
  by_cases h : s.fuse = 1
  · left
    rw [if_pos h]
    exact ⟨h, rfl⟩
  · right
    rw [if_neg h, hd]
    exact ⟨h, rfl⟩
/-- What a new area's laying may leave. -/
inductive LayR (A : Areas) (r f0 : Int) (k : ByteArray) (d : List UInt8) : DS × Nat → Prop
  | dark (st : Int) (h : f0 ≠ 0) (a : AreaP) (ha : a.data = d ∧ a.safe = 0) : LayR A r f0 k d (⟨alPut k a A, r, st, 0, true⟩, 2)
  | full (st f : Int) (h : f0 = 0 → f = 0) (hr : r < sumF A + d.length) : LayR A r f0 k d (⟨A, r, st, f, false⟩, 42)
  | done (st f : Int) (h : f0 = 0 → f = 0) (hr : sumF A + d.length ≤ r) : LayR A r f0 k d (⟨alPut k ⟨d, d.length⟩ A, r, st, f, false⟩, 0)
theorem del_put_new {k : ByteArray} {a : AreaP} : ∀ {A : Areas}, alGet k A = none → alDel k (alPut k a A) = A
  | [], _ => by unfold alPut alDel; rw [if_pos rfl]
  | p :: r, h => by
    rw [alGet_cons] at h
    split at h
    · cases h
    · rename_i hk
      unfold alPut
      rw [if_neg hk]
      unfold alDel
      rw [if_neg hk, del_put_new h]
theorem put_cons (k : ByteArray) (a : AreaP) (p : ByteArray × AreaP) (r : Areas) : alPut k a (p :: r) = if k = p.1 then (k, a) :: r else p :: alPut k a r := rfl
theorem del_cons (k : ByteArray) (p : ByteArray × AreaP) (r : Areas) : alDel k (p :: r) = if k = p.1 then r else p :: alDel k r := rfl
theorem put_put (k : ByteArray) (a b : AreaP) : ∀ (A : Areas), alPut k b (alPut k a A) = alPut k b A
  | [] => by
    show alPut k b [(k, a)] = [(k, b)]
    rw [put_cons, if_pos rfl]
  | p :: r => by
    rw [put_cons, put_cons]
    by_cases hk : k = p.1
    · rw [if_pos hk, if_pos hk, put_cons, if_pos rfl]
    · rw [if_neg hk, if_neg hk, put_cons, if_neg hk, put_put k a b r]
theorem get_put_same (k : ByteArray) (a : AreaP) (A : Areas) : alGet k (alPut k a A) = some a := by rw [alGet_put, if_pos rfl]
theorem get0_put_same (k : ByteArray) (a : AreaP) (A : Areas) : get0 k (alPut k a A) = a := by unfold get0; rw [get_put_same]; rfl
theorem get0_none {k : ByteArray} {A : Areas} (h : alGet k A = none) : get0 k A = ⟨[], 0⟩ := by unfold get0; rw [h]; rfl
theorem lay_new (A : Areas) (r st f0 : Int) (k : ByteArray) (d : List UInt8) (hk : nameOk k = true) (hn : alGet k A = none) (hl : A.length < 64) (hd : d.length ≤ 4194304) :
    LayR A r f0 k d (layF ⟨A, r, st, f0, false⟩ k d) := by
  have h1 : dropF ⟨A, r, st, f0, false⟩ k = (⟨A, r, st, f0, false⟩, 41) := by
    unfold dropF
    rw [bars_none rfl hk hn, if_pos (by simp)]
  have h2 : appendF ⟨A, r, st, f0, false⟩ k d = ((stepF ⟨alPut k ⟨d, 0⟩ A, r, st, f0, false⟩).1, doneN (stepF ⟨alPut k ⟨d, 0⟩ A, r, st, f0, false⟩).2) := by
    unfold appendF
    rw [bars_up rfl hk (fun c => by cases c), if_neg (by simp), if_neg (fun c => by have := c.2; simp only [] at this; omega), get0_none hn, if_neg (by simp; omega)]
    have hp : stepF (putF ⟨A, r, st, f0, false⟩ k ⟨([] : List UInt8) ++ d, 0⟩) = stepF ⟨alPut k ⟨d, 0⟩ A, r, st, f0, false⟩ := rfl
    rw [stepF_put]
    simp only [List.nil_append]
    have := stepF_put ⟨A, r, st, f0, false⟩ k ⟨d, 0⟩
    unfold putF at this
    simp only [] at this
    rw [this]
    rfl
  unfold layF
  rw [h1, if_neg (by simp), h2]
  rcases step_two ⟨alPut k ⟨d, 0⟩ A, r, st, f0, false⟩ rfl with ⟨e0, e1⟩ | ⟨e0, e1⟩
  · rw [e1, if_pos (by simp [doneN])]
    exact LayR.dark st (by simp only [] at e0; omega) ⟨d, 0⟩ ⟨rfl, rfl⟩
  · rw [e1, if_neg (by simp [doneN])]
    simp only [] at e0 ⊢
    obtain ⟨f1, hf1⟩ : ∃ f1, max 0 (f0 - 1) = f1 := ⟨_, rfl⟩
    have hz : f0 = 0 → f1 = 0 := by omega
    rw [hf1]
    have hs : sumF (alPut k ⟨d, 0⟩ A) = sumF A := by rw [sumF_put, get0_none hn]; simp
    have h3 : syncF ⟨alPut k ⟨d, 0⟩ A, r, st + 1, f1, false⟩ k = if r < sumF A + d.length then (⟨alPut k ⟨d, 0⟩ A, r, st + 1, f1, false⟩, 42) else if (stepF ⟨alPut k ⟨d, 0⟩ A, r, st + 1, f1, false⟩).2 = false then ((stepF ⟨alPut k ⟨d, 0⟩ A, r, st + 1, f1, false⟩).1, 2) else (putF (stepF ⟨alPut k ⟨d, 0⟩ A, r, st + 1, f1, false⟩).1 k ⟨d, d.length⟩, 0) := by
      unfold syncF
      rw [bars_up rfl hk (fun _ => by simp only []; rw [get_put_same]; simp), if_neg (by simp)]
      simp only []
      rw [get0_put_same, hs]
      simp only [Int.sub_zero]
    rw [h3]
    by_cases hr : r < sumF A + d.length
    · rw [if_pos hr]
      unfold layEnd
      rw [if_pos rfl]
      have h4 : dropF ⟨alPut k ⟨d, 0⟩ A, r, st + 1, f1, false⟩ k = if (stepF ⟨alPut k ⟨d, 0⟩ A, r, st + 1, f1, false⟩).2 = false then ((stepF ⟨alPut k ⟨d, 0⟩ A, r, st + 1, f1, false⟩).1, 2) else ({ (stepF ⟨alPut k ⟨d, 0⟩ A, r, st + 1, f1, false⟩).1 with areas := A }, 0) := by
        unfold dropF
        rw [bars_up rfl hk (fun _ => by simp only []; rw [get_put_same]; simp), if_neg (by simp)]
        simp only []
        rw [del_put_new hn]
      simp only []
      rw [h4]
      rcases step_two ⟨alPut k ⟨d, 0⟩ A, r, st + 1, f1, false⟩ rfl with ⟨e2, e3⟩ | ⟨e2, e3⟩
      · rw [e3, if_pos rfl, if_pos (by simp)]
        exact LayR.dark _ (by simp only [] at e2; omega) ⟨d, 0⟩ ⟨rfl, rfl⟩
      · rw [e3, if_neg (by simp), if_neg (by simp)]
        exact LayR.full _ _ (by simp only []; omega) hr
    · rw [if_neg hr]
      rcases step_two ⟨alPut k ⟨d, 0⟩ A, r, st + 1, f1, false⟩ rfl with ⟨e2, e3⟩ | ⟨e2, e3⟩
      · rw [e3, if_pos rfl]
        unfold layEnd
        rw [if_neg (by simp)]
        exact LayR.dark _ (by simp only [] at e2; omega) ⟨d, 0⟩ ⟨rfl, rfl⟩
      · rw [e3, if_neg (by simp)]
        unfold layEnd
        rw [if_neg (by simp)]
        unfold putF
        simp only []
        rw [put_put]
        exact LayR.done _ _ (by omega) (by omega)

/-! ### Names -/

theorem n_now_tmp : ckNow ≠ ckTmp := by decide
theorem n_now_a : ckNow ≠ ckA := by decide
theorem n_now_b : ckNow ≠ ckB := by decide
theorem n_tmp_a : ckTmp ≠ ckA := by decide
theorem n_tmp_b : ckTmp ≠ ckB := by decide
theorem n_a_b : ckA ≠ ckB := by decide
theorem area_1 : areaN 1 = ckB := rfl
theorem area_2 : areaN 2 = ckA := rfl
/-- A manifest, and the areas of a first and of a second Save. -/
def pL (t s : Nat) (b : List UInt8) : List UInt8 := paperL t s (sumN b)
def full (l : List UInt8) : AreaP := ⟨l, l.length⟩
def A1 (s : Nat) (b : List UInt8) : Areas := [(ckB, full b), (ckNow, full (pL 1 s b))]
def A2 (s : Nat) (b : List UInt8) : Areas := [(ckNow, full (pL 2 s b)), (ckA, full b)]

/-- What Save leaves behind the first one (turn 0). -/
inductive Save0 (r f0 : Int) (s : Nat) (b : List UInt8) : DS × Nat → Prop
  | dark (A : Areas) (st : Int) (h : f0 ≠ 0) : Save0 r f0 s b (⟨A, r, st, 0, true⟩, 2)
  | full1 (st f : Int) (h : f0 = 0 → f = 0) (hr : r < b.length) : Save0 r f0 s b (⟨[], r, st, f, false⟩, 42)
  | full2 (st f : Int) (h : f0 = 0 → f = 0) (hr : r < b.length + (pL 1 s b).length) : Save0 r f0 s b (⟨[(ckB, full b)], r, st, f, false⟩, 42)
  | done (st f : Int) (h : f0 = 0 → f = 0) (hr : b.length + (pL 1 s b).length ≤ r) : Save0 r f0 s b (⟨A1 s b, r, st, f, false⟩, 0)
theorem move_tmp (A : Areas) (r st f0 : Int) (ht : alGet ckTmp A ≠ none) :
    (f0 = 1 ∧ moveF ⟨A, r, st, f0, false⟩ ckTmp ckNow = (⟨A, r, st, 0, true⟩, 2)) ∨ (f0 ≠ 1 ∧ moveF ⟨A, r, st, f0, false⟩ ckTmp ckNow = (⟨alPut ckNow (get0 ckTmp A) (alDel ckTmp A), r, st + 1, max 0 (f0 - 1), false⟩, 0)) := by
  unfold moveF
  rw [bars_up rfl ok_tmp (fun _ => ht), if_neg (by simp), ok_now, if_neg (by simp)]
  rcases step_two ⟨A, r, st, f0, false⟩ rfl with ⟨e0, e1⟩ | ⟨e0, e1⟩
  · left
    rw [e1, if_pos rfl]
    exact ⟨e0, rfl⟩
  · right
    rw [e1, if_neg (by simp)]
    exact ⟨e0, rfl⟩
theorem drop_there (A : Areas) (r st f0 : Int) (k : ByteArray) (hk : nameOk k = true) (ht : alGet k A ≠ none) :
    (f0 = 1 ∧ dropF ⟨A, r, st, f0, false⟩ k = (⟨A, r, st, 0, true⟩, 2)) ∨ (f0 ≠ 1 ∧ dropF ⟨A, r, st, f0, false⟩ k = (⟨alDel k A, r, st + 1, max 0 (f0 - 1), false⟩, 0)) := by
  unfold dropF
  rw [bars_up rfl hk (fun _ => ht), if_neg (by simp)]
  rcases step_two ⟨A, r, st, f0, false⟩ rfl with ⟨e0, e1⟩ | ⟨e0, e1⟩
  · left
    rw [e1, if_pos rfl]
    exact ⟨e0, rfl⟩
  · right
    rw [e1, if_neg (by simp)]
    exact ⟨e0, rfl⟩
theorem len_pL (t s : Nat) (b : List UInt8) : (pL t s b).length ≤ 35 := by
  have h1 := sizeN_le t
  have h2 := sizeN_le s
  have h3 := sizeN_le (sumN b)
  unfold pL paperL sealL
  rw [List.length_append, length_eightL, List.length_append, List.length_append, length_numL, length_numL, length_numL]
  omega
theorem current_none (s : DS) (hd : s.down = false) (h : alGet ckNow s.areas = none) : currentF s = (pap0, 0) := by
  have h1 : readF s ckNow = ([], 41) := by
    unfold readF
    rw [bars_none hd ok_now h, if_pos (by simp)]
  unfold currentF
  rw [h1, if_neg (by simp), if_pos rfl]
theorem current_some (s : DS) (hd : s.down = false) {t sl : Nat} {b : List UInt8} {x : Int} (h : alGet ckNow s.areas = some ⟨pL t sl b, x⟩) (ht0 : 0 < t) (ht : t ≤ 1099511627776) (hs : sl ≤ 1099511627776) : currentF s = (⟨t, sl, sumN b⟩, 0) := by
  have h1 : readF s ckNow = (pL t sl b, 0) := by
    unfold readF
    rw [bars_up hd ok_now (fun _ => by rw [h]; simp), if_neg (by simp)]
    unfold get0
    rw [h]
    rfl
  unfold currentF
  rw [h1, if_pos rfl]
  exact readPF_paper ht0 ht hs (W64_sumN b)
theorem save_0 (r st f0 : Int) (s : Nat) (b : List UInt8) (hs : s ≤ 1099511627776) (hb : b.length ≤ 16384) : Save0 r f0 s b (saveF ⟨[], r, st, f0, false⟩ (s : Int) b) := by
  have hp := len_pL 1 s b
  have hpe : paperL (0 + 1) s (sumN b) = pL 1 s b := rfl
  unfold saveF
  rw [if_neg (by omega), if_neg (by omega), current_none _ rfl rfl]
  simp only [ne_eq, not_true_eq_false, if_false]
  rw [if_neg (by show ¬ 1099511627776 ≤ 0; omega), Int.toNat_natCast]
  show Save0 r f0 s b (saveA (layF ⟨[], r, st, f0, false⟩ ckB b) 0 s (sumN b))
  generalize hL : layF ⟨[], r, st, f0, false⟩ ckB b = R
  have h1 := lay_new [] r st f0 ckB b ok_b rfl (by simp) (by omega)
  rw [hL] at h1
  unfold saveA
  cases h1 with
  | dark st h a ha => rw [if_pos (by simp)]; exact Save0.dark _ _ h
  | full st f h hr => rw [if_pos (by simp)]; exact Save0.full1 _ _ h (by simp only [sumF] at hr; omega)
  | done st f h hr =>
    rw [if_neg (by simp), hpe]
    show Save0 r f0 s b (saveB (layF ⟨[(ckB, full b)], r, st, f, false⟩ ckTmp (pL 1 s b)) 0)
    generalize hL2 : layF ⟨[(ckB, full b)], r, st, f, false⟩ ckTmp (pL 1 s b) = R2
    have h2 := lay_new [(ckB, full b)] r st f ckTmp (pL 1 s b) ok_tmp (by rw [alGet_cons, if_neg n_tmp_b]; rfl) (by simp) (by omega)
    rw [hL2] at h2
    unfold saveB
    cases h2 with
    | dark st h2 a ha => rw [if_pos (by simp)]; exact Save0.dark _ _ (fun c => h2 (h c))
    | full st f h2 hr => rw [if_pos (by simp)]; exact Save0.full2 _ _ (fun c => h2 (h c)) (by simp only [sumF, full] at hr; omega)
    | done st f h2 hr2 =>
      rw [if_neg (by simp)]
      have hA : alPut ckTmp ⟨pL 1 s b, (pL 1 s b).length⟩ [(ckB, full b)] = [(ckB, full b), (ckTmp, full (pL 1 s b))] := by
        rw [put_cons, if_neg n_tmp_b]; rfl
      rw [hA]
      rcases move_tmp [(ckB, full b), (ckTmp, full (pL 1 s b))] r st f (by rw [alGet_cons, if_neg n_tmp_b, alGet_cons, if_pos rfl]; simp) with ⟨e0, e1⟩ | ⟨e0, e1⟩
      · rw [e1]
        unfold saveC
        rw [if_pos (by simp)]
        exact Save0.dark _ _ (fun c => by have := h2 (h c); omega)
      · rw [e1]
        unfold saveC
        rw [if_neg (by simp), if_neg (by omega)]
        have hg : get0 ckTmp [(ckB, full b), (ckTmp, full (pL 1 s b))] = full (pL 1 s b) := by
          unfold get0; rw [alGet_cons, if_neg n_tmp_b, alGet_cons, if_pos rfl]; rfl
        have hd : alDel ckTmp [(ckB, full b), (ckTmp, full (pL 1 s b))] = [(ckB, full b)] := by
          rw [del_cons, if_neg n_tmp_b, del_cons, if_pos rfl]
        have hpn : alPut ckNow (full (pL 1 s b)) [(ckB, full b)] = A1 s b := by
          rw [put_cons, if_neg n_now_b]; rfl
        rw [hg, hd, hpn]
        refine Save0.done _ _ (fun c => by have := h2 (h c); omega) ?_
        simp only [sumF, full] at hr2
        omega

end Go.Proofs.YtigdhdclfdojgaaGreat
