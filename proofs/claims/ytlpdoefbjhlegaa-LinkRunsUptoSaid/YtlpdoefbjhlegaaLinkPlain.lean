/-
  PLAIN LAWS of the link: what stays within bounds; what frames read back as.
-/
import Derived.Test.YtlpdoefbjhlegaaLinkSend
namespace Go.Proofs.Ytlpdoefbjhlegaa
open Go.RowKit

/-! ### Frames are read back -/

theorem rnum_back (u : Nat) (hu : W64 u) (rest : List UInt8) : rnum (numL u ++ rest) 0 = ((rest, 0), u) := by
  have h8 := sizeN_le u
  have hlt := sizeN_lt u (by unfold W64 at hu; omega)
  have hc : (UInt8.ofNat (sizeN u)).toNat = sizeN u := by simp; omega
  have htk : (beN (sizeN u) u ++ rest).take (sizeN u) = beN (sizeN u) u := by
    have := List.take_left (l₁ := beN (sizeN u) u) (l₂ := rest)
    rwa [length_beN] at this
  have hdr : (beN (sizeN u) u ++ rest).drop (sizeN u) = rest := by
    have := List.drop_left (l₁ := beN (sizeN u) u) (l₂ := rest)
    rwa [length_beN] at this
  have hob : ofBE (beN (sizeN u) u) = u := by rw [ofBE_beN, Nat.mod_eq_of_lt hlt]
  have hl : sizeN u ≤ (beN (sizeN u) u ++ rest).length := by rw [List.length_append, length_beN]; omega
  have hz : ¬ (0 < sizeN u ∧ (beN (sizeN u) u ++ rest)[0]? = some 0) := by
    rw [← sizeN_read _ (sizeN u) h8 hl, htk, hob]
  show rnum (UInt8.ofNat (sizeN u) :: (beN (sizeN u) u ++ rest)) 0 = _
  unfold rnum
  rw [if_neg (by simp)]
  simp only []
  rw [hc, if_neg (by omega), if_neg (by omega), if_neg hz, hdr, htk, hob]
theorem rcount_back (u : Nat) (hu : W64 u) (most : Int) (hm : (u : Int) ≤ most) (rest : List UInt8) : rcount (numL u ++ rest) 0 most = ((rest, 0), u) := by
  unfold rcount
  rw [rnum_back u hu, if_neg (by simp only []; omega)]

/-- Bounds of what a frame says. -/
structure FrOk (fr : Fr) : Prop where
  kind : fr.kind ≤ 2
  boot : fr.boot ≤ 1099511627776
  num : fr.num ≤ 1099511627776
  base : fr.base ≤ 1099511627776

theorem rtext_len (left : List UInt8) (bad : Nat) (most : Int) : (rtext left bad most).2.length ≤ (max 0 most).toNat := by
  have h := rcount_most left bad most
  unfold rtext
  split
  · simp
  · split
    · simp
    · simp; omega
theorem parse_ok (f : List UInt8) : FrOk (parse f) ∧ (parse f).data.length ≤ 65536 := by
  have h1 := rcount_most f 0 2
  have h2 := rcount_most (rc2 f).1.1 (rc2 f).1.2 1099511627776
  have h3 := rcount_most (rcb f).1.1 (rcb f).1.2 1099511627776
  have h4 := rcount_most (rcn f).1.1 (rcn f).1.2 1099511627776
  have h5 := rtext_len (rco f).1.1 (rco f).1.2 65536
  have g1 : (rc2 f).2 ≤ 2 := by have : (rc2 f).2 ≤ (max 0 2 : Int).toNat := h1; omega
  have g2 : (rcb f).2 ≤ 1099511627776 := by have : (rcb f).2 ≤ (max 0 1099511627776 : Int).toNat := h2; omega
  have g3 : (rcn f).2 ≤ 1099511627776 := by have : (rcn f).2 ≤ (max 0 1099511627776 : Int).toNat := h3; omega
  have g4 : (rco f).2 ≤ 1099511627776 := by have : (rco f).2 ≤ (max 0 1099511627776 : Int).toNat := h4; omega
  have g5 : (rct f).2.length ≤ 65536 := by have : (rct f).2.length ≤ (max 0 65536 : Int).toNat := h5; omega
  unfold parse
  split
  · refine ⟨⟨?_, ?_, ?_, ?_⟩, ?_⟩ <;> simp only []
    · decide
    · exact g2
    · exact g3
    · exact g4
    · exact g5
  · refine ⟨⟨?_, ?_, ?_, ?_⟩, ?_⟩ <;> simp only []
    · exact g1
    · exact g2
    · exact g3
    · exact g3
    · simp

theorem rdone_nil : rdone [] 0 = 0 := rfl
theorem parse_ack (b n : Nat) (hb : b ≤ 1099511627776) (hn : n ≤ 1099511627776) : parse (numL 2 ++ numL b ++ numL n) = ⟨2, b, n, n, [], 0⟩ := by
  have e1 : rc2 (numL 2 ++ numL b ++ numL n) = ((numL b ++ numL n, 0), 2) := by unfold rc2; rw [List.append_assoc, rcount_back _ (by unfold W64; omega) _ (by omega)]
  have e2 : rcb (numL 2 ++ numL b ++ numL n) = ((numL n, 0), b) := by unfold rcb; rw [e1, rcount_back _ (by unfold W64; omega) _ (by omega)]
  have e3 : rcn (numL 2 ++ numL b ++ numL n) = (([], 0), n) := by
    unfold rcn
    rw [e2]
    have := rcount_back n (by unfold W64; omega) 1099511627776 (by omega) []
    rwa [List.append_nil] at this
  unfold parse
  rw [e1, if_neg (by simp), e2, e3]
  rfl
theorem parse_dat (b n o : Nat) (d : List UInt8) (hb : b ≤ 1099511627776) (hn : n ≤ 1099511627776) (ho : o ≤ 1099511627776) (hd : d.length ≤ 65536) :
    parse (numL 1 ++ numL b ++ numL n ++ numL o ++ numL d.length ++ d) = ⟨1, b, n, o, d, 0⟩ := by
  have e0 : numL 1 ++ numL b ++ numL n ++ numL o ++ numL d.length ++ d = numL 1 ++ (numL b ++ (numL n ++ (numL o ++ (numL d.length ++ (d ++ []))))) := by simp
  rw [e0]
  have e1 : rc2 (numL 1 ++ (numL b ++ (numL n ++ (numL o ++ (numL d.length ++ (d ++ [])))))) = ((numL b ++ (numL n ++ (numL o ++ (numL d.length ++ (d ++ [])))), 0), 1) := by unfold rc2; rw [rcount_back _ (by unfold W64; omega) _ (by omega)]
  have e2 : rcb (numL 1 ++ (numL b ++ (numL n ++ (numL o ++ (numL d.length ++ (d ++ [])))))) = ((numL n ++ (numL o ++ (numL d.length ++ (d ++ []))), 0), b) := by unfold rcb; rw [e1, rcount_back _ (by unfold W64; omega) _ (by omega)]
  have e3 : rcn (numL 1 ++ (numL b ++ (numL n ++ (numL o ++ (numL d.length ++ (d ++ [])))))) = ((numL o ++ (numL d.length ++ (d ++ [])), 0), n) := by unfold rcn; rw [e2, rcount_back _ (by unfold W64; omega) _ (by omega)]
  have e4 : rco (numL 1 ++ (numL b ++ (numL n ++ (numL o ++ (numL d.length ++ (d ++ [])))))) = ((numL d.length ++ (d ++ []), 0), o) := by unfold rco; rw [e3, rcount_back _ (by unfold W64; omega) _ (by omega)]
  have e5 : rct (numL 1 ++ (numL b ++ (numL n ++ (numL o ++ (numL d.length ++ (d ++ [])))))) = (([], 0), d) := by
    unfold rct
    rw [e4]
    have h1 : rcount (numL d.length ++ (d ++ [])) 0 65536 = ((d ++ [], 0), d.length) := rcount_back _ (by unfold W64; omega) _ (by omega) _
    unfold rtext
    rw [h1, if_neg (by simp), if_neg (by simp)]
    simp
  unfold parse
  rw [e1, if_pos rfl, e2, e3, e4, e5]
  rfl

/-! ### What stays within bounds -/

structure LinkInv (s : LS) : Prop where
  boot : 1 ≤ s.boot ∧ s.boot ≤ 1099511627776
  retry : 1 ≤ s.retry ∧ s.retry ≤ 1048576
  next : 1 ≤ s.next ∧ s.next ≤ 1048576
  outN : ∀ h ∈ s.out, 1 ≤ h.num ∧ h.num < s.next ∧ h.data.length ≤ 65472 ∧ -9223372036854775808 ≤ h.time ∧ h.time ≤ 9223372036854775807
  inc : s.out.Pairwise (fun a b => a.num < b.num)
  near : ∀ h ∈ s.out, s.next - h.num ≤ 32
  acksN : ∀ a ∈ s.acks, (1 ≤ a.1 ∧ a.1 ≤ 1099511627776) ∧ 1 ≤ a.2 ∧ a.2 ≤ 1099511627776
  acksL : s.acks.length ≤ 32
  peer : 0 ≤ s.peer ∧ s.peer ≤ 1099511627776
  low : 0 ≤ s.low ∧ s.low ≤ 1099511627776
  seen : ∀ k, s.seen k = true → s.low < k ∧ k ≤ 1099511627776

theorem inc_len : ∀ (l : List OutH) (lo hi : Int), l.Pairwise (fun a b => a.num < b.num) → (∀ h ∈ l, lo ≤ h.num ∧ h.num < hi) → (l.length : Int) ≤ max 0 (hi - lo)
  | [], lo, hi, _, _ => by simp; omega
  | a :: r, lo, hi, hp, hb => by
    rw [List.pairwise_cons] at hp
    have h1 := hb a (by simp)
    have ih := inc_len r (a.num + 1) hi hp.2 (fun h hh => by have := hp.1 h hh; have := hb h (by simp [hh]); omega)
    simp only [List.length_cons]
    omega
theorem LinkInv.outL {s : LS} (h : LinkInv s) : s.out.length ≤ 32 := by
  have := inc_len s.out (s.next - 32) s.next h.inc (fun a ha => by have := h.near a ha; have := h.outN a ha; omega)
  omega
theorem LinkInv.ok {s : LS} (h : LinkInv s) : LinkOk s :=
  ⟨h.boot, h.retry, h.next, h.outN, by have := h.outL; omega, h.acksN, by have := h.acksL; omega, h.peer, h.low, h.seen⟩

theorem newLS_inv (boot retry : Int) : LinkInv (newLS boot retry) := by
  unfold newLS
  exact ⟨by simp only []; omega, by simp only []; omega, by simp, by simp, by simp, by simp, by simp, by simp, by simp, by simp, by simp⟩

theorem near_full {s : LS} (h : LinkInv s) (hf : full s = false) : ∀ a ∈ s.out, s.next - a.num < 32 := by
  intro a ha
  have hinc := h.inc
  unfold full at hf
  cases hs : s.out with
  | nil => rw [hs] at ha; simp at ha
  | cons b r =>
    rw [hs] at hf ha hinc
    simp at hf
    rcases List.mem_cons.1 ha with rfl | hr
    · omega
    · have := (List.pairwise_cons.1 hinc).1 a hr; omega
theorem sendF_inv {s : LS} (h : LinkInv s) (d : List UInt8) (hn : s.next < 1048576) : LinkInv (sendF s d).1 := by
  unfold sendF
  split
  · exact h
  · split
    · exact h
    · rename_i hd hf
      have hf' := near_full h (by simpa using hf)
      have hnx := h.next
      refine ⟨h.boot, h.retry, by simp only [sentLS]; omega, ?_, ?_, ?_, h.acksN, h.acksL, h.peer, h.low, h.seen⟩
      · intro a ha
        simp only [sentLS, List.mem_append, List.mem_singleton] at ha ⊢
        rcases ha with ha | rfl
        · have := h.outN a ha; omega
        · simp only []; omega
      · simp only [sentLS, List.pairwise_append]
        exact ⟨h.inc, by simp, fun a ha b hb => by simp only [List.mem_singleton] at hb; subst hb; exact (h.outN a ha).2.1⟩
      · intro a ha
        simp only [sentLS, List.mem_append, List.mem_singleton] at ha ⊢
        rcases ha with ha | rfl
        · have := hf' a ha; omega
        · simp only []; omega

theorem dropNum_sub (mn : Int) : ∀ out : List OutH, (dropNum mn out).Sublist out
  | [] => by simp [dropNum]
  | a :: r => by
    unfold dropNum
    split
    · exact List.sublist_cons_self _ _
    · exact (dropNum_sub mn r).cons_cons a
theorem ackedF_inv {s : LS} (h : LinkInv s) (mb mn : Int) : LinkInv (ackedF s mb mn) := by
  unfold ackedF
  split
  · have hs := dropNum_sub mn s.out
    exact ⟨h.boot, h.retry, h.next, fun a ha => h.outN a (hs.subset ha), h.inc.sublist hs, fun a ha => h.near a (hs.subset ha), h.acksN, h.acksL, h.peer, h.low, h.seen⟩
  · exact h

theorem sweepF_bounds (S : Int → Bool) (M : Int) (hS : ∀ k, S k = true → k ≤ M) : ∀ (n : Nat) (x : Int), x ≤ sweepF S n x ∧ sweepF S n x ≤ max x M
  | 0, x => by simp only [sweepF]; omega
  | n + 1, x => by
    unfold sweepF
    split
    · rename_i hc
      have h1 := hS _ hc
      have := sweepF_bounds S M hS n (x + 1)
      omega
    · omega
theorem swept_inv {s : LS} (h : LinkInv s) (x : Int) (hx : 0 ≤ x ∧ x ≤ 1099511627776) : LinkInv (swept s x) := by
  have hb := sweepF_bounds s.seen 1099511627776 (fun k hk => (h.seen k hk).2) 2199023255552 x
  change x ≤ sweepTo s.seen x ∧ sweepTo s.seen x ≤ _ at hb
  refine ⟨h.boot, h.retry, h.next, h.outN, h.inc, h.near, h.acksN, h.acksL, h.peer, ?_, ?_⟩
  · simp only [swept]; omega
  · intro k hk
    simp only [swept, Bool.and_eq_true, decide_eq_true_eq] at hk ⊢
    exact ⟨hk.2, (h.seen k hk.1).2⟩
theorem newLife_inv {s : LS} (h : LinkInv s) (mb : Int) (hm : 1 ≤ mb ∧ mb ≤ 1099511627776) : LinkInv (newLife s mb) := by
  unfold newLife
  split
  · exact ⟨h.boot, h.retry, h.next, h.outN, h.inc, h.near, by simp, by simp, by simp only []; omega, by simp, by simp⟩
  · exact h
theorem acking_inv {s : LS} (h : LinkInv s) (mb mn : Int) (hm : 1 ≤ mb ∧ mb ≤ 1099511627776) (hn : 1 ≤ mn ∧ mn ≤ 1099511627776) : LinkInv (acking s mb mn) := by
  unfold acking
  split
  · refine ⟨h.boot, h.retry, h.next, h.outN, h.inc, h.near, ?_, by simp; omega, h.peer, h.low, h.seen⟩
    intro a ha
    simp only [List.mem_append, List.mem_singleton] at ha
    rcases ha with ha | rfl
    · exact h.acksN a ha
    · exact ⟨hm, hn⟩
  · exact h
theorem freshF_inv {s : LS} (h : LinkInv s) (mb mn base : Int) (hm : 1 ≤ mb ∧ mb ≤ 1099511627776) (hn : 1 ≤ mn ∧ mn ≤ 1099511627776) (hb : 1 ≤ base ∧ base ≤ mn) : LinkInv (freshF s mb mn base).1 := by
  unfold freshF
  split
  · exact h
  · have h1 := newLife_inv h mb hm
    have h1l := h1.low
    have h2 := swept_inv h1 (max (newLife s mb).low (base - 1)) (by omega)
    generalize swept (newLife s mb) (max (newLife s mb).low (base - 1)) = t at *
    unfold fresh2
    split
    · exact h2
    · split
      · exact acking_inv h2 mb mn hm hn
      · rename_i c1 c2
        have h3 := acking_inv h2 mb mn hm hn
        have el : (acking t mb mn).low = t.low := by unfold acking; split <;> rfl
        have h3l := h3.low
        unfold taking
        refine swept_inv (s := { acking t mb mn with seen := fun k => (acking t mb mn).seen k || decide (k = mn) }) ?_ _ h3l
        refine ⟨h3.boot, h3.retry, h3.next, h3.outN, h3.inc, h3.near, h3.acksN, h3.acksL, h3.peer, h3.low, ?_⟩
        intro k hk
        simp only [Bool.or_eq_true, decide_eq_true_eq] at hk
        rcases hk with hk | rfl
        · exact h3.seen k hk
        · simp only [el]; omega
theorem inF_inv {s : LS} (h : LinkInv s) (f : List UInt8) : LinkInv (inF s (parse f)).1 := by
  obtain ⟨hk, -⟩ := parse_ok f
  generalize parse f = fr at *
  obtain ⟨k1, k2, k3, k4⟩ := hk
  unfold inF
  split
  · exact h
  · split
    · exact h
    · rename_i c
      split
      · exact ackedF_inv h _ _
      · have := freshF_inv h fr.boot fr.num fr.base (by omega) (by omega) (by omega)
        split <;> exact this

end Go.Proofs.Ytlpdoefbjhlegaa
