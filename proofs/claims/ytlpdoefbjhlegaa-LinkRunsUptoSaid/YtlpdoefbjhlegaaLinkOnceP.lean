/-
  PLAIN LAWS of LinkOnce: what has come, what waits, what is left of a list.
-/
import Derived.Test.YtlpdoefbjhlegaaLinkNet
namespace Go.Proofs.Ytlpdoefbjhlegaa
open Go.RowKit
attribute [local irreducible] parse numL


/-! ### LinkOnce: the net -/

/-- What message bears number k. -/
def msgOf (Q : List (List UInt8)) (k : Int) : List UInt8 := Q.getD (k - 1).toNat []
/-- A frame of the first end, of which all that lies below has come. -/
def Good (Q : List (List UInt8)) (S : List Int) (f : List UInt8) : Prop :=
  ∃ (base : Int) (h : OutH), f = datFr 5 base h ∧ 1 ≤ base ∧ base ≤ h.num ∧ h.num ≤ base + 31 ∧ h.num ≤ Q.length ∧ h.num ≤ 1048576 ∧ msgOf Q h.num = h.data ∧ h.data.length ≤ 65472 ∧ ∀ k, 1 ≤ k → k < base → k ∈ S
theorem Good.mono {Q : List (List UInt8)} {S T : List Int} {f : List UInt8} (h : Good Q S f) (hs : ∀ k ∈ S, k ∈ T) : Good Q T f := by
  obtain ⟨base, o, h1, h2, h3, h4, h5, h6, h7, h8, h9⟩ := h
  exact ⟨base, o, h1, h2, h3, h4, h5, h6, h7, h8, fun k a b => hs k (h9 k a b)⟩
theorem msgOf_snoc {Q : List (List UInt8)} (d : List UInt8) {k : Int} (h : 1 ≤ k ∧ k ≤ Q.length) : msgOf (Q ++ [d]) k = msgOf Q k := by
  unfold msgOf
  rw [List.getD_eq_getElem?_getD, List.getD_eq_getElem?_getD, List.getElem?_append_left (by omega)]
theorem msgOf_new (Q : List (List UInt8)) (d : List UInt8) {k : Int} (h : k = Q.length + 1) : msgOf (Q ++ [d]) k = d := by
  unfold msgOf
  subst h
  rw [List.getD_eq_getElem?_getD, show ((Q.length : Int) + 1 - 1).toNat = Q.length by omega]
  simp
theorem Good.snoc {Q : List (List UInt8)} {S : List Int} {f : List UInt8} (h : Good Q S f) (d : List UInt8) : Good (Q ++ [d]) S f := by
  obtain ⟨base, o, h1, h2, h3, h4, h5, h6, h7, h8, h9⟩ := h
  exact ⟨base, o, h1, h2, h3, h4, by simp; omega, h6, by rw [msgOf_snoc d (by omega)]; exact h7, h8, h9⟩

/-- What the second end has. -/
structure Has (Q : List (List UInt8)) (S : List Int) (b : LS) : Prop where
  inv : LinkInv b
  out : b.out = []
  peer : b.peer ≤ 5
  recv : ∀ k, rcv (newLife b 5) k = true ↔ k ≤ 0 ∨ k ∈ S
  nodup : S.Nodup
  rng : ∀ k ∈ S, 1 ≤ k ∧ k ≤ Q.length
theorem Has.snoc {Q : List (List UInt8)} {S : List Int} {b : LS} (h : Has Q S b) (d : List UInt8) : Has (Q ++ [d]) S b :=
  ⟨h.inv, h.out, h.peer, h.recv, h.nodup, fun k hk => by have := h.rng k hk; simp; omega⟩

theorem has_in {Q : List (List UInt8)} {S : List Int} {b : LS} (h : Has Q S b) {base : Int} {o : OutH} (h2 : 1 ≤ base) (h3 : base ≤ o.num) (h4 : o.num ≤ base + 31) (h5 : o.num ≤ Q.length) (h6 : o.num ≤ 1048576) (h8 : o.data.length ≤ 65472) (h9 : ∀ k, 1 ≤ k → k < base → k ∈ S) :
    (inF b (parse (datFr 5 base o))).2.2.1 = decide (o.num ∉ S) ∧ (o.num ∉ S → (inF b (parse (datFr 5 base o))).2.1 = o.data) ∧
    Has Q (if o.num ∈ S then S else S ++ [o.num]) (inF b (parse (datFr 5 base o))).1 ∧ (∀ x ∈ (inF b (parse (datFr 5 base o))).1.acks, x ∈ b.acks ∨ x = (5, o.num)) := by
  obtain ⟨g1, g2, g3⟩ := in_dat h.inv (boot := 5) (base := base) (o := o) (by omega) (by omega) (by omega) h.peer
  have hr : rcv (newLife b 5) o.num = decide (o.num ∈ S) := by
    by_cases c : o.num ∈ S
    · rw [(h.recv o.num).2 (Or.inr c), decide_eq_true c]
    · rw [decide_eq_false c]
      refine Bool.eq_false_iff.2 (fun d => ?_)
      rcases (h.recv o.num).1 d with e | e
      · omega
      · exact c e
  refine ⟨?_, ?_, ⟨inF_inv h.inv _, g3.out.trans h.out, by rw [g3.peer]; omega, fun k => ?_, ?_, fun k hk => ?_⟩, fun x hx => ?_⟩
  · rw [g1, hr]; simp
  · intro c
    exact g2 (by rw [hr]; exact decide_eq_false c)
  · rw [newLife_self g3.peer, g3.rcv k]
    simp only [Bool.or_eq_true, decide_eq_true_eq, h.recv k]
    constructor
    · rintro ((h | h) | h)
      · rcases h with h | h
        · exact Or.inl h
        · right; split
          · exact h
          · exact List.mem_append_left _ h
      · by_cases c : k ≤ 0
        · exact Or.inl c
        · right
          have := h9 k (by omega) h
          split
          · exact this
          · exact List.mem_append_left _ this
      · right; subst h; split
        · assumption
        · simp
    · rintro (h | h)
      · exact Or.inl (Or.inl (Or.inl h))
      · split at h
        · exact Or.inl (Or.inl (Or.inr h))
        · rcases List.mem_append.1 h with h | h
          · exact Or.inl (Or.inl (Or.inr h))
          · right; simpa using h
  · split
    · exact h.nodup
    · rename_i c
      rw [List.nodup_append]
      refine ⟨h.nodup, by simp, fun x hx y hy => ?_⟩
      simp at hy
      subst hy
      exact fun e => c (e ▸ hx)
  · split at hk
    · exact h.rng k hk
    · rcases List.mem_append.1 hk with hk | hk
      · exact h.rng k hk
      · simp at hk; omega
  · rw [g3.acks] at hx
    have := List.mem_of_mem_take hx
    rcases List.mem_append.1 this with hx | hx
    · left
      unfold newLife at hx
      split at hx
      · simp at hx
      · exact hx
    · right; simpa using hx

theorem has_move {Q : List (List UInt8)} : ∀ (fs : List (List UInt8)) {S : List Int} {b : LS}, Has Q S b → (∀ f ∈ fs, Good Q S f) →
    ∃ S', Has Q S' (moveF b fs).1 ∧ (∀ k ∈ S, k ∈ S') ∧ S.map (msgOf Q) ++ (moveF b fs).2 = S'.map (msgOf Q) ∧ (∀ base h, 1 ≤ h.num → datFr 5 base h ∈ fs → ∃ h' : OutH, ∃ base', datFr 5 base h = datFr 5 base' h' ∧ h'.num ∈ S') ∧
      ∀ x ∈ (moveF b fs).1.acks, x ∈ b.acks ∨ (x.1 = 5 ∧ x.2 ∈ S')
  | [], S, b, h, _ => ⟨S, h, fun _ c => c, by simp [moveF], fun _ _ _ c => by simp at c, fun x hx => Or.inl hx⟩
  | f :: r, S, b, h, hg => by
    obtain ⟨base, o, rfl, h2, h3, h4, h5, h6, h7, h8, h9⟩ := hg f (by simp)
    obtain ⟨g1, g2, g3, g4⟩ := has_in h h2 h3 h4 h5 h6 h8 h9
    have hss : ∀ k ∈ S, k ∈ (if o.num ∈ S then S else S ++ [o.num]) := fun k hk => by
      split
      · exact hk
      · exact List.mem_append_left _ hk
    have hoS : o.num ∈ (if o.num ∈ S then S else S ++ [o.num]) := by
      split
      · assumption
      · simp
    obtain ⟨S', q1, q2, q3, q4, q5⟩ := has_move r g3 (fun f hf => (hg f (by simp [hf])).mono hss)
    refine ⟨S', q1, fun k hk => q2 k (hss k hk), ?_, fun base' h' hn hm => ?_, fun x hx => ?_⟩
    · simp only [moveF]
      rw [← q3, g1]
      by_cases c : o.num ∈ S
      · simp [c]
      · simp [c, g2 c, h7]
    · rcases List.mem_cons.1 hm with e | hm
      · exact ⟨o, base, e, q2 _ hoS⟩
      · exact q4 base' h' hn hm
    · rcases q5 x hx with e | e
      · rcases g4 x e with e | rfl
        · exact Or.inl e
        · exact Or.inr ⟨rfl, q2 _ hoS⟩
      · exact Or.inr e

/-- The net between two turns. -/
structure NetOk (i : Nat) (Q : List (List UInt8)) (a : LS) (S : List Int) : Prop where
  inv : LinkInv a
  boot : a.boot = 5
  retry : a.retry = 3
  acks : a.acks = []
  next : a.next = Q.length + 1
  time : ∀ h ∈ a.out, h.time ≤ i
  data : ∀ h ∈ a.out, msgOf Q h.num = h.data
  gone : ∀ k, 1 ≤ k → k < a.next → (∀ h ∈ a.out, h.num ≠ k) → k ∈ S

theorem NetOk.mono {i : Nat} {Q : List (List UInt8)} {a : LS} {S T : List Int} (h : NetOk i Q a S) (hs : ∀ k ∈ S, k ∈ T) : NetOk i Q a T :=
  ⟨h.inv, h.boot, h.retry, h.acks, h.next, h.time, h.data, fun k a b c => hs k (h.gone k a b c)⟩
theorem netOk_new : NetOk 0 [] (newLS 5 3) [] :=
  ⟨newLS_inv _ _, by decide, by decide, rfl, rfl, fun h c => by simp [newLS] at c, fun h c => by simp [newLS] at c, fun k h1 h2 => by simp [newLS] at h2; omega⟩
theorem has_new : Has [] [] (newLS 2 3) :=
  ⟨newLS_inv _ _, rfl, by decide, fun k => by rw [newLS_rcv _ _ (by omega)]; simp, by simp, by simp⟩
theorem NetOk.send {i : Nat} {Q : List (List UInt8)} {a : LS} {S : List Int} (h : NetOk i Q a S) (d : List UInt8) (hq : Q.length < 1000) :
    ((sendF a d).2 = 0 ∧ NetOk i (Q ++ [d]) (sendF a d).1 S) ∨ (((sendF a d).2 = 12 ∨ (sendF a d).2 = 64) ∧ (sendF a d).1 = a) := by
  have hi := sendF_inv h.inv d (by have := h.next; omega)
  unfold sendF at hi ⊢
  by_cases c1 : 65472 < d.length
  · right; rw [if_pos c1]; exact ⟨Or.inl rfl, rfl⟩
  · by_cases c2 : full a = true
    · right; rw [if_neg c1, if_pos c2]; exact ⟨Or.inr rfl, rfl⟩
    · left
      rw [if_neg c1, if_neg c2] at hi
      rw [if_neg c1, if_neg c2]
      refine ⟨rfl, hi, h.boot, h.retry, h.acks, ?_, ?_, ?_, ?_⟩
      · have := h.next; simp [sentLS]; omega
      · intro o ho
        simp only [sentLS, List.mem_append, List.mem_singleton] at ho
        rcases ho with ho | rfl
        · exact h.time o ho
        · simp only []; omega
      · intro o ho
        simp only [sentLS, List.mem_append, List.mem_singleton] at ho
        rcases ho with ho | rfl
        · have := h.inv.outN o ho
          have := h.next
          rw [msgOf_snoc d (by omega)]
          exact h.data o ho
        · exact msgOf_new Q d h.next
      · intro k h1 h2 h3
        simp only [sentLS] at h2 h3
        refine h.gone k h1 ?_ (fun o ho => h3 o (by simp [ho]))
        have := h3 ⟨a.next, d, false, 0⟩ (by simp)
        simp only [] at this
        omega
theorem NetOk.emit {i : Nat} {Q : List (List UInt8)} {a : LS} {S : List Int} (h : NetOk i Q a S) (hq : Q.length ≤ 1000) (now : Nat) (hi : i ≤ now) (hm : now ≤ 1000) : NetOk now Q (emitF a now).1 S ∧ ∀ f ∈ (emitF a now).2, Good Q S f := by
  have hinv := emitF_inv h.inv (now := now) (by omega)
  have hmem : ∀ o ∈ (emitF a now).1.out, ∃ b ∈ a.out, o.num = b.num ∧ o.data = b.data ∧ (o.time = b.time ∨ o.time = now) := by
    intro o ho
    obtain ⟨b, hb, rfl⟩ := List.mem_map.1 ho
    exact ⟨b, hb, updH_bounds _ _ b⟩
  have hmem2 : ∀ b ∈ a.out, ∃ o ∈ (emitF a now).1.out, o.num = b.num := fun b hb => ⟨updH a.retry now b, List.mem_map.2 ⟨b, hb, rfl⟩, (updH_bounds _ _ b).1⟩
  refine ⟨⟨hinv, h.boot, h.retry, rfl, h.next, ?_, ?_, ?_⟩, ?_⟩
  · intro o ho
    obtain ⟨b, hb, e1, e2, e3⟩ := hmem o ho
    have := h.time b hb
    rcases e3 with e3 | e3 <;> omega
  · intro o ho
    obtain ⟨b, hb, e1, e2, e3⟩ := hmem o ho
    rw [e1, e2]; exact h.data b hb
  · intro k h1 h2 h3
    refine h.gone k h1 h2 (fun b hb => ?_)
    obtain ⟨o, ho, e⟩ := hmem2 b hb
    rw [← e]; exact h3 o ho
  · intro f hf
    simp only [emitF, h.acks, List.map_nil, List.nil_append] at hf
    obtain ⟨o, ho, rfl⟩ := List.mem_map.1 hf
    have ho := (List.mem_filter.1 ho).1
    have h1 := h.inv.outN o ho
    obtain ⟨c, hc, e⟩ := baseOf_mem (List.ne_nil_of_mem ho)
    have h2 := h.inv.outN c hc
    have h3 := h.inv.near c hc
    have h4 := baseOf_le h.inv.inc o ho
    have h5 := h.next
    refine ⟨baseOf a.out, o, by rw [h.boot], by omega, h4, by omega, by omega, by omega, h.data o ho, by omega, fun k a1 a2 => h.gone k a1 (by omega) (fun x hx => ?_)⟩
    have := baseOf_le h.inv.inc x hx
    omega
theorem NetOk.acked {i : Nat} {Q : List (List UInt8)} {a : LS} {S : List Int} (h : NetOk i Q a S) (l : List (Int × Int)) (hb : ∀ x ∈ l, (1 ≤ x.1 ∧ x.1 ≤ 1099511627776) ∧ 1 ≤ x.2 ∧ x.2 ≤ 1099511627776) (hl : ∀ x ∈ l, x.1 = 5 ∧ x.2 ∈ S) :
    (moveF a (l.map ackFr)).2 = [] ∧ NetOk i Q (moveF a (l.map ackFr)).1 S := by
  have hm := move_acks l a hb h.inv.inc
  have hi := moveF_inv (l.map ackFr) h.inv
  rw [hm] at hi ⊢
  refine ⟨rfl, hi, h.boot, h.retry, h.acks, h.next, fun o ho => h.time o (List.mem_filter.1 ho).1, fun o ho => h.data o (List.mem_filter.1 ho).1, fun k h1 h2 h3 => ?_⟩
  by_cases c : ∃ o ∈ a.out, o.num = k
  · obtain ⟨o, ho, rfl⟩ := c
    by_cases d : (a.boot, o.num) ∈ l
    · exact (hl _ d).2
    · exact absurd rfl (h3 o (List.mem_filter.2 ⟨ho, by simpa [List.contains_iff_mem] using d⟩))
  · exact h.gone k h1 h2 (fun o ho e => c ⟨o, ho, e⟩)

/-! ### LinkOnce: all at last -/

theorem rcv_noacks (b : LS) (l : List (Int × Int)) (m k : Int) : rcv (newLife { b with acks := l } m) k = rcv (newLife b m) k := by
  unfold newLife
  simp only []
  split <;> rfl

/-- All has come. -/
structure Done (Q : List (List UInt8)) (a b : LS) (S : List Int) : Prop where
  inv : LinkInv a
  out : a.out = []
  acks : a.acks = []
  has : Has Q S b
  all : ∀ k : Int, 1 ≤ k → k ≤ Q.length → k ∈ S

theorem Done.perm {Q : List (List UInt8)} {a b : LS} {S : List Int} (h : Done Q a b S) : (S.map (msgOf Q)).Perm Q := by
  have h1 : S.Perm ((List.range Q.length).map (fun j => ((j : Nat) : Int) + 1)) := by
    refine (List.perm_ext_iff_of_nodup h.has.nodup ?_).2 (fun k => ?_)
    · refine List.nodup_iff_pairwise_ne.2 (List.pairwise_map.2 ?_)
      exact (List.nodup_range (n := Q.length)).imp (fun {x y} c d => c (by omega))
    · constructor
      · intro hk
        have := h.has.rng k hk
        exact List.mem_map.2 ⟨(k - 1).toNat, by simp; omega, by omega⟩
      · intro hk
        obtain ⟨j, hj, rfl⟩ := List.mem_map.1 hk
        have := List.mem_range.1 hj
        exact h.all _ (by omega) (by omega)
  refine (h1.map (msgOf Q)).trans (List.Perm.of_eq ?_)
  rw [List.map_map]
  refine List.ext_getElem (by simp) (fun j a b => ?_)
  simp only [List.getElem_map, List.getElem_range, Function.comp]
  unfold msgOf
  rw [show ((j : Int) + 1 - 1).toNat = j by omega, List.getD_eq_getElem?_getD, List.getElem?_eq_getElem b]
  rfl

/-- The first turn of the end. -/
theorem net_drain {i : Nat} {Q : List (List UInt8)} {a b : LS} {S : List Int} (h : NetOk i Q a S) (hb : Has Q S b) (hbk : b.acks = []) (hi : i ≤ 60) (hq : Q.length ≤ 1000) :
    ∃ S', S.map (msgOf Q) ++ (moveF b (emitF a 100).2).2 = S'.map (msgOf Q) ∧ (∀ k ∈ S, k ∈ S') ∧
      Done Q (moveF (emitF a 100).1 (emitF (moveF b (emitF a 100).2).1 100).2).1 (emitF (moveF b (emitF a 100).2).1 100).1 S' := by
  have hsk : ∀ o ∈ a.out, skipH a.retry 100 o = false := fun o ho => skip_late (by rw [h.retry]; have := h.time o ho; omega)
  obtain ⟨-, ht⟩ := round_trip h.inv hb.inv h.acks hbk hb.out (by rw [h.boot]; exact hb.peer) (now' := 100) hsk (by omega)
  obtain ⟨hne, hgd⟩ := h.emit hq 100 (by omega) (by omega)
  obtain ⟨S', q1, q2, q3, q4, q5⟩ := has_move (emitF a 100).2 hb hgd
  have hq1 : Has Q S' (emitF (moveF b (emitF a 100).2).1 100).1 := by
    refine ⟨ht.binv, ht.bout, q1.peer, fun k => ?_, q1.nodup, q1.rng⟩
    have hpe : newLife (emitF (moveF b (emitF a 100).2).1 100).1 5 = { newLife (moveF b (emitF a 100).2).1 5 with acks := [], out := (newLife (emitF (moveF b (emitF a 100).2).1 100).1 5).out } := by
      unfold newLife
      split
      · rename_i c
        rw [if_pos (show (moveF b (emitF a 100).2).1.peer < 5 from c)]
        rfl
      · rename_i c
        rw [if_neg (show ¬ (moveF b (emitF a 100).2).1.peer < 5 from c)]
        rfl
    rw [hpe]
    exact q1.recv k
  refine ⟨S', q3, q2, ⟨ht.inv, ht.out, ht.acks, hq1, fun k h1 h2 => ?_⟩⟩
  by_cases c : ∃ o ∈ a.out, o.num = k
  · obtain ⟨o, ho, rfl⟩ := c
    have hm := move_dat a.out hb.inv (by rw [h.boot]; exact hb.peer) h.inv.sending
    have e1 : (emitF a 100).2 = a.out.map (datFr a.boot (baseOf a.out)) := by
      rw [emit_all hsk, h.acks]; rfl
    have := hm.2.rcv o.num
    have hany : a.out.any (fun x => x.num == o.num) = true := List.any_eq_true.2 ⟨o, ho, by simp⟩
    rw [hany, Bool.or_true, ← e1, h.boot, q1.recv] at this
    rcases this with this | this
    · omega
    · exact this
  · exact q2 k (h.gone k h1 (by have := h.next; omega) (fun o ho e => c ⟨o, ho, e⟩))

/-- Later turns. -/
theorem Done.turn {Q : List (List UInt8)} {a b : LS} {S : List Int} (h : Done Q a b S) (now now' : Int) :
    emitF a now = (a, []) ∧ (moveF a (emitF b now').2).2 = [] ∧ (moveF a (emitF b now').2).1 = a ∧ Done Q a (emitF b now').1 S := by
  have hak := h.acks
  have e1 : emitF a now = (a, []) := by
    rw [emit_idle h.out, hak]
    show ({ a with acks := [] }, []) = _
    rw [← hak]
  have e2 := emit_idle h.has.out now'
  have hm := move_acks b.acks a h.has.inv.acksN (by rw [h.out]; simp)
  rw [h.out] at hm
  have hm' : moveF a (b.acks.map ackFr) = (a, []) := by
    rw [hm]
    show ({ a with out := [] }, []) = _
    rw [← h.out]
  rw [e2]
  refine ⟨e1, by rw [hm'], by rw [hm'], h.inv, h.out, h.acks, ⟨?_, h.has.out, h.has.peer, fun k => ?_, h.has.nodup, h.has.rng⟩, h.all⟩
  · have hi := h.has.inv
    exact ⟨hi.boot, hi.retry, hi.next, hi.outN, hi.inc, hi.near, by simp, by simp, hi.peer, hi.low, hi.seen⟩
  · rw [← h.has.recv k]
    rw [← rcv_noacks b [] 5 k]
theorem Done.late {Q : List (List UInt8)} {a b : LS} {S : List Int} (h : Done Q a b S) (fs : List (List UInt8)) (hf : ∀ f ∈ fs, Good Q S f) :
    ∃ S', S.map (msgOf Q) ++ (moveF b fs).2 = S'.map (msgOf Q) ∧ Done Q a (moveF b fs).1 S' := by
  obtain ⟨S', q1, q2, q3, q4, q5⟩ := has_move fs h.has hf
  exact ⟨S', q3, h.inv, h.out, h.acks, q1, fun k a b => q2 k (h.all k a b)⟩

theorem Good.short {Q : List (List UInt8)} {S : List Int} {f : List UInt8} (h : Good Q S f) : f.length ≤ 140737488355328 := by
  obtain ⟨base, o, rfl, h2, h3, h4, h5, h6, h7, h8, h9⟩ := h
  have hz : ∀ u, (numL u).length ≤ 9 := fun u => by rw [length_numL]; have := sizeN_le u; omega
  have h1 := hz 1
  have h2 := hz (5 : Int).toNat
  have h3 := hz o.num.toNat
  have h4 := hz base.toNat
  have h5 := hz o.data.length
  simp only [datFr, List.length_append]
  omega
theorem NetOk.later {i j : Nat} {Q : List (List UInt8)} {a : LS} {S : List Int} (h : NetOk i Q a S) (hij : i ≤ j) : NetOk j Q a S :=
  ⟨h.inv, h.boot, h.retry, h.acks, h.next, fun o ho => by have := h.time o ho; omega, h.data, h.gone⟩
theorem map_msgOf_snoc {Q : List (List UInt8)} {S : List Int} (d : List UInt8) (h : ∀ k ∈ S, 1 ≤ k ∧ k ≤ Q.length) : S.map (msgOf (Q ++ [d])) = S.map (msgOf Q) :=
  List.map_congr_left (fun k hk => msgOf_snoc d (h k hk))
theorem Has.noacks {Q : List (List UInt8)} {S : List Int} {b : LS} (h : Has Q S b) (now : Int) : emitF b now = ({ b with acks := [] }, b.acks.map ackFr) ∧ Has Q S (emitF b now).1 := by
  have e := emit_idle h.out now
  refine ⟨e, ?_⟩
  rw [e]
  refine ⟨?_, h.out, h.peer, fun k => ?_, h.nodup, h.rng⟩
  · have hi := h.inv
    exact ⟨hi.boot, hi.retry, hi.next, hi.outN, hi.inc, hi.near, by simp, by simp, hi.peer, hi.low, hi.seen⟩
  · rw [← h.recv k]
    rw [← rcv_noacks b [] 5 k]

/-- One turn of the net: what passes comes in, what it acknowledges goes back. -/
theorem net_turn {i : Nat} {Q : List (List UInt8)} {a b : LS} {S : List Int} (h : NetOk i Q a S) (hb : Has Q S b) (hbk : b.acks = []) (fs : List (List UInt8)) (hf : ∀ f ∈ fs, Good Q S f) (now : Int) :
    ∃ S', S.map (msgOf Q) ++ (moveF b fs).2 = S'.map (msgOf Q) ∧ (∀ k ∈ S, k ∈ S') ∧ Has Q S' (emitF (moveF b fs).1 now).1 ∧ (emitF (moveF b fs).1 now).1.acks = [] ∧ NetOk i Q a S' ∧
      NetOk i Q (moveF a (emitF (moveF b fs).1 now).2).1 S' := by
  obtain ⟨S', q1, q2, q3, q4, q5⟩ := has_move fs hb hf
  obtain ⟨e1, e2⟩ := q1.noacks now
  have hn := h.mono q2
  refine ⟨S', q3, q2, e2, by rw [e1], hn, ?_⟩
  rw [e1]
  refine (hn.acked _ q1.inv.acksN (fun x hx => ?_)).2
  rcases q5 x hx with c | c
  · rw [hbk] at c; simp at c
  · exact c

/-- The turns of the end. -/
def Stage (t : Nat) (Q : List (List UInt8)) (a b : LS) (S : List Int) : Prop := (t = 0 ∧ NetOk 60 Q a S ∧ Has Q S b ∧ b.acks = []) ∨ (1 ≤ t ∧ Done Q a b S)
theorem Stage.turn {t : Nat} {Q : List (List UInt8)} {a b : LS} {S : List Int} (h : Stage t Q a b S) (hq : Q.length ≤ 1000) (now : Int) (hn : now = 100 + 3 * t) :
    ∃ S', S.map (msgOf Q) ++ (moveF b (emitF a now).2).2 = S'.map (msgOf Q) ∧ (∀ k ∈ S, k ∈ S') ∧
      Done Q (moveF (emitF a now).1 (emitF (moveF b (emitF a now).2).1 now).2).1 (emitF (moveF b (emitF a now).2).1 now).1 S' := by
  rcases h with ⟨rfl, h1, h2, h3⟩ | ⟨ht, h⟩
  · obtain rfl : now = 100 := by omega
    exact net_drain h1 h2 h3 (by omega) hq
  · obtain ⟨e1, e2, e3, e4⟩ := h.turn now now
    rw [e1]
    have e5 : moveF b [] = (b, []) := rfl
    rw [e5]
    simp only []
    rw [e3]
    exact ⟨S, by simp, fun _ c => c, e4⟩

/-! ### once -/

/-- What isn't yet used. -/
def restOf : List (List UInt8) → List Bool → List (List UInt8)
  | x :: r, u :: v => if u then restOf r v else x :: restOf r v
  | _, _ => []
theorem restOf_none : ∀ l : List (List UInt8), restOf l (List.replicate l.length false) = l
  | [] => rfl
  | x :: r => by simp [restOf, List.replicate_succ, restOf_none r]
theorem restOf_mem : ∀ (l : List (List UInt8)) (u : List Bool) (g : List UInt8), g ∈ restOf l u → ∃ j, ∃ h1 : j < l.length, ∃ h2 : j < u.length, u[j] = false ∧ l[j] = g
  | [], u, g, h => by simp [restOf] at h
  | x :: r, [], g, h => by simp [restOf] at h
  | x :: r, b :: v, g, h => by
    unfold restOf at h
    cases b with
    | true =>
      obtain ⟨j, h1, h2, h3, h4⟩ := restOf_mem r v g (by simpa using h)
      exact ⟨j + 1, by simpa using h1, by simpa using h2, by simpa using h3, by simpa using h4⟩
    | false =>
      simp only [Bool.false_eq_true, if_false, List.mem_cons] at h
      rcases h with rfl | h
      · exact ⟨0, by simp, by simp, rfl, rfl⟩
      · obtain ⟨j, h1, h2, h3, h4⟩ := restOf_mem r v g h
        exact ⟨j + 1, by simpa using h1, by simpa using h2, by simpa using h3, by simpa using h4⟩
theorem restOf_set : ∀ (l : List (List UInt8)) (u : List Bool) (j : Nat) (h1 : j < l.length) (h2 : j < u.length), u[j] = false → (restOf l u).Perm (l[j] :: restOf l (u.set j true))
  | x :: r, b :: v, 0, _, _, e => by
    have : b = false := e
    subst this
    simp [restOf]
  | x :: r, b :: v, j + 1, h1, h2, e => by
    have ih := restOf_set r v j (by simpa using h1) (by simpa using h2) (by simpa using e)
    simp only [List.getElem_cons_succ, List.set_cons_succ]
    unfold restOf
    cases b with
    | true => simpa using ih
    | false =>
      simp only [Bool.false_eq_true, if_false]
      exact (ih.cons x).trans (List.Perm.swap _ _ _)

end Go.Proofs.Ytlpdoefbjhlegaa
