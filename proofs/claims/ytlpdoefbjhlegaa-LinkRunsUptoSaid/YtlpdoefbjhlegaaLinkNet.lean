/-
  PLAIN LAWS of the net: what ends make of each other's frames.
-/
import Derived.Test.YtlpdoefbjhlegaaLinkMove
namespace Go.Proofs.Ytlpdoefbjhlegaa
open Go.RowKit
attribute [local irreducible] parse numL


theorem getElem_le_flatten (ls : List (List UInt8)) (k : Nat) (h : k < ls.length) : ls[k].length ≤ ls.flatten.length := by
  have := List.sublist_flatten_of_mem (List.getElem_mem h)
  exact this.length_le

/-! ### What an end has heard -/

def rcv (s : LS) (k : Int) : Bool := decide (k ≤ s.low) || s.seen k

theorem sweepF_ge (S : Int → Bool) : ∀ (n : Nat) (x : Int), x ≤ sweepF S n x
  | 0, x => by simp only [sweepF]; omega
  | n + 1, x => by
    unfold sweepF
    split
    · have := sweepF_ge S n (x + 1); omega
    · omega
theorem sweepF_all (S : Int → Bool) : ∀ (n : Nat) (x k : Int), x < k → k ≤ sweepF S n x → S k = true
  | 0, x, k, h1, h2 => by simp only [sweepF] at h2; omega
  | n + 1, x, k, h1, h2 => by
    unfold sweepF at h2
    split at h2
    · rename_i hc
      by_cases hk : k = x + 1
      · subst hk; exact hc
      · exact sweepF_all S n (x + 1) k (by omega) h2
    · omega
theorem rcv_swept (s : LS) (x k : Int) : rcv (swept s x) k = (decide (k ≤ x) || s.seen k) := by
  have h1 := sweepF_ge s.seen 2199023255552 x
  have h2 := sweepF_all s.seen 2199023255552 x k
  change x ≤ sweepTo s.seen x at h1
  change x < k → k ≤ sweepTo s.seen x → _ at h2
  show (decide (k ≤ sweepTo s.seen x) || (s.seen k && decide (sweepTo s.seen x < k))) = _
  revert h1 h2
  generalize sweepTo s.seen x = y
  intro h1 h2
  by_cases c1 : k ≤ x
  · rw [decide_eq_true c1, decide_eq_true (show k ≤ y by omega)]; rfl
  · rw [decide_eq_false c1]
    by_cases c2 : k ≤ y
    · rw [h2 (by omega) c2, decide_eq_true c2]; rfl
    · rw [decide_eq_false c2, decide_eq_true (show y < k by omega)]; simp
theorem swept_low (s : LS) (x : Int) : x ≤ (swept s x).low := sweepF_ge _ _ _
theorem newLife_peer {s : LS} {mb : Int} (h : s.peer ≤ mb) : (newLife s mb).peer = mb := by
  unfold newLife
  split
  · rfl
  · omega
theorem newLife_self {s : LS} {mb : Int} (h : s.peer = mb) : newLife s mb = s := by
  unfold newLife
  rw [if_neg (by omega)]
theorem newLife_out (s : LS) (mb : Int) : (newLife s mb).out = s.out ∧ (newLife s mb).boot = s.boot ∧ (newLife s mb).retry = s.retry ∧ (newLife s mb).next = s.next := by
  unfold newLife; split <;> exact ⟨rfl, rfl, rfl, rfl⟩
theorem acking_eq (s : LS) (mb mn : Int) (h : s.acks.length ≤ 32) : acking s mb mn = { s with acks := (s.acks ++ [(mb, mn)]).take 32 } := by
  unfold acking
  split
  · rw [List.take_of_length_le (by simp; omega)]
  · rw [List.take_append_of_le_length (by omega), List.take_of_length_le h]

/-- What an end has heard behind one message more. -/
structure Heard (s t : LS) (mb mn base : Int) : Prop where
  peer : t.peer = mb
  rcv : ∀ k, rcv t k = (rcv (newLife s mb) k || decide (k < base) || decide (k = mn))
  acks : t.acks = ((newLife s mb).acks ++ [(mb, mn)]).take 32
  out : t.out = s.out
  boot : t.boot = s.boot
  retry : t.retry = s.retry
  next : t.next = s.next

theorem freshF_heard {s : LS} (h : LinkInv s) {mb mn base : Int} (hp : s.peer ≤ mb) (hm : 1 ≤ mb ∧ mb ≤ 1099511627776) (hb : base ≤ mn ∧ mn ≤ base + 63) :
    (freshF s mb mn base).2 = !rcv (newLife s mb) mn ∧ Heard s (freshF s mb mn base).1 mb mn base := by
  have hn := newLife_inv h mb hm
  have hpe := newLife_peer hp
  obtain ⟨o1, o2, o3, o4⟩ := newLife_out s mb
  unfold freshF
  rw [if_neg (by omega)]
  generalize hnl : newLife s mb = n at *
  have hlow := swept_low n (max n.low (base - 1))
  have hrc := rcv_swept n (max n.low (base - 1))
  have e0 : ∀ k, (decide (k ≤ max n.low (base - 1)) || n.seen k) = (rcv n k || decide (k < base)) := by
    intro k
    unfold rcv
    by_cases c1 : k ≤ n.low <;> by_cases c2 : k < base
    · rw [decide_eq_true c1, decide_eq_true c2, decide_eq_true (by omega)]; simp
    · rw [decide_eq_true c1, decide_eq_false c2, decide_eq_true (by omega)]; simp
    · rw [decide_eq_false c1, decide_eq_true c2, decide_eq_true (by omega)]; simp
    · rw [decide_eq_false c1, decide_eq_false c2, decide_eq_false (by omega)]; simp
  have s1 : (swept n (max n.low (base - 1))).acks = n.acks := rfl
  have s2 : (swept n (max n.low (base - 1))).peer = n.peer := rfl
  have s3 : (swept n (max n.low (base - 1))).out = n.out := rfl
  have s4 : (swept n (max n.low (base - 1))).boot = n.boot := rfl
  have s5 : (swept n (max n.low (base - 1))).retry = n.retry := rfl
  have s6 : (swept n (max n.low (base - 1))).next = n.next := rfl
  generalize swept n (max n.low (base - 1)) = t at *
  have e1 : ∀ k, rcv t k = (rcv n k || decide (k < base)) := fun k => (hrc k).trans (e0 k)
  have eA : acking t mb mn = { t with acks := (n.acks ++ [(mb, mn)]).take 32 } := by
    rw [acking_eq t mb mn (by rw [s1]; exact hn.acksL), s1]
  unfold fresh2
  rw [if_neg (by omega), eA]
  have e2 := e1 mn
  rw [decide_eq_false (show ¬ mn < base by omega), Bool.or_false] at e2
  by_cases c : mn ≤ t.low ∨ t.seen mn = true
  · have hc : rcv t mn = true := by
      unfold rcv
      rcases c with c | c
      · rw [decide_eq_true c]; rfl
      · rw [c, Bool.or_true]
    rw [if_pos c]
    refine ⟨by rw [← e2, hc]; rfl, s2.trans hpe, fun k => ?_, by rw [hnl], s3.trans o1, s4.trans o2, s5.trans o3, s6.trans o4⟩
    show rcv t k = _
    rw [e1 k, hnl]
    by_cases hk : k = mn
    · subst hk; rw [← e2, hc]; simp
    · rw [decide_eq_false hk, Bool.or_false]
  · have hc : rcv t mn = false := by
      unfold rcv
      rw [decide_eq_false (fun d => c (Or.inl d)), Bool.false_or]
      exact Bool.eq_false_iff.2 (fun d => c (Or.inr d))
    rw [if_neg c]
    refine ⟨by rw [← e2, hc]; rfl, s2.trans hpe, fun k => ?_, by rw [hnl]; rfl, s3.trans o1, s4.trans o2, s5.trans o3, s6.trans o4⟩
    unfold taking
    rw [rcv_swept]
    show (decide (k ≤ t.low) || (t.seen k || decide (k = mn))) = _
    rw [hnl, ← e1 k, ← Bool.or_assoc]
    rfl

/-! ### One frame -/

theorem ofToNat {x : Int} (h : 0 ≤ x) : ((x.toNat : Nat) : Int) = x := Int.toNat_of_nonneg h
theorem in_dat {s : LS} (h : LinkInv s) {boot base : Int} {o : OutH} (hm : 1 ≤ boot ∧ boot ≤ 1099511627776) (hb : 1 ≤ base ∧ base ≤ o.num ∧ o.num ≤ base + 63 ∧ o.num ≤ 1099511627776) (hd : o.data.length ≤ 65536) (hp : s.peer ≤ boot) :
    (inF s (parse (datFr boot base o))).2.2.1 = !rcv (newLife s boot) o.num ∧ (rcv (newLife s boot) o.num = false → (inF s (parse (datFr boot base o))).2.1 = o.data) ∧ Heard s (inF s (parse (datFr boot base o))).1 boot o.num base := by
  obtain ⟨h1, h2⟩ := freshF_heard h hp hm (mn := o.num) (base := base) ⟨hb.2.1, hb.2.2.1⟩
  unfold datFr
  rw [parse_dat _ _ _ _ (by omega) (by omega) (by omega) hd]
  unfold inF
  simp only []
  rw [if_neg (by simp), if_neg (by omega), if_neg (by simp), ofToNat (show 0 ≤ boot by omega), ofToNat (show 0 ≤ o.num by omega), ofToNat (show 0 ≤ base by omega)]
  by_cases hc : rcv (newLife s boot) o.num = true
  · rw [hc] at h1
    rw [h1, hc]
    refine ⟨by simp, by simp, ?_⟩
    simpa using h2
  · have hc' : rcv (newLife s boot) o.num = false := by simpa using hc
    rw [hc'] at h1
    rw [h1, hc']
    refine ⟨by simp, by simp, ?_⟩
    simpa using h2
theorem in_err {s : LS} {boot base : Int} {o : OutH} (hm : 1 ≤ boot ∧ boot ≤ 1099511627776) (hb : 1 ≤ base ∧ base ≤ o.num ∧ o.num ≤ 1099511627776) (hd : o.data.length ≤ 65536) :
    (inF s (parse (datFr boot base o))).2.2.2 = 0 ∧ ((inF s (parse (datFr boot base o))).2.2.1 = false → (inF s (parse (datFr boot base o))).2.1 = []) := by
  unfold datFr
  rw [parse_dat _ _ _ _ (by omega) (by omega) (by omega) hd]
  unfold inF
  simp only []
  rw [if_neg (by simp), if_neg (by omega), if_neg (by simp)]
  split
  · exact ⟨rfl, fun c => by simp at c⟩
  · exact ⟨rfl, fun _ => rfl⟩
/-- An older life is not heard. -/
theorem in_old {s : LS} {boot base : Int} {o : OutH} (hm : 1 ≤ boot ∧ boot ≤ 1099511627776) (hb : 1 ≤ base ∧ base ≤ o.num ∧ o.num ≤ 1099511627776) (hd : o.data.length ≤ 65536) (hp : boot < s.peer) :
    inF s (parse (datFr boot base o)) = (s, [], false, 0) := by
  unfold datFr
  rw [parse_dat _ _ _ _ (by omega) (by omega) (by omega) hd]
  unfold inF
  simp only []
  rw [if_neg (by simp), if_neg (by omega), if_neg (by simp), ofToNat (show 0 ≤ boot by omega), ofToNat (show 0 ≤ o.num by omega), ofToNat (show 0 ≤ base by omega)]
  have : freshF s boot o.num base = (s, false) := by unfold freshF; rw [if_pos hp]
  rw [this]
  simp
theorem in_ack (s : LS) (a : Int × Int) (h1 : 1 ≤ a.1 ∧ a.1 ≤ 1099511627776) (h2 : 1 ≤ a.2 ∧ a.2 ≤ 1099511627776) : inF s (parse (ackFr a)) = (ackedF s a.1 a.2, [], false, 0) := by
  unfold ackFr
  rw [parse_ack _ _ (by omega) (by omega)]
  unfold inF
  simp only []
  rw [if_neg (by simp), if_neg (by omega), if_pos (by simp), ofToNat (show 0 ≤ a.1 by omega), ofToNat (show 0 ≤ a.2 by omega)]

/-! ### Many frames -/

theorem take_take_append {α : Type} (n : Nat) (a b : List α) : (a.take n ++ b).take n = (a ++ b).take n := by
  by_cases h : a.length ≤ n
  · rw [List.take_of_length_le h]
  · rw [List.take_append_of_le_length (by simp; omega), List.take_append_of_le_length (by omega), List.take_take, Nat.min_self]

/-- Frames of one sending. -/
structure Sending (boot base : Int) (hs : List OutH) : Prop where
  boot : 1 ≤ boot ∧ boot ≤ 1099511627776
  nums : ∀ h ∈ hs, 1 ≤ base ∧ base ≤ h.num ∧ h.num ≤ base + 63 ∧ h.num ≤ 1099511627776 ∧ h.data.length ≤ 65472
  apart : hs.Pairwise (fun a b => a.num ≠ b.num)
theorem Sending.tail {boot base : Int} {h : OutH} {hs : List OutH} (x : Sending boot base (h :: hs)) : Sending boot base hs :=
  ⟨x.boot, fun a ha => x.nums a (by simp [ha]), (List.pairwise_cons.1 x.apart).2⟩
theorem Sending.sub {boot base : Int} {l hs : List OutH} (x : Sending boot base hs) (h : l.Sublist hs) : Sending boot base l :=
  ⟨x.boot, fun a ha => x.nums a (h.subset ha), x.apart.sublist h⟩

structure Took (s t : LS) (boot base : Int) (hs : List OutH) : Prop where
  peer : hs ≠ [] → t.peer = boot
  rcv : ∀ k, rcv (newLife t boot) k = (rcv (newLife s boot) k || (!hs.isEmpty && decide (k < base)) || hs.any (fun h => h.num == k))
  acks : (newLife t boot).acks = ((newLife s boot).acks ++ hs.map (fun h => (boot, h.num))).take 32
  out : t.out = s.out
  boot : t.boot = s.boot
  retry : t.retry = s.retry
  next : t.next = s.next

theorem move_dat {boot base : Int} : ∀ (hs : List OutH) {s : LS}, LinkInv s → s.peer ≤ boot → Sending boot base hs →
    (moveF s (hs.map (datFr boot base))).2 = (hs.filter (fun h => !rcv (newLife s boot) h.num)).map (·.data) ∧ Took s (moveF s (hs.map (datFr boot base))).1 boot base hs
  | [], s, h, hp, hx => by
    refine ⟨rfl, fun c => absurd rfl c, fun k => by simp [moveF], ?_, rfl, rfl, rfl, rfl⟩
    have := (newLife_inv h boot hx.boot).acksL
    simp only [moveF, List.map_nil, List.append_nil]
    rw [List.take_of_length_le this]
  | o :: r, s, h, hp, hx => by
    have hb := hx.nums o (by simp)
    obtain ⟨h1, h2, h3⟩ := in_dat h hx.boot (o := o) (base := base) ⟨hb.1, hb.2.1, hb.2.2.1, hb.2.2.2.1⟩ (by omega) hp
    have hi := inF_inv h (datFr boot base o)
    obtain ⟨g1, g2⟩ := move_dat r hi (by rw [h3.peer]; omega) hx.tail
    have hn := newLife_self h3.peer
    have hpw := (List.pairwise_cons.1 hx.apart).1
    simp only [List.map_cons, moveF]
    rw [h1, g1]
    have hf : (r.filter (fun h => !rcv (newLife (inF s (parse (datFr boot base o))).1 boot) h.num)) = r.filter (fun h => !rcv (newLife s boot) h.num) := by
      refine List.filter_congr (fun a ha => ?_)
      rw [hn, h3.rcv]
      have ha1 := (hx.nums a (by simp [ha])).2.1
      have ha2 := hpw a ha
      rw [decide_eq_false (show ¬ a.num < base by omega), decide_eq_false (fun c => ha2 c.symm)]
      simp
    refine ⟨?_, fun _ => ?_, fun k => ?_, ?_, g2.out.trans h3.out, g2.boot.trans h3.boot, g2.retry.trans h3.retry, g2.next.trans h3.next⟩
    · rw [hf, List.filter_cons]
      cases hc : rcv (newLife s boot) o.num with
      | true => simp
      | false => simp [h2 hc]
    · by_cases hr : r = []
      · subst hr; exact h3.peer
      · exact g2.peer hr
    · rw [g2.rcv k, hn, h3.rcv k]
      simp only [List.isEmpty_cons, Bool.not_false, Bool.true_and, List.any_cons]
      have e1 : decide (k = o.num) = (o.num == k) := by
        by_cases c : o.num = k
        · subst c; simp
        · rw [decide_eq_false (fun d => c d.symm)]; symm; simpa using c
      rw [e1]
      cases rcv (newLife s boot) k <;> cases decide (k < base) <;> cases (o.num == k) <;> cases r.isEmpty <;> simp
    · rw [g2.acks, hn, h3.acks, take_take_append]
      simp

theorem move_old {boot base : Int} : ∀ (hs : List OutH) {s : LS}, boot < s.peer → Sending boot base hs → moveF s (hs.map (datFr boot base)) = (s, [])
  | [], s, _, _ => rfl
  | o :: r, s, hp, hx => by
    have hb := hx.nums o (by simp)
    have h1 := in_old (s := s) hx.boot (o := o) (base := base) ⟨hb.1, hb.2.1, hb.2.2.2.1⟩ (by omega) hp
    simp only [List.map_cons, moveF]
    rw [h1]
    simp only []
    rw [move_old r hp hx.tail]
    simp

theorem dropNum_filter (mn : Int) : ∀ (out : List OutH), out.Pairwise (fun a b => a.num < b.num) → dropNum mn out = out.filter (fun h => !(h.num == mn))
  | [], _ => rfl
  | h :: r, hp => by
    rw [List.pairwise_cons] at hp
    unfold dropNum
    by_cases c : h.num = mn
    · rw [if_pos c, List.filter_cons_of_neg (by simpa using c)]
      symm
      rw [List.filter_eq_self]
      intro a ha
      have := hp.1 a ha
      simp; omega
    · rw [if_neg c, List.filter_cons_of_pos (by simpa using c), dropNum_filter mn r hp.2]

theorem move_acks : ∀ (l : List (Int × Int)) (s : LS), (∀ a ∈ l, (1 ≤ a.1 ∧ a.1 ≤ 1099511627776) ∧ 1 ≤ a.2 ∧ a.2 ≤ 1099511627776) → s.out.Pairwise (fun a b => a.num < b.num) →
    moveF s (l.map ackFr) = ({ s with out := s.out.filter (fun h => !(l.contains (s.boot, h.num))) }, [])
  | [], s, _, _ => by
    have : s.out.filter (fun h => !(([] : List (Int × Int)).contains (s.boot, h.num))) = s.out := by simp
    rw [this]; rfl
  | a :: r, s, hb, hp => by
    have h1 := hb a (by simp)
    simp only [List.map_cons, moveF]
    rw [in_ack s a h1.1 h1.2]
    simp only []
    have hs : (ackedF s a.1 a.2).boot = s.boot := by unfold ackedF; split <;> rfl
    have ho : (ackedF s a.1 a.2).out = s.out.filter (fun h => !(a.1 == s.boot && h.num == a.2)) := by
      unfold ackedF
      by_cases c : a.1 = s.boot
      · rw [if_pos c, c]
        simp only []
        rw [dropNum_filter _ _ hp]
        simp
      · rw [if_neg c]
        symm
        rw [List.filter_eq_self]
        intro h _
        simp [c]
    have he : ackedF s a.1 a.2 = { s with out := s.out.filter (fun h => !(a.1 == s.boot && h.num == a.2)) } := by
      unfold ackedF at ho ⊢
      by_cases c : a.1 = s.boot
      · rw [if_pos c] at ho ⊢
        simp only [] at ho
        rw [ho]
      · rw [if_neg c] at ho ⊢
        rw [← ho]
    rw [move_acks r _ (fun x hx => hb x (by simp [hx])) (by rw [ho]; exact hp.filter _), hs, ho, he]
    simp only [List.filter_filter]
    have : (fun h : OutH => (!r.contains (s.boot, h.num)) && !(a.1 == s.boot && h.num == a.2)) = (fun h => !((a :: r).contains (s.boot, h.num))) := by
      funext h
      rw [List.contains_cons]
      obtain ⟨a1, a2⟩ := a
      have : ((s.boot, h.num) == (a1, a2)) = (a1 == s.boot && h.num == a2) := by
        show (s.boot == a1 && h.num == a2) = _
        rw [show (s.boot == a1) = (a1 == s.boot) from Bool.beq_comm]
      rw [this]
      simp only []
      cases r.contains (s.boot, h.num) <;> cases (a1 == s.boot && h.num == a2) <;> rfl
    rw [this]
    simp


/-! ### The sender -/

/-- Numbers in a row. -/
def Run : Int → List OutH → Prop
  | _, [] => True
  | lo, h :: r => h.num = lo ∧ Run (lo + 1) r
theorem Run.snoc : ∀ {lo : Int} {l : List OutH} {h : OutH}, Run lo l → h.num = lo + l.length → Run lo (l ++ [h])
  | lo, [], h, _, e => ⟨by simpa using e, trivial⟩
  | lo, a :: r, h, hr, e => ⟨hr.1, Run.snoc hr.2 (by simp at e; omega)⟩
theorem Run.bounds : ∀ {lo : Int} {l : List OutH}, Run lo l → ∀ h ∈ l, lo ≤ h.num ∧ h.num < lo + l.length
  | lo, [], _, h, c => by simp at c
  | lo, a :: r, hr, h, c => by
    rcases List.mem_cons.1 c with rfl | c
    · have := hr.1; simp; omega
    · have := Run.bounds hr.2 h c; simp; omega
theorem Run.drop : ∀ {lo : Int} {l : List OutH} (k : Nat), Run lo l → Run (lo + k) (l.drop k)
  | lo, l, 0, h => by simpa using h
  | lo, [], k + 1, h => by simp [Run]
  | lo, a :: r, k + 1, h => by
    have := Run.drop k h.2
    simp only [List.drop_succ_cons]
    have e : lo + 1 + (k : Int) = lo + ((k + 1 : Nat) : Int) := by omega
    rwa [e] at this
theorem Run.map {f : OutH → OutH} (hf : ∀ h, (f h).num = h.num) : ∀ {lo : Int} {l : List OutH}, Run lo l → Run lo (l.map f)
  | _, [], _ => trivial
  | _, a :: _, h => ⟨(hf a).trans h.1, Run.map hf h.2⟩

theorem full_no {s : LS} (h : ∀ x ∈ s.out, s.next - x.num < 32) : full s = false := by
  unfold full
  cases hs : s.out with
  | nil => rfl
  | cons a r =>
    have := h a (by rw [hs]; simp)
    simp only []
    exact decide_eq_false (by omega)
theorem full_yes {s : LS} {lo : Int} (h : Run lo s.out) (h0 : 0 < s.out.length) (hn : s.next = lo + 32) : full s = true := by
  unfold full
  cases hs : s.out with
  | nil => rw [hs] at h0; simp at h0
  | cons a r =>
    rw [hs] at h
    have := h.1
    simp only []
    exact decide_eq_true (by omega)

/-- A row of messages that wait. -/
structure Fill (s : LS) (lo : Int) (n : Nat) : Prop where
  inv : LinkInv s
  run : Run lo s.out
  len : s.out.length = n
  next : s.next = lo + n
/-- Nothing yet sent. -/
structure Unsent (s : LS) (boot retry : Int) : Prop where
  acks : s.acks = []
  boot : s.boot = boot
  retry : s.retry = retry
  sent : ∀ h ∈ s.out, h.sent = false

theorem sendF_fits {s : LS} {d : List UInt8} (hd : d.length ≤ 65472) (hf : full s = false) : sendF s d = (sentLS s d, 0) := by
  unfold sendF
  rw [if_neg (by omega), if_neg (by rw [hf]; simp)]
theorem Fill.send {s : LS} {lo : Int} {n : Nat} (h : Fill s lo n) (hn : n < 32) {d : List UInt8} (hd : d.length ≤ 65472) (hx : s.next < 1048576) : sendF s d = (sentLS s d, 0) ∧ Fill (sentLS s d) lo (n + 1) := by
  have hf : full s = false := full_no (fun x hx => by have := h.run.bounds x hx; have := h.len; have := h.next; omega)
  have e := sendF_fits hd hf
  refine ⟨e, ?_, ?_, ?_, ?_⟩
  · have := sendF_inv h.inv d hx
    rwa [e] at this
  · exact h.run.snoc (by have := h.len; have := h.next; simp only []; omega)
  · have := h.len; simp [sentLS]; omega
  · have := h.next; simp [sentLS]; omega
theorem Fill.over {s : LS} {lo : Int} (h : Fill s lo 32) {d : List UInt8} (hd : d.length ≤ 65472) : sendF s d = (s, 64) := by
  have hf := full_yes h.run (by have := h.len; omega) (by have := h.next; omega)
  unfold sendF
  rw [if_neg (by omega), if_pos hf]
theorem Unsent.sent' {s : LS} {boot retry : Int} (h : Unsent s boot retry) (d : List UInt8) : Unsent (sentLS s d) boot retry :=
  ⟨h.acks, h.boot, h.retry, fun a ha => by
    simp only [sentLS, List.mem_append, List.mem_singleton] at ha
    rcases ha with ha | rfl
    · exact h.sent a ha
    · rfl⟩
theorem Unsent.send {s : LS} {boot retry : Int} (h : Unsent s boot retry) (d : List UInt8) : Unsent (sendF s d).1 boot retry := by
  unfold sendF
  split
  · exact h
  · split
    · exact h
    · exact h.sent' d
/-- What a sending adds. -/
theorem sendF_out (s : LS) (d : List UInt8) : (sendF s d).1.out.map (·.data) = s.out.map (·.data) ++ if (sendF s d).2 = 0 then [d] else [] := by
  unfold sendF
  split
  · simp
  · split
    · simp
    · simp [sentLS]
theorem sendF_next (s : LS) (d : List UInt8) : s.next ≤ (sendF s d).1.next ∧ (sendF s d).1.next ≤ s.next + 1 := by
  unfold sendF
  split
  · simp only []; omega
  · split
    · simp only []; omega
    · simp only [sentLS]; omega
theorem sendF_lt (s : LS) (d : List UInt8) : (sendF s d).2 < 100 := by
  unfold sendF
  split
  · simp
  · split <;> simp
theorem lives_unsent4 : Unsent (newLS 4 5) 4 5 := ⟨rfl, rfl, rfl, fun h c => by simp [newLS] at c⟩
theorem full_unsent : Unsent (newLS 1 5) 1 5 := ⟨rfl, rfl, rfl, fun h c => by simp [newLS] at c⟩
theorem lives_unsent9 : Unsent (newLS 9 5) 9 5 := ⟨rfl, rfl, rfl, fun h c => by simp [newLS] at c⟩
theorem lives_next (x y : Int) : (newLS x y).next = 1 := rfl
theorem lives_none (x y : Int) : (newLS x y).out.length = 0 := rfl
theorem newLS_unsent (boot retry : Int) : Unsent (newLS boot retry) (max 1 (min boot 1099511627776)) (max 1 (min retry 1048576)) := ⟨rfl, rfl, rfl, fun h c => by simp [newLS] at c⟩
theorem newLS_fill (boot retry : Int) : Fill (newLS boot retry) 1 0 := ⟨newLS_inv _ _, trivial, rfl, rfl⟩

/-! ### Out -/

theorem inc_apart {l : List OutH} (h : l.Pairwise (fun a b => a.num < b.num)) : l.Pairwise (fun a b => a.num ≠ b.num) := h.imp (fun {a b} (c : a.num < b.num) => by omega)
theorem baseOf_le {l : List OutH} (h : l.Pairwise (fun a b => a.num < b.num)) : ∀ a ∈ l, baseOf l ≤ a.num := by
  cases l with
  | nil => simp
  | cons b r =>
    intro a ha
    rcases List.mem_cons.1 ha with rfl | hr
    · simp [baseOf]
    · have := (List.pairwise_cons.1 h).1 a hr; simp [baseOf]; omega
theorem baseOf_mem {l : List OutH} (h : l ≠ []) : ∃ a ∈ l, baseOf l = a.num := by
  cases l with
  | nil => exact absurd rfl h
  | cons b r => exact ⟨b, by simp, rfl⟩
theorem LinkInv.sending {s : LS} (h : LinkInv s) : Sending s.boot (baseOf s.out) s.out := by
  refine ⟨h.boot, fun a ha => ?_, inc_apart h.inc⟩
  obtain ⟨b, hb, e⟩ := baseOf_mem (List.ne_nil_of_mem ha)
  have h1 := h.outN a ha
  have h2 := h.outN b hb
  have h3 := h.near b hb
  have h4 := baseOf_le h.inc a ha
  have := h.next
  omega
theorem emit_idle {s : LS} (h : s.out = []) (now : Int) : emitF s now = ({ s with acks := [] }, s.acks.map ackFr) := by
  unfold emitF
  rw [h]
  simp
theorem emit_all {s : LS} {now : Int} (h : ∀ a ∈ s.out, skipH s.retry now a = false) : emitF s now = ({ s with acks := [], out := s.out.map (fun a => { a with sent := true, time := now }) }, s.acks.map ackFr ++ s.out.map (datFr s.boot (baseOf s.out))) := by
  unfold emitF
  have e1 : s.out.filter (fun a => !skipH s.retry now a) = s.out := by
    rw [List.filter_eq_self]; intro a ha; rw [h a ha]; rfl
  have e2 : s.out.map (updH s.retry now) = s.out.map (fun a => { a with sent := true, time := now }) := by
    refine List.map_congr_left (fun a ha => ?_)
    unfold updH; rw [h a ha]; simp
  rw [e1, e2]
theorem skip_unsent {retry now : Int} {h : OutH} (hs : h.sent = false) : skipH retry now h = false := by unfold skipH; rw [hs]; rfl
theorem skip_late {retry now : Int} {h : OutH} (hs : h.time + retry ≤ now) : skipH retry now h = false := by
  unfold skipH
  rw [decide_eq_false (show ¬ now - h.time < retry by omega)]
  simp
theorem updH_bounds (retry now : Int) (h : OutH) : (updH retry now h).num = h.num ∧ (updH retry now h).data = h.data ∧ ((updH retry now h).time = h.time ∨ (updH retry now h).time = now) := by
  unfold updH
  split
  · exact ⟨rfl, rfl, Or.inl rfl⟩
  · exact ⟨rfl, rfl, Or.inr rfl⟩
theorem emitF_inv {s : LS} (h : LinkInv s) {now : Int} (hn : -9223372036854775808 ≤ now ∧ now ≤ 9223372036854775807) : LinkInv (emitF s now).1 := by
  refine ⟨h.boot, h.retry, h.next, ?_, ?_, ?_, by simp [emitF], by simp [emitF], h.peer, h.low, h.seen⟩
  · intro a ha
    obtain ⟨b, hb, rfl⟩ := List.mem_map.1 ha
    have := h.outN b hb
    obtain ⟨e1, e2, e3⟩ := updH_bounds s.retry now b
    rw [e1, e2]
    refine ⟨this.1, this.2.1, this.2.2.1, ?_⟩
    rcases e3 with e3 | e3 <;> rw [e3] <;> omega
  · show (s.out.map (updH s.retry now)).Pairwise _
    rw [List.pairwise_map]
    exact h.inc.imp (fun {a b} c => by rw [(updH_bounds _ _ a).1, (updH_bounds _ _ b).1]; exact c)
  · intro a ha
    obtain ⟨b, hb, rfl⟩ := List.mem_map.1 ha
    rw [(updH_bounds _ _ b).1]
    exact h.near b hb
theorem emitF_len {s : LS} (now : Int) : (emitF s now).2.length ≤ s.acks.length + s.out.length := by
  have := List.length_filter_le (fun h => !skipH s.retry now h) s.out
  simp [emitF]; omega

theorem emitF_short {s : LS} (h : LinkInv s) (now : Int) : ∀ f ∈ (emitF s now).2, f.length ≤ 140737488355328 := by
  have hz : ∀ u, (numL u).length ≤ 9 := fun u => by rw [length_numL]; have := sizeN_le u; omega
  intro f hf
  simp only [emitF, List.mem_append, List.mem_map] at hf
  rcases hf with ⟨a, -, rfl⟩ | ⟨o, ho, rfl⟩
  · have h1 := hz 2
    have h2 := hz a.1.toNat
    have h3 := hz a.2.toNat
    simp only [ackFr, List.length_append]
    omega
  · have h0 := (h.outN o (List.mem_filter.1 ho).1).2.2.1
    have h1 := hz 1
    have h2 := hz s.boot.toNat
    have h3 := hz o.num.toNat
    have h4 := hz (baseOf s.out).toNat
    have h5 := hz o.data.length
    simp only [datFr, List.length_append]
    omega

/-! ### Acknowledged -/

theorem acks_drop (boot : Int) (out : List OutH) (hp : out.Pairwise (fun a b => a.num < b.num)) (k : Nat) (f : OutH → OutH) (hf : ∀ h, (f h).num = h.num) :
    (out.map f).filter (fun h => !(((out.take k).map (fun a => (boot, a.num))).contains (boot, h.num))) = (out.drop k).map f := by
  have e : out.map f = (out.take k).map f ++ (out.drop k).map f := by rw [← List.map_append, List.take_append_drop]
  rw [e, List.filter_append]
  have e1 : ((out.take k).map f).filter (fun h => !(((out.take k).map (fun a => (boot, a.num))).contains (boot, h.num))) = [] := by
    rw [List.filter_eq_nil_iff]
    intro a ha
    obtain ⟨b, hb, rfl⟩ := List.mem_map.1 ha
    simp only [hf, Bool.not_eq_true', Bool.not_eq_false, List.contains_iff_mem]
    exact List.mem_map.2 ⟨b, hb, rfl⟩
  have e2 : ((out.drop k).map f).filter (fun h => !(((out.take k).map (fun a => (boot, a.num))).contains (boot, h.num))) = (out.drop k).map f := by
    rw [List.filter_eq_self]
    intro a ha
    obtain ⟨b, hb, rfl⟩ := List.mem_map.1 ha
    rw [Bool.not_eq_true', Bool.eq_false_iff]
    intro c
    rw [List.contains_iff_mem] at c
    obtain ⟨x, hx, hxe⟩ := List.mem_map.1 c
    simp only [hf, Prod.mk.injEq, true_and] at hxe
    rw [← List.take_append_drop k out, List.pairwise_append] at hp
    have := hp.2.2 x hx b hb
    omega
  rw [e1, e2, List.nil_append]



theorem newLS_rcv (x y : Int) {boot : Int} (hb : 1 ≤ boot) (k : Int) : rcv (newLife (newLS x y) boot) k = decide (k ≤ 0) := by
  unfold newLife
  rw [if_pos (show (newLS x y).peer < boot from by show (0 : Int) < boot; omega)]
  simp [rcv]
theorem newLS_life (x y boot : Int) : (newLife (newLS x y) boot).acks = [] := by
  unfold newLife newLS
  split <;> rfl

theorem took_acks {s t : LS} {boot base : Int} {hs : List OutH} (h : Took s t boot base hs) (h0 : (newLife s boot).acks = []) (hl : hs.length ≤ 32) (hn : t.peer = boot ∨ hs = []) (hs0 : s.acks = []) (ht : hs = [] → t = s) : t.acks = hs.map (fun a => (boot, a.num)) := by
  rcases hn with hn | hn
  · have := h.acks
    rw [newLife_self hn, h0, List.nil_append, List.take_of_length_le (by simpa using hl)] at this
    exact this
  · rw [ht hn, hs0, hn]; rfl

/-! ### LinkFull -/

theorem full_mid {a : LS} (h : Fill a 1 32) (hu : Unsent a 1 5) (k : Nat) (hk : k < 32) (x y : Int) :
    (emitF a 0).2.length = 32 ∧ Fill (moveF (emitF a 0).1 (emitF (moveF (newLS x y) ((emitF a 0).2.take k)).1 0).2).1 (1 + k) (32 - k) := by
  have e1 : emitF a 0 = ({ a with acks := [], out := a.out.map (fun h => { h with sent := true, time := 0 }) }, a.out.map (datFr a.boot (baseOf a.out))) := by
    rw [emit_all (fun o ho => skip_unsent (hu.sent o ho)), hu.acks]; rfl
  have hi := emitF_inv h.inv (now := 0) (by omega)
  rw [e1] at hi ⊢
  simp only [] at hi ⊢
  have hlen := h.len
  have hb : a.boot = 1 := hu.boot
  refine ⟨by simp [hlen], ?_⟩
  rw [← List.map_take]
  have hsnd : Sending a.boot (baseOf a.out) (a.out.take k) := h.inv.sending.sub (List.take_sublist k a.out)
  have hm := move_dat (a.out.take k) (newLS_inv x y) (by rw [hb]; show (0 : Int) ≤ 1; omega) hsnd
  have hmi := moveF_inv ((a.out.take k).map (datFr a.boot (baseOf a.out))) (newLS_inv x y)
  have hA : (moveF (newLS x y) ((a.out.take k).map (datFr a.boot (baseOf a.out)))).1.acks = (a.out.take k).map (fun h => (a.boot, h.num)) := by
    refine took_acks hm.2 (newLS_life _ _ _) (by simp; omega) ?_ rfl (fun c => by rw [c]; rfl)
    by_cases c : a.out.take k = []
    · exact Or.inr c
    · exact Or.inl (hm.2.peer c)
  have hO : (moveF (newLS x y) ((a.out.take k).map (datFr a.boot (baseOf a.out)))).1.out = [] := hm.2.out.trans rfl
  generalize moveF (newLS x y) ((a.out.take k).map (datFr a.boot (baseOf a.out))) = b at *
  rw [emit_idle hO, hA]
  simp only []
  have hbnd : ∀ o ∈ (a.out.take k).map (fun h => (a.boot, h.num)), (1 ≤ o.1 ∧ o.1 ≤ 1099511627776) ∧ 1 ≤ o.2 ∧ o.2 ≤ 1099511627776 := by rw [← hA]; exact hmi.acksN
  have hmv := move_acks ((a.out.take k).map (fun h => (a.boot, h.num))) { a with acks := [], out := a.out.map (fun h => { h with sent := true, time := 0 }) } hbnd hi.inc
  have hmi2 := moveF_inv (((a.out.take k).map (fun h => (a.boot, h.num))).map ackFr) hi
  rw [hmv] at hmi2 ⊢
  simp only [] at hmi2 ⊢
  have hd := acks_drop a.boot a.out h.inv.inc k (fun h => { h with sent := true, time := 0 }) (fun _ => rfl)
  refine ⟨hmi2, ?_, ?_, ?_⟩
  · simp only []; rw [hd]; exact Run.map (f := fun h => { h with sent := true, time := 0 }) (fun _ => rfl) (h.run.drop k)
  · simp only []; rw [hd]; simp; omega
  · have := h.next; simp only []; omega

/-! ### LinkLives -/

theorem lives_new {c : LS} (h : LinkInv c) (hu : Unsent c 9 5) (x y : Int) : (moveF (newLS x y) (emitF c 0).2).2 = c.out.map (·.data) ∧ (c.out ≠ [] → (moveF (newLS x y) (emitF c 0).2).1.peer = 9 ∧
    ∀ o ∈ c.out, rcv (moveF (newLS x y) (emitF c 0).2).1 o.num = true) := by
  have e1 : (emitF c 0).2 = c.out.map (datFr c.boot (baseOf c.out)) := by
    rw [emit_all (fun o ho => skip_unsent (hu.sent o ho)), hu.acks]; rfl
  have hb : c.boot = 9 := hu.boot
  have hm := move_dat c.out (newLS_inv x y) (by rw [hb]; show (0 : Int) ≤ 9; omega) h.sending
  rw [e1]
  refine ⟨?_, fun hne => ⟨(hm.2.peer hne).trans hb, fun o ho => ?_⟩⟩
  · rw [hm.1]
    congr 1
    rw [List.filter_eq_self]
    intro o ho
    rw [newLS_rcv _ _ (by omega)]
    have := (h.outN o ho).1
    rw [decide_eq_false (by omega)]; rfl
  · have := hm.2.rcv o.num
    rw [newLife_self (hm.2.peer hne)] at this
    rw [this]
    have : c.out.any (fun h => h.num == o.num) = true := List.any_eq_true.2 ⟨o, ho, by simp⟩
    rw [this, Bool.or_true]
theorem lives_old {a b : LS} (h : LinkInv a) (hu : Unsent a 4 5) (hp : b.peer = 9) : moveF b (emitF a 0).2 = (b, []) := by
  have e1 : (emitF a 0).2 = a.out.map (datFr a.boot (baseOf a.out)) := by
    rw [emit_all (fun o ho => skip_unsent (hu.sent o ho)), hu.acks]; rfl
  rw [e1]
  exact move_old a.out (by rw [hu.boot, hp]; omega) h.sending
theorem lives_again {c b : LS} (h : LinkInv c) (hu : Unsent c 9 5) (hbi : LinkInv b) (hp : b.peer = 9) (hr : ∀ o ∈ c.out, rcv b o.num = true) : (moveF b (emitF (emitF c 0).1 9).2).2 = [] := by
  have hi := emitF_inv h (now := 0) (by omega)
  have e1 : emitF c 0 = ({ c with acks := [], out := c.out.map (fun h => { h with sent := true, time := 0 }) }, c.out.map (datFr c.boot (baseOf c.out))) := by
    rw [emit_all (fun o ho => skip_unsent (hu.sent o ho)), hu.acks]; rfl
  rw [e1] at hi ⊢
  simp only [] at hi ⊢
  have hb : c.boot = 9 := hu.boot
  have hrt : c.retry = 5 := hu.retry
  have e2 : (emitF { c with acks := [], out := c.out.map (fun h => { h with sent := true, time := 0 }) } 9).2 = (c.out.map (fun h => { h with sent := true, time := 0 })).map (datFr c.boot (baseOf (c.out.map (fun h => { h with sent := true, time := 0 })))) := by
    rw [emit_all]
    · rfl
    · intro o ho
      obtain ⟨q, -, rfl⟩ := List.mem_map.1 ho
      exact skip_late (by simp only []; omega)
  rw [e2]
  have hm := move_dat (c.out.map (fun h => { h with sent := true, time := 0 })) hbi (by rw [hb, hp]; omega) hi.sending
  rw [hm.1]
  have : (c.out.map (fun h : OutH => { h with sent := true, time := 0 })).filter (fun h => !rcv (newLife b c.boot) h.num) = [] := by
    rw [List.filter_eq_nil_iff]
    intro o ho
    obtain ⟨q, hq, rfl⟩ := List.mem_map.1 ho
    rw [newLife_self (by rw [hb]; exact hp), hr q hq]
    simp
  rw [this]; rfl

/-! ### All arrives and is acknowledged -/

structure Trip (a b a2 b2 : LS) : Prop where
  out : a2.out = []
  acks : a2.acks = []
  next : a2.next = a.next
  boot : a2.boot = a.boot
  retry : a2.retry = a.retry
  inv : LinkInv a2
  backs : b2.acks = []
  bout : b2.out = []
  bpeer : b2.peer ≤ a.boot
  binv : LinkInv b2
theorem round_trip {a b : LS} (ha : LinkInv a) (hb : LinkInv b) (hak : a.acks = []) (hbk : b.acks = []) (hbo : b.out = []) (hp : b.peer ≤ a.boot) {now now' : Int} (hns : ∀ h ∈ a.out, skipH a.retry now h = false) (hn : -9223372036854775808 ≤ now ∧ now ≤ 9223372036854775807) :
    (moveF b (emitF a now).2).2 = (a.out.filter (fun h => !rcv (newLife b a.boot) h.num)).map (·.data) ∧
    Trip a b (moveF (emitF a now).1 (emitF (moveF b (emitF a now).2).1 now').2).1 (emitF (moveF b (emitF a now).2).1 now').1 := by
  have hi := emitF_inv ha hn
  have e1 : emitF a now = ({ a with acks := [], out := a.out.map (fun h => { h with sent := true, time := now }) }, a.out.map (datFr a.boot (baseOf a.out))) := by
    rw [emit_all hns, hak]; rfl
  rw [e1] at hi ⊢
  simp only [] at hi ⊢
  have hm := move_dat a.out hb hp ha.sending
  have hmi := moveF_inv (a.out.map (datFr a.boot (baseOf a.out))) hb
  refine ⟨hm.1, ?_⟩
  have hl := ha.outL
  have hbl : (newLife b a.boot).acks = [] := by unfold newLife; split <;> simp [hbk]
  have hnil : a.out = [] → (moveF b (a.out.map (datFr a.boot (baseOf a.out)))).1 = b := fun c => by rw [c]; rfl
  have hA : (moveF b (a.out.map (datFr a.boot (baseOf a.out)))).1.acks = a.out.map (fun h => (a.boot, h.num)) := by
    refine took_acks hm.2 hbl hl ?_ hbk hnil
    by_cases c : a.out = []
    · exact Or.inr c
    · exact Or.inl (hm.2.peer c)
  have hP : (moveF b (a.out.map (datFr a.boot (baseOf a.out)))).1.peer ≤ a.boot := by
    by_cases c : a.out = []
    · rw [hnil c]; exact hp
    · rw [hm.2.peer c]; omega
  have hO : (moveF b (a.out.map (datFr a.boot (baseOf a.out)))).1.out = [] := hm.2.out.trans hbo
  have hbe : LinkInv { (moveF b (a.out.map (datFr a.boot (baseOf a.out)))).1 with acks := [] } :=
    ⟨hmi.boot, hmi.retry, hmi.next, hmi.outN, hmi.inc, hmi.near, by simp, by simp, hmi.peer, hmi.low, hmi.seen⟩
  generalize moveF b (a.out.map (datFr a.boot (baseOf a.out))) = m at *
  rw [emit_idle hO, hA]
  simp only []
  have hbnd : ∀ o ∈ a.out.map (fun h => (a.boot, h.num)), (1 ≤ o.1 ∧ o.1 ≤ 1099511627776) ∧ 1 ≤ o.2 ∧ o.2 ≤ 1099511627776 := by rw [← hA]; exact hmi.acksN
  have hmv := move_acks (a.out.map (fun h => (a.boot, h.num))) { a with acks := [], out := a.out.map (fun h => { h with sent := true, time := now }) } hbnd hi.inc
  have hmi2 := moveF_inv ((a.out.map (fun h => (a.boot, h.num))).map ackFr) hi
  rw [hmv] at hmi2 ⊢
  have hd := acks_drop a.boot a.out ha.inc a.out.length (fun h => { h with sent := true, time := now }) (fun _ => rfl)
  rw [List.take_length, List.drop_length, List.map_nil] at hd
  exact ⟨hd, rfl, rfl, rfl, rfl, hmi2, rfl, hO, hP, hbe⟩

end Go.Proofs.Ytlpdoefbjhlegaa
