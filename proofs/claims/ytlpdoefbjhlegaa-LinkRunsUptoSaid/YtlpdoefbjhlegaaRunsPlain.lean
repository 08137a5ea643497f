/-
  THE DOCUMENT'S END, in plain Lean; it agrees with the program's.
-/
import Derived.Test.YtlpdoefbjhlegaaLinkOnceP
namespace Go.Proofs.Ytlpdoefbjhlegaa
open Go.RowKit
attribute [local irreducible] parse numL

/-! ### The document's end, in plain Lean -/

structure RL where
  boot : Int
  retry : Int
  next : Int
  out : List OutH
  acks : List (Int × Int)
  peer : Int
  below : Int
  came : List Int
def newR (boot retry : Int) : RL := ⟨max 1 (min boot 1099511627776), max 1 (min retry 1048576), 1, [], [], 0, 0, []⟩
def fullR (m : RL) : Bool := match m.out with
  | [] => false
  | h :: _ => decide (h.num + 32 ≤ m.next)
def sendR (m : RL) (d : List UInt8) : RL × Nat := if 65472 < d.length then (m, 12) else if fullR m = true then (m, 64) else ({ m with out := m.out ++ [⟨m.next, d, false, 0⟩], next := m.next + 1 }, 0)
def emitR (m : RL) (now : Int) : RL × List (List UInt8) :=
  ({ m with acks := [], out := m.out.map (updH m.retry now) }, m.acks.map ackFr ++ (m.out.filter (fun h => !skipH m.retry now h)).map (datFr m.boot (baseOf m.out)))
def hasR (m : RL) (k : Int) : Bool := m.came.contains k
def lowR (m : RL) : Int := sweepTo (hasR m) m.below
def lifeR (m : RL) (mb : Int) : RL := if m.peer < mb then { m with peer := mb, came := [], below := 0, acks := [] } else m
def baseR (m : RL) (base : Int) : RL := if lowR m < base - 1 then { m with below := base - 1 } else m
def ackR (m : RL) (mb mn : Int) : RL := if m.acks.length < 32 then { m with acks := m.acks ++ [(mb, mn)] } else m
def takeR (m : RL) (mn : Int) : RL × Bool := if hasR m mn = true ∨ mn ≤ m.below then (m, false) else ({ m with came := m.came ++ [mn] }, true)
def freshR (m : RL) (mb mn base : Int) : RL × Bool :=
  if mb < m.peer then (m, false)
  else if lowR (baseR (lifeR m mb) base) + 64 < mn then (baseR (lifeR m mb) base, false)
  else takeR (ackR (baseR (lifeR m mb) base) mb mn) mn
def goneR (m : RL) (mb mn : Int) : RL := { m with out := m.out.filter (fun h => !(decide (mb = m.boot) && decide (h.num = mn))) }
def inR (m : RL) (f : Fr) : RL × List UInt8 × Bool × Nat :=
  if f.bad ≠ 0 then (m, [], false, f.bad)
  else if f.kind = 0 ∨ f.boot = 0 ∨ f.num = 0 ∨ f.base = 0 ∨ f.num < f.base then (m, [], false, 26)
  else if f.kind = 2 then (goneR m f.boot f.num, [], false, 0)
  else if (freshR m f.boot f.num f.base).2 then ((freshR m f.boot f.num f.base).1, f.data, true, 0) else ((freshR m f.boot f.num f.base).1, [], false, 0)

theorem sweepF_stop (S : Int → Bool) (M : Int) (hS : ∀ k, S k = true → k ≤ M) : ∀ (n : Nat) (x : Int), M - x < n → S (sweepF S n x + 1) = false
  | 0, x, h => by
    simp only [sweepF]
    refine Bool.eq_false_iff.2 (fun c => ?_)
    have := hS _ c
    omega
  | n + 1, x, h => by
    unfold sweepF
    split
    · exact sweepF_stop S M hS n (x + 1) (by omega)
    · rename_i c
      simpa using c

/-- The two ends agree. -/
structure Sim (s : LS) (m : RL) : Prop where
  boot : m.boot = s.boot
  retry : m.retry = s.retry
  next : m.next = s.next
  out : m.out = s.out
  acks : m.acks = s.acks
  peer : m.peer = s.peer
  heard : ∀ k, rcv s k = (decide (k ≤ m.below) || hasR m k)
  stop : rcv s (s.low + 1) = false
  below : 0 ≤ m.below ∧ m.below ≤ 1099511627776
  came : ∀ k ∈ m.came, k ≤ 1099511627776

theorem sim_new (boot retry : Int) : Sim (newLS boot retry) (newR boot retry) :=
  ⟨rfl, rfl, rfl, rfl, rfl, rfl, fun k => by unfold rcv newLS newR hasR; simp only [List.contains_nil], by unfold rcv newLS; rfl, by simp [newR], by simp [newR]⟩
theorem Sim.fullE {s : LS} {m : RL} (h : Sim s m) : fullR m = full s := by
  unfold fullR full
  rw [h.out, h.next]
  cases s.out with
  | nil => rfl
  | cons a r =>
    simp only []
    by_cases c : a.num + 32 ≤ s.next
    · rw [decide_eq_true c, decide_eq_true (by omega)]
    · rw [decide_eq_false c, decide_eq_false (by omega)]
theorem Sim.send {s : LS} {m : RL} (h : Sim s m) (d : List UInt8) : (sendR m d).2 = (sendF s d).2 ∧ Sim (sendF s d).1 (sendR m d).1 := by
  unfold sendR sendF
  rw [h.fullE]
  split
  · exact ⟨rfl, h⟩
  · split
    · exact ⟨rfl, h⟩
    · exact ⟨rfl, h.boot, h.retry, by show m.next + 1 = s.next + 1; rw [h.next], by show m.out ++ _ = s.out ++ _; rw [h.out, h.next], h.acks, h.peer, h.heard, h.stop, h.below, h.came⟩
theorem Sim.emit {s : LS} {m : RL} (h : Sim s m) (now : Int) : (emitR m now).2 = (emitF s now).2 ∧ Sim (emitF s now).1 (emitR m now).1 := by
  unfold emitR emitF
  refine ⟨by rw [h.acks, h.out, h.retry, h.boot], h.boot, h.retry, h.next, by show m.out.map _ = s.out.map _; rw [h.out, h.retry], rfl, h.peer, h.heard, h.stop, h.below, h.came⟩

theorem sweep_swept {S : Int → Bool} {x : Int} (hS : ∀ k, S k = true → k ≤ 1099511627776) (h0 : 0 ≤ x) : (∀ k, k ≤ sweepTo S x → k ≤ x ∨ S k = true) ∧ S (sweepTo S x + 1) = false ∧ x ≤ sweepTo S x := by
  refine ⟨fun k hk => ?_, sweepF_stop S 1099511627776 hS _ x (by omega), sweepF_ge S _ x⟩
  by_cases c : k ≤ x
  · exact Or.inl c
  · exact Or.inr (sweepF_all S _ x k (by omega) hk)
theorem Sim.has {s : LS} {m : RL} (h : Sim s m) : ∀ k, hasR m k = true → k ≤ 1099511627776 := fun k hk => h.came k (List.contains_iff_mem.1 hk)
theorem Sim.low {s : LS} {m : RL} (h : Sim s m) : lowR m = s.low := by
  obtain ⟨h1, h2, h3⟩ := sweep_swept h.has h.below.1
  change ∀ k, k ≤ lowR m → _ at h1
  change hasR m (lowR m + 1) = false at h2
  change m.below ≤ lowR m at h3
  have a1 : ∀ k, k ≤ lowR m → Proofs.Ytlpdoefbjhlegaa.rcv s k = true := fun k hk => by
    rw [h.heard]
    rcases h1 k hk with c | c
    · rw [decide_eq_true c]; rfl
    · rw [c, Bool.or_true]
  have a2 : Proofs.Ytlpdoefbjhlegaa.rcv s (lowR m + 1) = false := by
    rw [h.heard, h2, decide_eq_false (by omega)]; rfl
  have b1 : ∀ k, k ≤ s.low → Proofs.Ytlpdoefbjhlegaa.rcv s k = true := fun k hk => by unfold Proofs.Ytlpdoefbjhlegaa.rcv; rw [decide_eq_true hk]; rfl
  have b2 := h.stop
  by_cases c : lowR m < s.low
  · rw [b1 _ (by omega)] at a2; cases a2
  · by_cases d : s.low < lowR m
    · rw [a1 _ (by omega)] at b2; cases b2
    · omega

theorem swept_stop {s : LS} (hS : ∀ k, s.seen k = true → k ≤ 1099511627776) {x : Int} (h0 : 0 ≤ x) : rcv (swept s x) ((swept s x).low + 1) = false := by
  have h2 := (sweep_swept hS h0).2.1
  show (decide (sweepTo s.seen x + 1 ≤ sweepTo s.seen x) || (s.seen (sweepTo s.seen x + 1) && decide (sweepTo s.seen x < sweepTo s.seen x + 1))) = false
  rw [h2, decide_eq_false (by omega)]; rfl

theorem Sim.life {s : LS} {m : RL} (h : Sim s m) (mb : Int) : Sim (newLife s mb) (lifeR m mb) := by
  unfold newLife lifeR
  rw [h.peer]
  split
  · exact ⟨h.boot, h.retry, h.next, h.out, rfl, rfl, fun k => by simp [Proofs.Ytlpdoefbjhlegaa.rcv, hasR], by simp [Proofs.Ytlpdoefbjhlegaa.rcv], by simp, by simp⟩
  · exact h
theorem Sim.base {n : LS} {m : RL} (h : Sim n m) (hi : LinkInv n) {base : Int} (hb : 1 ≤ base ∧ base ≤ 1099511627776) : Sim (swept n (max n.low (base - 1))) (baseR m base) := by
  have hl := h.low
  have hlow := hi.low
  have hst := swept_stop (s := n) (fun k hk => (hi.seen k hk).2) (x := max n.low (base - 1)) (by omega)
  have hr : ∀ k, Proofs.Ytlpdoefbjhlegaa.rcv (swept n (max n.low (base - 1))) k = (Proofs.Ytlpdoefbjhlegaa.rcv n k || decide (k < base)) := fun k => by
    rw [rcv_swept]
    unfold Proofs.Ytlpdoefbjhlegaa.rcv
    by_cases c1 : k ≤ n.low <;> by_cases c2 : k < base
    · rw [decide_eq_true c1, decide_eq_true c2, decide_eq_true (by omega)]; simp
    · rw [decide_eq_true c1, decide_eq_false c2, decide_eq_true (by omega)]; simp
    · rw [decide_eq_false c1, decide_eq_true c2, decide_eq_true (by omega)]; simp
    · rw [decide_eq_false c1, decide_eq_false c2, decide_eq_false (by omega)]; simp
  have hbl : m.below ≤ lowR m := (sweep_swept h.has h.below.1).2.2
  unfold baseR
  split
  · rename_i c
    refine ⟨h.boot, h.retry, h.next, h.out, h.acks, h.peer, fun k => ?_, hst, by simp only []; omega, h.came⟩
    rw [hr k, h.heard k]
    show _ = (decide (k ≤ base - 1) || hasR m k)
    by_cases c2 : k < base
    · rw [decide_eq_true c2, decide_eq_true (show k ≤ base - 1 by omega)]; simp
    · rw [decide_eq_false c2, decide_eq_false (show ¬ k ≤ base - 1 by omega), decide_eq_false (show ¬ k ≤ m.below by omega)]; simp
  · rename_i c
    refine ⟨h.boot, h.retry, h.next, h.out, h.acks, h.peer, fun k => ?_, hst, h.below, h.came⟩
    rw [hr k, ← h.heard k]
    by_cases c2 : k < base
    · have : Proofs.Ytlpdoefbjhlegaa.rcv n k = true := by unfold Proofs.Ytlpdoefbjhlegaa.rcv; rw [decide_eq_true (by omega)]; rfl
      rw [this]; rfl
    · rw [decide_eq_false c2, Bool.or_false]
theorem Sim.ack {t : LS} {m : RL} (h : Sim t m) (mb mn : Int) : Sim (acking t mb mn) (ackR m mb mn) := by
  unfold acking ackR
  rw [h.acks]
  split
  · exact ⟨h.boot, h.retry, h.next, h.out, rfl, h.peer, h.heard, h.stop, h.below, h.came⟩
  · exact h
theorem Sim.fresh {s : LS} {m : RL} (h : Sim s m) (hi : LinkInv s) {mb mn base : Int} (hm : 1 ≤ mb ∧ mb ≤ 1099511627776) (hn : mn ≤ 1099511627776) (hb : 1 ≤ base ∧ base ≤ mn) :
    (freshR m mb mn base).2 = (freshF s mb mn base).2 ∧ Sim (freshF s mb mn base).1 (freshR m mb mn base).1 := by
  unfold freshR freshF
  rw [h.peer]
  split
  · exact ⟨rfl, h⟩
  · have h1 := (h.life mb).base (newLife_inv hi mb hm) (base := base) (by omega)
    have hti := swept_inv (newLife_inv hi mb hm) (max (newLife s mb).low (base - 1)) (by have := (newLife_inv hi mb hm).low; omega)
    generalize swept (newLife s mb) (max (newLife s mb).low (base - 1)) = t at *
    generalize baseR (lifeR m mb) base = u at *
    unfold fresh2
    rw [h1.low]
    split
    · exact ⟨rfl, h1⟩
    · have h2 := h1.ack mb mn
      have ha : ∀ k, Proofs.Ytlpdoefbjhlegaa.rcv (acking t mb mn) k = Proofs.Ytlpdoefbjhlegaa.rcv t k := fun k => by unfold acking; split <;> rfl
      have hse : (acking t mb mn).seen = t.seen := by unfold acking; split <;> rfl
      have hlo : (acking t mb mn).low = t.low := by unfold acking; split <;> rfl
      have hc : (mn ≤ t.low ∨ t.seen mn = true) ↔ (hasR (ackR u mb mn) mn = true ∨ mn ≤ (ackR u mb mn).below) := by
        have e1 := h2.heard mn
        rw [ha] at e1
        constructor
        · intro c
          have : Proofs.Ytlpdoefbjhlegaa.rcv t mn = true := by
            unfold Proofs.Ytlpdoefbjhlegaa.rcv
            rcases c with c | c
            · rw [decide_eq_true c]; rfl
            · rw [c, Bool.or_true]
          rw [this] at e1
          have := e1.symm
          rw [Bool.or_eq_true, decide_eq_true_eq] at this
          exact this.symm
        · intro c
          have : (decide (mn ≤ (ackR u mb mn).below) || hasR (ackR u mb mn) mn) = true := by
            rcases c with c | c
            · rw [c, Bool.or_true]
            · rw [decide_eq_true c]; rfl
          rw [this] at e1
          unfold Proofs.Ytlpdoefbjhlegaa.rcv at e1
          rw [Bool.or_eq_true, decide_eq_true_eq] at e1
          exact e1
      unfold takeR
      by_cases c : mn ≤ t.low ∨ t.seen mn = true
      · rw [if_pos c, if_pos (hc.1 c)]
        exact ⟨rfl, h2⟩
      · rw [if_neg c, if_neg (fun d => c (hc.2 d))]
        refine ⟨rfl, h2.boot, h2.retry, h2.next, h2.out, h2.acks, h2.peer, fun k => ?_, ?_, h2.below, ?_⟩
        · unfold taking
          rw [rcv_swept]
          show (decide (k ≤ (acking t mb mn).low) || ((acking t mb mn).seen k || decide (k = mn))) = (decide (k ≤ (ackR u mb mn).below) || ((ackR u mb mn).came ++ [mn]).contains k)
          have e1 := h2.heard k
          unfold Proofs.Ytlpdoefbjhlegaa.rcv at e1
          rw [← Bool.or_assoc, e1]
          unfold hasR
          rw [Bool.or_assoc]
          congr 1
          by_cases ck : k = mn
          · subst ck; simp
          · simp [ck]
        · unfold taking
          refine swept_stop (s := { acking t mb mn with seen := fun k => (acking t mb mn).seen k || decide (k = mn) }) (fun k hk => ?_) (by rw [hlo]; have := hti.low; omega)
          simp only [Bool.or_eq_true, decide_eq_true_eq] at hk
          rcases hk with hk | rfl
          · rw [hse] at hk; exact (hti.seen k hk).2
          · exact hn
        · intro k hk
          simp only [List.mem_append, List.mem_singleton] at hk
          rcases hk with hk | rfl
          · exact h2.came k hk
          · exact hn
theorem Sim.gone {s : LS} {m : RL} (h : Sim s m) (hi : LinkInv s) (mb mn : Int) : Sim (ackedF s mb mn) (goneR m mb mn) := by
  have e : (ackedF s mb mn).out = m.out.filter (fun o => !(decide (mb = m.boot) && decide (o.num = mn))) := by
    unfold ackedF
    rw [h.out, h.boot]
    split
    · rename_i c
      simp only []
      rw [dropNum_filter mn s.out hi.inc]
      refine List.filter_congr (fun o _ => ?_)
      rw [decide_eq_true c, Bool.true_and]
      by_cases d : o.num = mn <;> simp [d]
    · rename_i c
      symm
      rw [List.filter_eq_self]
      intro o _
      rw [decide_eq_false c]; rfl
  have hb : (ackedF s mb mn).boot = s.boot ∧ (ackedF s mb mn).retry = s.retry ∧ (ackedF s mb mn).next = s.next ∧ (ackedF s mb mn).acks = s.acks ∧ (ackedF s mb mn).peer = s.peer ∧ (ackedF s mb mn).low = s.low ∧ (∀ k, Proofs.Ytlpdoefbjhlegaa.rcv (ackedF s mb mn) k = Proofs.Ytlpdoefbjhlegaa.rcv s k) := by
    unfold ackedF; split <;> exact ⟨rfl, rfl, rfl, rfl, rfl, rfl, fun _ => rfl⟩
  obtain ⟨b1, b2, b3, b4, b5, b6, b7⟩ := hb
  exact ⟨h.boot.trans b1.symm, h.retry.trans b2.symm, h.next.trans b3.symm, e.symm, h.acks.trans b4.symm, h.peer.trans b5.symm, fun k => (b7 k).trans (h.heard k), by rw [b7, b6]; exact h.stop, h.below, h.came⟩
theorem Sim.inn {s : LS} {m : RL} (h : Sim s m) (hi : LinkInv s) (fr : Fr) (h1 : fr.boot ≤ 1099511627776) (h2 : fr.num ≤ 1099511627776) :
    (inR m fr).2 = (inF s fr).2 ∧ Sim (inF s fr).1 (inR m fr).1 := by
  unfold inR inF
  split
  · exact ⟨rfl, h⟩
  · split
    · exact ⟨rfl, h⟩
    · split
      · exact ⟨rfl, h.gone hi _ _⟩
      · have hf := h.fresh hi (mb := fr.boot) (mn := fr.num) (base := fr.base) (by omega) (by omega) (by omega)
        rw [hf.1]
        split
        · exact ⟨rfl, hf.2⟩
        · exact ⟨rfl, hf.2⟩

end Go.Proofs.Ytlpdoefbjhlegaa
