/-
  The texts AccBytes, AccParseP, AccCopy, RowSet in one: what the claim reaches of them.
-/
import Derived.Test.YtgbgbokcohfnpaaGreatP17
import Derived.Test.YtgbgbokcohfnpaaGreatP18
import Derived.Test.YtgbgbokcohfnpaaGreatP06
import Derived.Test.YtgbgbokcohfnpaaGreatP07
import Derived.Test.YtgbgbokcohfnpaaGreatP16
/-
  WALKS: value.PutCmd, value.Write, a record's bytes.
-/
namespace Go.Proofs.YtgbgbokcohfnpaaGreat
open Go.RowKit

/-! ### How long -/

theorem numL_len (u : Nat) : (numL u).length ≤ 9 := by rw [length_numL]; have := sizeN_le u; omega
theorem flat_len {α : Type} (f : α → List UInt8) (k : Nat) (l : List α) (h : ∀ x ∈ l, (f x).length ≤ k) : (l.map f).flatten.length ≤ l.length * k := by
  induction l with
  | nil => simp
  | cons a r ih =>
    have h1 := h a (List.mem_cons_self ..)
    have h2 := ih (fun x hx => h x (List.mem_cons_of_mem _ hx))
    rw [List.map_cons, List.flatten_cons, List.length_append, List.length_cons, Nat.succ_mul]
    omega
theorem intsL_len (ns : List Int) : (intsL ns).length ≤ ns.length * 9 := flat_len _ 9 ns (fun _ _ => numL_len _)
theorem natsL_len (ns : List Int) : (natsL ns).length ≤ ns.length * 9 := flat_len _ 9 ns (fun _ _ => numL_len _)
theorem cmdL_len (c : CmdR) : (cmdL c).length ≤ 72 := intsL_len _
theorem cmdsL_len (cs : List CmdR) : (cmdsL cs).length ≤ cs.length * 72 := flat_len _ 72 cs (fun c _ => cmdL_len c)
theorem valL_len {v : ValR} (h : valF v = 0) : (valL v).length ≤ 700 := by
  have h1 := valF_cmds h
  have h2 := valF_next h
  have h3 := cmdsL_len v.cmds
  have h4 := natsL_len v.next
  have h5 := numL_len v.kind.toNat
  have h6 := numL_len v.cmds.length
  have h7 := numL_len v.next.length
  unfold valL
  simp only [List.length_append]
  omega
theorem recL_len {x : RecR} (h : valF x.val = 0) : (recL x).length ≤ 800 := by
  have h1 := natsL_len [x.kind, x.epoch, x.slot, x.bal.round, x.bal.node]
  have h2 := valL_len h
  simp only [List.length_cons, List.length_nil] at h1
  unfold recL
  rw [List.length_append]
  split
  · omega
  · simp only [List.length_nil]; omega
theorem okOp_bd {o : OpV} (h : okOp o = true) : (1 ≤ o.kind ∧ o.kind ≤ 7) ∧ (0 ≤ o.reg ∧ o.reg ≤ 7) ∧ (0 ≤ o.tgt ∧ o.tgt ≤ 7) ∧ (-1048576 ≤ o.re ∧ o.re ≤ 1048576) ∧ (-1048576 ≤ o.im ∧ o.im ≤ 1048576) := by
  unfold okOp at h
  rw [Bool.and_eq_true] at h
  obtain ⟨h1, h2⟩ := h
  have h1 := of_decide_eq_true h1
  have ht : o.tgt ≤ 7 := by
    have := h1.2.2.2.2.2
    split at this
    · omega
    · split at this <;> omega
  refine ⟨⟨h1.1, h1.2.1⟩, ⟨h1.2.2.1, h1.2.2.2.1⟩, ⟨h1.2.2.2.2.1, ht⟩, ?_⟩
  split at h2
  · have := rB_bound h2
    exact this
  · have := of_decide_eq_true h2
    omega
theorem cmdNs_bd {c : CmdR} (h : cmdF c = 0) : ∀ n ∈ cmdNs c, -9223372036854775808 ≤ n ∧ n ≤ 9223372036854775807 := by
  obtain ⟨h1, h2, h3, h4, h5, h6, h7⟩ := cmdF_in h
  obtain ⟨⟨b1, b2⟩, ⟨b3, b4⟩, ⟨b5, b6⟩, ⟨b7, b8⟩, b9, b10⟩ := okOp_bd h7
  intro n hn
  unfold cmdNs at hn
  simp only [List.mem_cons, List.not_mem_nil, or_false] at hn
  rcases hn with rfl | rfl | rfl | rfl | rfl | rfl | rfl | rfl <;> omega

/-! ### A writer made since -/

/-- A writer whose blocks, F, are newer than W0; nothing of W0 has changed. -/
structure WrN (W0 : World) (F : Nat → Prop) (w : World) (p : Nat) (l : List UInt8) : Prop where
  wr : Wr F w p l
  new : ∀ j, F j → W0.heap.size ≤ j ∧ j < w.heap.size
  kp : Kp Noone W0 w
theorem WrN.keep {W0 w w' : World} {F : Nat → Prop} {p : Nat} {l : List UInt8} (h : WrN W0 F w p l) (k : Kp Noone w w') : WrN W0 F w' p l := ⟨h.wr.keep k, fun j a => ⟨(h.new j a).1, Nat.lt_of_lt_of_le (h.new j a).2 k.size⟩, h.kp.trans k⟩
/-- What writing leaves: the writer's own blocks alone change. -/
structure WrTo (W0 : World) (F : Nat → Prop) (w : World) (p : Nat) (l : List UInt8) (w' : World) : Prop where
  ex : ∃ F', WrN W0 F' w' p l ∧ ∀ j, F' j → F j ∨ w.heap.size ≤ j
  kp : Kp F w w'
theorem WrTo.refl {W0 w : World} {F : Nat → Prop} {p : Nat} {l : List UInt8} (h : WrN W0 F w p l) : WrTo W0 F w p l w := ⟨⟨F, h, fun _ a => Or.inl a⟩, Kp.refl _ _⟩
theorem WrTo.keep {W0 w w' w2 : World} {F : Nat → Prop} {p : Nat} {l : List UInt8} (h : WrTo W0 F w p l w') (k : Kp Noone w' w2) : WrTo W0 F w p l w2 := by
  obtain ⟨⟨F', h1, h2⟩, h3⟩ := h
  exact ⟨⟨F', h1.keep k, h2⟩, h3.trans (k.none)⟩
theorem WrTo.post {W0 w w' w2 : World} {F F' : Nat → Prop} {p : Nat} {l l' : List UInt8} {e : Ending} (k : Kp F w w') (h : WrN W0 F' w' p l) (hf : ∀ j, F' j → F j ∨ w.heap.size ≤ j) (q : WrPost F' w' p l' e w2) : e = .returned (.pointer (some ⟨p, 0, none⟩)) ∧ WrTo W0 F w p l' w2 := by
  obtain ⟨q1, q2, q3⟩ := q
  have hs := h.kp.size
  refine ⟨q1, ⟨⟨_, ⟨q2, fun j d => ?_, h.kp.fin q3 (fun j d => Or.inr (h.new j d).1)⟩, fun j d => ?_⟩, k.trans' q3 (fun j hj d => ?_)⟩⟩
  · rcases d with d | d
    · have := h.new j d
      have := q3.size
      omega
    · omega
  · rcases d with d | d
    · exact hf j d
    · have := k.size; exact Or.inr (by omega)
  · rcases hf j d with a | a
    · exact a
    · omega
theorem WrTo.num {W0 w w' : World} {F : Nat → Prop} {p : Nat} {l : List UInt8} (h : WrTo W0 F w p l w') (u : Nat) (hu : W64 u) (hl : l.length ≤ 140737488355000) :
    Calls Tryz.prog 135 #[.pointer (some ⟨p, 0, none⟩), .int .u64 (u : Int)] w' fun e w2 => e = .returned (.pointer (some ⟨p, 0, none⟩)) ∧ WrTo W0 F w p (l ++ numL u) w2 := by
  obtain ⟨⟨F', h1, h2⟩, h3⟩ := h
  exact (writerNum_any _ p l u w' h1.wr hu hl).mono (fun _ _ q => WrTo.post h3 h1 h2 q)
theorem WrTo.int {W0 w w' : World} {F : Nat → Prop} {p : Nat} {l : List UInt8} (h : WrTo W0 F w p l w') (i : Int) (h0 : -9223372036854775808 ≤ i ∧ i ≤ 9223372036854775807) (hl : l.length ≤ 140737488355000) :
    Calls Tryz.prog 201 #[.pointer (some ⟨p, 0, none⟩), .int .i64 i] w' fun e w2 => e = .returned (.pointer (some ⟨p, 0, none⟩)) ∧ WrTo W0 F w p (l ++ numL (foldN i)) w2 := by
  obtain ⟨⟨F', h1, h2⟩, h3⟩ := h
  exact (writerInt_any _ p l i w' h1.wr h0.1 h0.2 hl).mono (fun _ _ q => WrTo.post h3 h1 h2 q)
theorem newWriter_n (w : World) : Calls Tryz.prog 134 #[] w fun e w' => ∃ p, e = .returned (.pointer (some ⟨p, 0, none⟩)) ∧ WrTo w Noone w p [] w' :=
  (newWriter_any w).mono (fun _ _ ⟨p, h1, h2, h3, _h4⟩ => ⟨p, h1, ⟨⟨_, ⟨h2, fun _j d => d.none, h3⟩, fun _j d => Or.inr d.none.1⟩, h3⟩⟩)
theorem run_index_cmd (c : CmdR) (i : Nat) (hi : i < 8) (W : World) :
    (Instr.index 292 (.agg #[.int .i64 c.sess, .int .i64 c.seq, .int .i64 c.ack, .int .i64 c.op.kind, .int .i64 c.op.reg, .int .i64 c.op.tgt, .int .i64 c.op.re, .int .i64 c.op.im]) (.int .i64 (i : Int))).run Tryz.prog W = .ok (.int .i64 ((cmdNs c).getD i 0)) W := by
  have h1 : (0 : Int) ≤ (i : Int) ∧ (i : Int) < 8 := by omega
  have hv : (cmdNs c).getD i 0 = (cmdNs c)[i]'(by simpa [cmdNs] using hi) := by
    rw [List.getD_eq_getElem?_getD, List.getElem?_eq_getElem (by simpa [cmdNs] using hi)]
    rfl
  rw [hv]
  simp only [Instr.index, asIntOf, Sem.run_bind, Sem.run_pure, Result.andThen_ok, run_underlying Tryz.underlying292, part]
  rcases (by omega : i = 0 ∨ i = 1 ∨ i = 2 ∨ i = 3 ∨ i = 4 ∨ i = 5 ∨ i = 6 ∨ i = 7) with rfl | rfl | rfl | rfl | rfl | rfl | rfl | rfl <;> simp [cmdNs]
theorem intsL_step (ns : List Int) (j : Nat) (h : j < ns.length) : intsL (ns.take (j + 1)) = intsL (ns.take j) ++ numL (foldN (ns.getD j 0)) := by
  rw [List.take_succ_eq_append_getElem h]
  unfold intsL
  rw [List.map_append, List.flatten_append, List.getD_eq_getElem?_getD, List.getElem?_eq_getElem h]
  simp
theorem natsL_step (ns : List Int) (j : Nat) (h : j < ns.length) : natsL (ns.take (j + 1)) = natsL (ns.take j) ++ numL ns[j].toNat := by
  rw [List.take_succ_eq_append_getElem h]
  unfold natsL
  rw [List.map_append, List.flatten_append]
  simp
theorem cmdsL_step (cs : List CmdR) (j : Nat) (h : j < cs.length) : cmdsL (cs.take (j + 1)) = cmdsL (cs.take j) ++ cmdL cs[j] := by
  rw [List.take_succ_eq_append_getElem h]
  unfold cmdsL
  rw [List.map_append, List.flatten_append]
  simp
set_option maxHeartbeats 2000000 in
set_option maxRecDepth 100000 in
theorem putCmd_n (W0 w : World) (F : Nat → Prop) (p : Nat) (l : List UInt8) (c : CmdR) (h : WrN W0 F w p l) (hc : cmdF c = 0) (hl : l.length ≤ 1048576) :
    Calls Tryz.prog 172 #[.pointer (some ⟨p, 0, none⟩), .agg #[.int .i64 c.sess, .int .i64 c.seq, .int .i64 c.ack, .int .i64 c.op.kind, .int .i64 c.op.reg, .int .i64 c.op.tgt, .int .i64 c.op.re, .int .i64 c.op.im]] w fun e w' => e = .returned (.tuple #[]) ∧ WrTo W0 F w p (l ++ cmdL c) w' := by
  have HBD := Lib.hid (cmdNs_bd hc)
  have hri := fun i hi W => run_index_cmd c i hi W
  have HCL : Hid (cmdL c = intsL (cmdNs c)) := Lib.hid rfl
  have hnl : (cmdNs c).length = 8 := rfl
  have HNL := Lib.hid hnl
  have hb := heap_alloc_new w (.cells #[.int .i64 c.sess, .int .i64 c.seq, .int .i64 c.ack, .int .i64 c.op.kind, .int .i64 c.op.reg, .int .i64 c.op.tgt, .int .i64 c.op.re, .int .i64 c.op.im] 41)
  have H := Lib.hid ((WrTo.refl h).keep ((Kp.refl Noone w).alloc (.cells #[.int .i64 c.sess, .int .i64 c.seq, .int .i64 c.ack, .int .i64 c.op.kind, .int .i64 c.op.reg, .int .i64 c.op.tgt, .int .i64 c.op.re, .int .i64 c.op.im] 41)))
  generalize cmdNs c = ns at *
  obtain ⟨s, q, a, o⟩ := c
  obtain ⟨k, r, t, n, m⟩ := o
  simp only [] at hri hb H ⊢
  clear h hc hnl
  go_enter Tryz.func172, Tryz.ntmps172
  go_upto_region 1 with fail
  generalize w.alloc (.cells #[.int .i64 s, .int .i64 q, .int .i64 a, .int .i64 k, .int .i64 r, .int .i64 t, .int .i64 n, .int .i64 m] 41) = w0 at *
  generalize w.heap.size = g at *
  obtain ⟨⟨z0, z1, z2, z3⟩, z4, z5, z6, z7⟩ := cells_8v hb
  clear hb
  go_wp2_with fail
  clear z0 z1 z2 z3 z4 z5 z6 z7
  go_loopw [28] (fun v28 wx => ∃ j : Nat, v28 = .int .i64 (j : Int) ∧ j ≤ 8 ∧ Hid (WrTo W0 F w p (l ++ intsL (ns.take j)) wx)) (fun u _ => (4194305 - intOf u).toNat)
  case atStart => exact ⟨0, rfl, Nat.zero_le _, Lib.hid (by simpa [intsL] using H.out)⟩
  case round =>
    obtain ⟨j, rfl, hj, hw⟩ := hrel
    by_cases hlt : j < 8
    · have hltz : (j : Int) < 8 := by omega
      have hwj : IntKind.i64.wrap ((j : Int) + 1) = (j : Int) + 1 := IntWalk.i64_in _ (by omega)
      have hrj := fun W => hri j hlt W
      have hst := intsL_step ns j (by rw [HNL.out]; exact hlt)
      have hbd : -9223372036854775808 ≤ ns.getD j 0 ∧ ns.getD j 0 ≤ 9223372036854775807 := HBD.out _ (by
        rw [List.getD_eq_getElem?_getD, List.getElem?_eq_getElem (by rw [HNL.out]; exact hlt)]
        exact List.getElem_mem _)
      generalize ns.getD j 0 = x at *
      have hll : (l ++ intsL (ns.take j)).length ≤ 140737488355000 := by
        have h1 := intsL_len (ns.take j)
        have h2 : (ns.take j).length ≤ 8 := by rw [List.length_take]; omega
        rw [List.length_append]
        omega
      have hci := fun W (hW : WrTo W0 F w p (l ++ intsL (ns.take j)) W) => hW.int x hbd hll
      have HST : Hid ((l ++ intsL (ns.take j)) ++ numL (foldN x) = l ++ intsL (ns.take (j + 1))) := Lib.hid (by rw [hst, List.append_assoc])
      rw [HST.out] at hci
      clear hst hbd hll hri HST
      go_wp2_with fail
      refine (hci _ hw.out).mono ?_
      rintro e w2 ⟨rfl, hw2⟩
      have HW2 := Lib.hid hw2
      clear hw2
      go_wp2_with fail
      go_roundw
      case rel => exact ⟨j + 1, rfl, hlt, HW2⟩
      case measure => exact meas_small j 8 hlt (by omega)
    · obtain rfl : j = 8 := by omega
      have HF : Hid (WrTo W0 F w p (l ++ intsL ns) wr) := Lib.hid (by
        have := hw.out
        rwa [List.take_of_length_le (by rw [HNL.out]; exact Nat.le_refl _)] at this)
      clear hlt
      go_wp2_with fail
      go_end0
      exact ⟨rfl, by rw [HCL.out]; exact HF.out⟩

end Go.Proofs.YtgbgbokcohfnpaaGreat

/-
  PLAIN: records read; the state that records make. No program.
-/
namespace Go.Proofs.YtgbgbokcohfnpaaGreat

abbrev RS9 := List UInt8 × Nat
/-! ### As they are read -/

def takeInts : Nat → RS9 → RS9 × List Int
  | 0, r => (r, [])
  | k + 1, r => ((takeInts k (rnum r.1 r.2).1).1, unfoldN (rnum r.1 r.2).2 :: (takeInts k (rnum r.1 r.2).1).2)
def cmdOf : List Int → CmdR
  | [a, b, c, d, e, f, g, h] => ⟨a, b, c, ⟨d, e, f, g, h⟩⟩
  | _ => ⟨0, 0, 0, ⟨0, 0, 0, 0, 0⟩⟩
def takeCmd (r : RS9) : RS9 × CmdR := ((takeInts 8 r).1, cmdOf (takeInts 8 r).2)
def takeCmds : Nat → RS9 → RS9 × List CmdR
  | 0, r => (r, [])
  | k + 1, r => ((takeCmds k (takeCmd r).1).1, (takeCmd r).2 :: (takeCmds k (takeCmd r).1).2)
def takeNs : Nat → RS9 → RS9 × List Int
  | 0, r => (r, [])
  | k + 1, r => ((takeNs k (rcount r.1 r.2 9).1).1, ((rcount r.1 r.2 9).2 : Int) :: (takeNs k (rcount r.1 r.2 9).1).2)
def rc (r : RS9) (most : Int) : RS9 × Nat := rcount r.1 r.2 most
def readV3 (k : Nat) (cs : List CmdR) (x : RS9 × List Int) : RS9 × ValR := (x.1, ⟨k, cs, x.2⟩)
def readV2 (k : Nat) (cs : List CmdR) (m : RS9 × Nat) : RS9 × ValR := readV3 k cs (takeNs m.2 m.1)
def readV1 (k : Nat) (c : RS9 × List CmdR) : RS9 × ValR := readV2 k c.2 (rc c.1 7)
def readV0 (k : Nat) (n : RS9 × Nat) : RS9 × ValR := readV1 k (takeCmds n.2 n.1)
def readV (r : RS9) : RS9 × ValR := readV0 (rc r 2).2 (rc (rc r 2).1 8)
def okRec (x : RecR) : Bool :=
  if x.kind = 1 then decide (x.slot = 0) && validB x.bal
  else if x.kind = 2 then decide (0 < x.slot) && validB x.bal
  else decide (x.bal = bal0) || validB x.bal
def parseR5 (x : RecR) (r : RS9) : Option RecR :=
  if rdone r.1 r.2 ≠ 0 ∨ x.kind = 0 ∨ valF x.val ≠ 0 then none else if okRec x = true then some x else none
def parseR4 (k e s b : Nat) (n : RS9 × Nat) : Option RecR :=
  if k = 2 then parseR5 ⟨k, e, s, ⟨b, n.2⟩, (readV n.1).2⟩ (readV n.1).1 else parseR5 ⟨k, e, s, ⟨b, n.2⟩, val0⟩ n.1
def parseR3 (k e s : Nat) (b : RS9 × Nat) : Option RecR := parseR4 k e s b.2 (rc b.1 9)
def parseR2 (k e : Nat) (s : RS9 × Nat) : Option RecR := parseR3 k e s.2 (rc s.1 1099511627776)
def parseR1 (k : Nat) (e : RS9 × Nat) : Option RecR := parseR2 k e.2 (rc e.1 1099511627776)
def parseR0 (k : RS9 × Nat) : Option RecR := parseR1 k.2 (rc k.1 1099511627776)
def parseRF (d : List UInt8) : Option RecR := parseR0 (rc (d, 0) 3)
/-- The state behind records; none: one of them is none. -/
def replayRs : AcS → List (List UInt8) → Option AcS
  | a, [] => some a
  | a, d :: r => match parseRF d with
    | none => none
    | some x => replayRs (replayA a x) r
def openEA (a : AcS) (e f : Int) : AcS := if a.epoch < e then enterA e f else if e = a.epoch then raiseA a f else a
/-- Open: the state, or the error. -/
def openA (ds : List (List UInt8)) (e f : Int) : Option AcS × Nat :=
  if e < 0 ∨ f < 0 ∨ 1099511627776 < e ∨ 1099511627776 < f then (none, 1)
  else match replayRs (enterA 0 0) ds with
    | none => (none, 26)
    | some a => (some (openEA a e f), 0)

/-! ### Bounds -/

theorem rc_le (r : RS9) (m : Nat) : (rc r m).2 ≤ m := by
  unfold rc rcount
  split
  · exact Nat.zero_le _
  · rename_i h
    have : (max 0 (m : Int)).toNat = m := by omega
    omega
theorem rc_le9 (r : RS9) (m : Int) (M : Nat) (h : m = M) : ((rc r m).2 : Int) ≤ m := by
  subst h
  have := rc_le r M
  omega
theorem length_takeCmds : ∀ (k : Nat) (r : RS9), (takeCmds k r).2.length = k
  | 0, _ => rfl
  | k + 1, r => by rw [takeCmds]; simp [length_takeCmds k]
/-! ### What is written is read -/

theorem rc_num {u : Nat} {m : Int} (hu : u ≤ m) (hm : m ≤ 9223372036854775807) (l : List UInt8) : rc (numL u ++ l, 0) m = ((l, 0), u) := by
  unfold rc rcount
  rw [rnum_num u (by unfold W64; omega), if_neg (by simp only []; omega)]
theorem takeInts_back : ∀ (ns : List Int) (l : List UInt8), (∀ n ∈ ns, -9223372036854775808 ≤ n ∧ n ≤ 9223372036854775807) → takeInts ns.length (intsL ns ++ l, 0) = ((l, 0), ns)
  | [], _, _ => rfl
  | n :: r, l, h => by
    have h1 := h n (List.mem_cons_self ..)
    have e : intsL (n :: r) ++ l = numL (foldN n) ++ (intsL r ++ l) := by unfold intsL; simp
    rw [List.length_cons, takeInts, e, rnum_num _ (foldN_lt n h1.1 h1.2)]
    simp only []
    rw [takeInts_back r l (fun m hm => h m (List.mem_cons_of_mem _ hm)), unfold_fold]
theorem takeCmd_back (c : CmdR) (l : List UInt8) (h : ∀ n ∈ cmdNs c, -9223372036854775808 ≤ n ∧ n ≤ 9223372036854775807) : takeCmd (cmdL c ++ l, 0) = ((l, 0), c) := by
  have := takeInts_back (cmdNs c) l h
  unfold takeCmd cmdL
  rw [show (8 : Nat) = (cmdNs c).length from rfl, this]
  rfl
theorem takeCmds_back : ∀ (cs : List CmdR) (l : List UInt8), (∀ c ∈ cs, ∀ n ∈ cmdNs c, -9223372036854775808 ≤ n ∧ n ≤ 9223372036854775807) → takeCmds cs.length (cmdsL cs ++ l, 0) = ((l, 0), cs)
  | [], _, _ => rfl
  | c :: r, l, h => by
    have e : cmdsL (c :: r) ++ l = cmdL c ++ (cmdsL r ++ l) := by unfold cmdsL; simp
    rw [List.length_cons, takeCmds, e, takeCmd_back c _ (h c (List.mem_cons_self ..))]
    simp only []
    rw [takeCmds_back r l (fun m hm => h m (List.mem_cons_of_mem _ hm))]
theorem takeNs_back : ∀ (ns : List Int) (l : List UInt8), (∀ n ∈ ns, 1 ≤ n ∧ n ≤ 9) → takeNs ns.length (natsL ns ++ l, 0) = ((l, 0), ns)
  | [], _, _ => rfl
  | n :: r, l, h => by
    have h1 := h n (List.mem_cons_self ..)
    have e : natsL (n :: r) ++ l = numL n.toNat ++ (natsL r ++ l) := by unfold natsL; simp
    have e2 := rc_num (u := n.toNat) (m := 9) (by omega) (by omega) (natsL r ++ l)
    unfold rc at e2
    rw [List.length_cons, takeNs, e, e2]
    simp only []
    rw [takeNs_back r l (fun m hm => h m (List.mem_cons_of_mem _ hm))]
    rw [show ((n.toNat : Nat) : Int) = n by omega]
theorem readV_back {v : ValR} (h : valF v = 0) (hc : ∀ c ∈ v.cmds, ∀ n ∈ cmdNs c, -9223372036854775808 ≤ n ∧ n ≤ 9223372036854775807) (l : List UInt8) : readV (valL v ++ l, 0) = ((l, 0), v) := by
  have h1 := valF_cmds h
  have h2 := valF_next h
  have h3 := valF_kind h
  have e : valL v ++ l = numL v.kind.toNat ++ (numL v.cmds.length ++ (cmdsL v.cmds ++ (numL v.next.length ++ (natsL v.next ++ l)))) := by unfold valL; simp
  unfold readV readV0 readV1 readV2 readV3
  rw [e, rc_num (m := 2) (by omega) (by omega)]
  simp only []
  rw [rc_num (m := 8) (by omega) (by omega)]
  simp only []
  rw [takeCmds_back v.cmds _ hc]
  simp only []
  rw [rc_num (m := 7) (by omega) (by omega)]
  simp only []
  rw [takeNs_back v.next l (valF_nextIn h), show ((v.kind.toNat : Nat) : Int) = v.kind by omega]
/-- A record that may be written and read. -/
structure RecW (x : RecR) : Prop where
  ok : RecOk x
  kd : 1 ≤ x.kind
  val : x.kind ≠ 2 → x.val = val0
  right : okRec x = true
theorem valF_ints {v : ValR} (h : valF v = 0) : ∀ c ∈ v.cmds, ∀ n ∈ cmdNs c, -9223372036854775808 ≤ n ∧ n ≤ 9223372036854775807 := by
  intro c hc n hn
  obtain ⟨h1, h2, h3, h4, h5, h6, h7⟩ := cmdF_in (valF_cmd h c hc)
  have h8 : (1 ≤ c.op.kind ∧ c.op.kind ≤ 7) ∧ (0 ≤ c.op.reg ∧ c.op.reg ≤ 7) ∧ (0 ≤ c.op.tgt ∧ c.op.tgt ≤ 7) ∧ (-1048576 ≤ c.op.re ∧ c.op.re ≤ 1048576) ∧ (-1048576 ≤ c.op.im ∧ c.op.im ≤ 1048576) := okOp_bd h7
  unfold cmdNs at hn
  simp only [List.mem_cons, List.not_mem_nil, or_false] at hn
  omega
theorem parseR_back {x : RecR} (h : RecW x) : parseRF (recL x) = some x := by
  obtain ⟨⟨k1, e1, s1, r1, n1, hv⟩, kd, hva, hr⟩ := h
  have e : recL x = numL x.kind.toNat ++ (numL x.epoch.toNat ++ (numL x.slot.toNat ++ (numL x.bal.round.toNat ++ (numL x.bal.node.toNat ++ (if x.kind = 2 then valL x.val else []))))) := by unfold recL natsL; simp
  unfold parseRF parseR0 parseR1 parseR2 parseR3
  rw [e, rc_num (m := 3) (by omega) (by omega)]
  simp only []
  rw [rc_num (m := 1099511627776) (by omega) (by omega)]
  simp only []
  rw [rc_num (m := 1099511627776) (by omega) (by omega)]
  simp only []
  rw [rc_num (m := 1099511627776) (by omega) (by omega)]
  simp only []
  rw [rc_num (m := 9) (by omega) (by omega)]
  obtain ⟨k, ep, s, ⟨rd, nd⟩, v⟩ := x
  simp only at k1 e1 s1 r1 n1 hv kd hva hr ⊢
  have q1 : ((k.toNat : Nat) : Int) = k := by omega
  have q2 : ((ep.toNat : Nat) : Int) = ep := by omega
  have q3 : ((s.toNat : Nat) : Int) = s := by omega
  have q4 : ((rd.toNat : Nat) : Int) = rd := by omega
  have q5 : ((nd.toNat : Nat) : Int) = nd := by omega
  unfold parseR4
  simp only []
  rw [q1, q2, q3, q4, q5]
  by_cases h2 : k = 2
  · rw [if_pos h2, if_pos (by omega)]
    have := readV_back hv (valF_ints hv) []
    rw [List.append_nil] at this
    rw [this]
    simp only []
    unfold parseR5
    rw [if_neg (by simp only [rdone]; simp; exact ⟨by omega, hv⟩), if_pos hr]
  · have hv0 := hva h2
    subst hv0
    rw [if_neg h2, if_neg (by omega)]
    unfold parseR5
    rw [if_neg (by simp only [rdone]; simp; exact ⟨by omega, by decide⟩), if_pos hr]
/-! ### What is read is sound -/

theorem parseR_some {d : List UInt8} {x : RecR} (h : parseRF d = some x) : RecOk x ∧ 1 ≤ x.kind ∧ okRec x = true := by
  unfold parseRF parseR0 parseR1 parseR2 parseR3 at h
  have e1 := rc_le9 (d, 0) 3 3 rfl
  generalize rc (d, 0) 3 = k at *
  have e2 := rc_le9 k.1 1099511627776 1099511627776 rfl
  generalize rc k.1 1099511627776 = e at *
  have e3 := rc_le9 e.1 1099511627776 1099511627776 rfl
  generalize rc e.1 1099511627776 = s at *
  have e4 := rc_le9 s.1 1099511627776 1099511627776 rfl
  generalize rc s.1 1099511627776 = b at *
  have e5 := rc_le9 b.1 9 9 rfl
  generalize rc b.1 9 = n at *
  have core : ∀ (v : ValR) (r : RS9), parseR5 ⟨k.2, e.2, s.2, ⟨b.2, n.2⟩, v⟩ r = some x → RecOk x ∧ 1 ≤ x.kind ∧ okRec x = true := by
    intro v r hp
    unfold parseR5 at hp
    split at hp
    · cases hp
    · rename_i hb
      split at hp
      · rename_i hr
        cases hp
        simp only at hb
        refine ⟨⟨⟨?_, ?_⟩, ⟨?_, ?_⟩, ⟨?_, ?_⟩, ⟨?_, ?_⟩, ⟨?_, ?_⟩, Classical.byContradiction fun c => hb (Or.inr (Or.inr c))⟩, ?_, hr⟩ <;> simp only <;> omega
      · cases hp
  unfold parseR4 at h
  split at h
  · exact core _ _ h
  · exact core _ _ h

end Go.Proofs.YtgbgbokcohfnpaaGreat

/-
  THE WALK of the document's Copy of a value.
-/
namespace Go.Proofs.YtgbgbokcohfnpaaGreat
open Go.RowKit

theorem set1_of3 {w : World} {g e : Nat} {a b c x : Value} (h : w.heap[g]? = some (.cells #[a, b, c] e (0, 0))) : (w.setCell ⟨g, 1, none⟩ x).heap[g]? = some (.cells #[a, x, c] e (0, 0)) ∧ Kp (fun j => j = g) w (w.setCell ⟨g, 1, none⟩ x) :=
  ⟨(heap_set_cell h).trans (by simp), (Kp.refl (fun j => j = g) w).setCell (p := ⟨g, 1, none⟩) (fun _ => rfl) x⟩
theorem set2_of3 {w : World} {g e : Nat} {a b c x : Value} (h : w.heap[g]? = some (.cells #[a, b, c] e (0, 0))) : (w.setCell ⟨g, 2, none⟩ x).heap[g]? = some (.cells #[a, b, x] e (0, 0)) ∧ Kp (fun j => j = g) w (w.setCell ⟨g, 2, none⟩ x) :=
  ⟨(heap_set_cell h).trans (by simp), (Kp.refl (fun j => j = g) w).setCell (p := ⟨g, 2, none⟩) (fun _ => rfl) x⟩
theorem three_newC (w : World) (A B C : Obj) : (((w.alloc A).alloc B).alloc C).heap[w.heap.size]? = some A ∧ (((w.alloc A).alloc B).alloc C).heap[w.heap.size + 1]? = some B ∧ (((w.alloc A).alloc B).alloc C).heap[w.heap.size + 1 + 1]? = some C ∧ Kp Noone w (((w.alloc A).alloc B).alloc C) ∧ (((w.alloc A).alloc B).alloc C).heap.size = w.heap.size + 3 := by
  obtain ⟨h1, h2, k, hs⟩ := two_new w A B
  have e3 := alloc_size ((w.alloc A).alloc B) C
  have kC : Kp Noone ((w.alloc A).alloc B) (((w.alloc A).alloc B).alloc C) := (Kp.refl _ _).alloc _
  have h3 := heap_alloc_new ((w.alloc A).alloc B) C
  rw [hs] at h3 e3
  exact ⟨kC.heap h1 id, kC.heap h2 id, h3, k.trans kC, e3⟩
set_option maxHeartbeats 4000000 in
set_option maxRecDepth 100000 in
theorem refCopy_any (v : ValR) (l : VLoc) (w : World) (h : ValAt w v l) (hb : v.cmds.length * 64 ≤ 140737488355328) (hb2 : v.next.length * 8 ≤ 140737488355328) :
    Calls Tryz.prog 13 #[valV v l] w fun e w' => ∃ m, e = .returned (valV v m) ∧ ValOwn (Ex Noone w w') w' v m ∧ Kp Noone w w' := by
  obtain ⟨k, cs, ns⟩ := v
  obtain ⟨co, cc, no, nc⟩ := l
  obtain ⟨hc, hn⟩ := h
  simp only [] at hc hn hb hb2
  obtain ⟨i0, hi, hz0, hz1, hz2⟩ := info_parts (P := Tryz.prog) (e := 41) (z := .agg #[.int .i64 0, .int .i64 0, .int .i64 0, .int .i64 0, .int .i64 0, .int .i64 0, .int .i64 0, .int .i64 0]) (size := 8) (bytes := 64) (by kernel_rfl)
  obtain ⟨j0, hj, jz0, jz1, jz2⟩ := info_parts (P := Tryz.prog) (e := 3) (z := .int .i64 0) (size := 1) (bytes := 8) (by kernel_rfl)
  unfold valV
  simp only []
  obtain ⟨n, hcn⟩ : ∃ n, cs.length = n := ⟨_, rfl⟩
  obtain ⟨m, hnn⟩ : ∃ n, ns.length = n := ⟨_, rfl⟩
  rw [hcn] at hc hb ⊢
  rw [hnn] at hn hb2 ⊢
  obtain ⟨hx, hy, hz, k0, hsz⟩ := three_newC w (.cells #[.int .i64 k, .slice co n cc, .slice no m nc] 34) (.cells #[.int .i64 0, .slice none 0 0, .slice none 0 0] 34) (.cells #[.int .i64 k, .slice none 0 0, .slice none 0 0] 34)
  have HC := Lib.hid (fun W (kk : Kp Noone w W) => And.intro (hc.keep kk).row (hn.keep kk).row)
  have hlc : (cmdsV cs).length = n * 8 := by rw [length_cmdsV, hcn]
  have hln : (ns.map (Value.int .i64)).length = m * 1 := by rw [List.length_map, hnn, Nat.mul_one]
  have HK := Lib.hid k0
  have HB := Lib.hid (And.intro hb hb2)
  have HLC := Lib.hid (And.intro hcn hnn)
  clear hc hn k0 hb hb2 hcn hnn
  go_enter Tryz.func13, Tryz.ntmps13
  go_upto_region 2 with fail
  generalize (((w.alloc (.cells #[.int .i64 k, .slice co n cc, .slice no m nc] 34)).alloc (.cells #[.int .i64 0, .slice none 0 0, .slice none 0 0] 34)).alloc (.cells #[.int .i64 k, .slice none 0 0, .slice none 0 0] 34)) = wA at *
  have HN : Hid (∀ W, Kp (fun j => j = w.heap.size + 1 ∨ j = w.heap.size + 1 + 1) wA W → Kp Noone w W) := Lib.hid (fun W kk => HK.out.fin kk (fun j d => Or.inr (by omega)))
  have HSZ := Lib.hid hsz
  generalize hg : w.heap.size = g at *
  have HG := Lib.hid hg
  generalize hg1 : g + 1 = g1 at *
  generalize hg2 : g1 + 1 = g2 at *
  have HGG := Lib.hid (And.intro hg1 hg2)
  have HX := Lib.hid hx
  have HY := Lib.hid hy
  obtain ⟨x0, x1, x2⟩ := cells_3v hx
  obtain ⟨z0, z1, z2⟩ := cells_3v hz
  have zf := frz hz
  have hoN : Own Noone wA 41 8 none 0 0 [] := Own.nil _ _ _ _ _
  clear hx hy hsz hg hg1 hg2
  go_wp2_with (at_builtin; refine wpList_append_gen _ rfl (.tmp 8) (.tmp 10) 31 rfl 41 i0 (.agg #[.int .i64 0, .int .i64 0, .int .i64 0, .int .i64 0, .int .i64 0, .int .i64 0, .int .i64 0, .int .i64 0]) 8 64 Tryz.underlying31 hi hz0 hz1 hz2 rfl _ 0 0 rfl co n cc rfl Noone [] hoN (cmdsV cs) hlc (HC.out _ HK.out).1 (cmdsV_one _) (by have := HB.out.1; omega) (by have := HB.out.1; unfold maxLen; omega) ?_)
  intro bo c w1 ho hk
  have HO := Lib.hid ho
  have hz' := hk.heap hz id
  have hs1 := set1_of3 (x := .slice bo n c) hz'
  have HS1 := Lib.hid hs1
  have HK1 := Lib.hid hk
  clear ho z0 z1 z2 zf x0 x1 x2 hs1 hz
  obtain ⟨z0, z1, z2⟩ := cells_3v hz'
  have zf1 := frz hz' 1
  clear hz' hk
  go_upto_region 3 with fail
  generalize w1.setCell ⟨g2, 1, none⟩ (.slice bo n c) = w2 at *
  have HK2 : Hid (Kp (fun j => j = g1 ∨ j = g2) wA w2) := Lib.hid ((HK1.out.none (S := fun j => j = g1 ∨ j = g2)).trans (HS1.out.2.mono (fun _ _ d => Or.inr d)))
  have hx2 := HK2.out.heap HX.out (by have := HGG.out; omega)
  clear z0 z1 z2 zf1
  obtain ⟨x0, x1, x2⟩ := cells_3v hx2
  obtain ⟨z0, z1, z2⟩ := cells_3v HS1.out.1
  have hoN : Own Noone w2 3 1 none 0 0 [] := Own.nil _ _ _ _ _
  clear hx2
  go_wp2_with (at_builtin; refine wpList_append_gen _ rfl (.tmp 14) (.tmp 16) 32 rfl 3 j0 (.int .i64 0) 1 8 Tryz.underlying32 hj jz0 jz1 jz2 rfl _ 0 0 rfl no m nc rfl Noone [] hoN (ns.map (Value.int .i64)) hln (HC.out _ (HN.out _ HK2.out)).2 (ints_one9 _) (by have := HB.out.2; omega) (by have := HB.out.2; unfold maxLen; omega) ?_)
  intro bo2 c2 w3 ho hk
  have HO2 := Lib.hid ho
  have hz' := hk.heap HS1.out.1 id
  have hs1 := set2_of3 (x := .slice bo2 m c2) hz'
  have HS3 := Lib.hid hs1
  have HK3 := Lib.hid hk
  clear ho z0 z1 z2 x0 x1 x2 hs1
  obtain ⟨z0, z1, z2⟩ := cells_3v hz'
  have zf2 := frz hz' 2
  clear hz' hk
  go_upto_region 4 with fail
  generalize w3.setCell ⟨g2, 2, none⟩ (.slice bo2 m c2) = w4 at *
  have HK4 : Hid (Kp (fun j => j = g1 ∨ j = g2) wA w4) := Lib.hid ((HK2.out.trans (HK3.out.none (S := fun j => j = g1 ∨ j = g2))).trans (HS3.out.2.mono (fun _ _ d => Or.inr d)))
  have hy4 := (HS3.out.2.heap ((HK3.out.heap ((HS1.out.2.heap (HK1.out.heap HY.out id) (by have := HGG.out; omega))) id)) (by have := HGG.out; omega))
  clear z0 z1 z2 zf2
  obtain ⟨z0, z1, z2⟩ := cells_3v HS3.out.1
  obtain ⟨y0, y1, y2⟩ := cells_3v hy4
  have yf := frz hy4
  have yf0 := yf 0
  have yf1 := yf 1
  have yf2 := yf 2
  have HT := Lib.hid (three_set (x := .int .i64 k) (y := .slice bo n c) (z := .slice bo2 m c2) hy4)
  clear hy4 yf
  go_wp2_with fail
  refine bodyPost_ret (results_cell_row (p := 2) (ty := 34) rfl _ _ g1 34 _ (0, 0) _ (by rfl) HT.out.1 Tryz.underlying34 rfl (by kernel_rfl)) rfl ?_
  have e1 := HSZ.out
  have e2 := HG.out
  have e3 := HGG.out
  have q1 := HK1.out.size
  have q3 := HS1.out.2.size
  have q4 := HK3.out.size
  have q5 := HS3.out.2.size
  have q6 := HT.out.2.size
  refine ⟨⟨bo, c, bo2, c2⟩, rfl, ⟨?_, ?_⟩, HN.out _ (HK4.out.trans (HT.out.2.mono (fun _ _ d => Or.inl d)))⟩
  · show Own _ _ _ _ _ cs.length _ _
    rw [HLC.out.1]
    exact ((((HO.out.kp HS1.out.2 (fun j d => by have := d.none; omega)).keep HK3.out).kp HS3.out.2 (fun j d => by have := d.none; omega)).kp HT.out.2 (fun j d => by have := d.none; omega)).mono (fun j hj d => by have := d.none; exact Or.inr ⟨by omega, by omega⟩)
  · show Own _ _ _ _ _ ns.length _ _
    rw [HLC.out.2]
    exact ((HO2.out.kp HS3.out.2 (fun j d => by have := d.none; omega)).kp HT.out.2 (fun j d => by have := d.none; omega)).mono (fun j hj d => by have := d.none; exact Or.inr ⟨by omega, by omega⟩)

end Go.Proofs.YtgbgbokcohfnpaaGreat

/-
  A row of cells stored into a box, whole or in part.
-/
namespace Go.Proofs.YtgbgbokcohfnpaaGreat
open Go.RowKit

theorem set_cells {g e : Nat} : ∀ (vs : List Value) (o : Nat) (w : World) (cs : Array Value), w.heap[g]? = some (.cells cs e (0, 0)) → ∃ cs', (w.setCells g o vs).heap[g]? = some (.cells cs' e (0, 0)) ∧ cs'.size = cs.size ∧ (∀ j, j < o → cs'[j]? = cs[j]?) ∧ (∀ j (hj : j < vs.length), o + j < cs.size → cs'[o + j]? = some vs[j]) ∧ Kp (fun j => j = g) w (w.setCells g o vs)
  | [], o, w, cs, h => ⟨cs, h, rfl, fun _ _ => rfl, fun j hj => by simp at hj, Kp.refl _ _⟩
  | v :: r, o, w, cs, h => by
    have h1 := heap_set_cell (n := o) (u := v) h
    obtain ⟨cs', e1, e2, e3, e4, e5⟩ := set_cells r (o + 1) _ _ h1
    refine ⟨cs', e1, by rw [e2]; simp, fun j hj => ?_, fun j hj hs => ?_, ((Kp.refl (fun j => j = g) w).setCell (p := ⟨g, o, none⟩) (fun _ => rfl) v).trans e5⟩
    · rw [e3 j (by omega), Array.getElem?_setIfInBounds_ne (by omega)]
    · cases j with
      | zero =>
        have : cs'[o + 0]? = (cs.setIfInBounds o v)[o]? := e3 o (by omega)
        rw [this, Array.getElem?_setIfInBounds_self_of_lt (by omega)]
        rfl
      | succ j =>
        have := e4 j (by simpa using hj) (by simp; omega)
        rw [show o + (j + 1) = o + 1 + j by omega, this]
        rfl
theorem setCells_row {w : World} {g e : Nat} {c0 : List Value} (o : Nat) (cs : List Value) (h : w.heap[g]? = some (.cells c0.toArray e (0, 0))) (hfit : o + cs.length ≤ c0.length) :
    (w.setCells g o cs).heap[g]? = some (.cells (c0.take o ++ (cs ++ c0.drop (o + cs.length))).toArray e (0, 0)) ∧ Kp (fun j => j = g) w (w.setCells g o cs) := by
  obtain ⟨cs', e1, e2, e3, e4, e5⟩ := set_cells cs o w c0.toArray h
  refine ⟨?_, e5⟩
  rw [e1]
  have hl : cs'.size = (c0.take o ++ (cs ++ c0.drop (o + cs.length))).length := by
    rw [e2]
    simp only [List.size_toArray, List.length_append, List.length_take, List.length_drop]
    omega
  have : cs' = (c0.take o ++ (cs ++ c0.drop (o + cs.length))).toArray := by
    refine Array.ext (by simpa using hl) (fun i h1 h2 => ?_)
    have ht : (c0.take o).length = o := by rw [List.length_take]; omega
    have hg : cs'[i]? = (c0.take o ++ (cs ++ c0.drop (o + cs.length)))[i]? := by
      by_cases hi : i < o
      · rw [e3 i hi, List.getElem?_append_left (by omega)]
        simp [hi]
      · by_cases hi2 : i < o + cs.length
        · have := e4 (i - o) (by omega) (by simp only [List.size_toArray]; omega)
          rw [show o + (i - o) = i by omega] at this
          rw [this, List.getElem?_append_right (by omega), ht, List.getElem?_append_left (by omega), List.getElem?_eq_getElem]
        · rw [List.getElem?_append_right (by omega), ht, List.getElem?_append_right (by omega), List.getElem?_drop]
          have hkeep : ∀ (vs : List Value) (o : Nat) (w : World) (ca cb : Array Value), w.heap[g]? = some (.cells ca e (0, 0)) → (w.setCells g o vs).heap[g]? = some (.cells cb e (0, 0)) → ∀ i, o + vs.length ≤ i → cb[i]? = ca[i]? := by
            intro vs
            induction vs with
            | nil =>
              intro o w ca cb h1 h2 i _
              have h2' : w.heap[g]? = some (.cells cb e (0, 0)) := h2
              rw [h1] at h2'
              cases h2'
              rfl
            | cons v r ih =>
              intro o w ca cb h1 h2 i hi
              rw [List.length_cons] at hi
              have h3 := heap_set_cell (n := o) (u := v) h1
              rw [ih (o + 1) _ _ cb h3 h2 i (by omega), Array.getElem?_setIfInBounds_ne (by omega)]
          rw [hkeep cs o w _ _ h e1 i (by omega)]
          simp only [List.getElem?_toArray]
          congr 1
          omega
    rw [Array.getElem?_eq_getElem h1] at hg
    rw [List.getElem?_eq_getElem (by simpa using h2)] at hg
    simpa using hg
  rw [this]
theorem wpList_store_row {ops : Array Oper} {rest : List Oper} {op : Oper} {a : Act} {w : World} {Q : Exit → Act → World → Prop} (hgd : op.guard = none) (ty : TypeId) (x y : Operand) (ho : op.op = .store ty x y)
    (g o : Nat) (cs : List Value) (hx : a.eval x = .pointer (some ⟨g, o, none⟩)) (hy : a.eval y = .agg cs.toArray) (h1 : ∀ v ∈ cs, v.oneCell' = true) {c0 : List Value} {T : TypeId} (hb : w.heap[g]? = some (.cells c0.toArray T (0, 0))) (hf : o + cs.length ≤ c0.length) (hi : (Tryz.prog.info? ty).map (·.size) = some cs.length)
    (h : wpList Tryz.prog ops Q rest (a.put op.dst undef) (w.setCells g o cs)) : wpList Tryz.prog ops Q (op :: rest) a w := by
  have ht : w.there g o cs.toArray.size := by
    intro j hj
    refine ⟨?_, by simp [World.frozen?, hb]⟩
    rw [cell_of_row w g (o + j) _ T (0, 0) hb, Array.getElem?_eq_getElem (by simp only [List.size_toArray] at hj ⊢; omega)]
    rfl
  exact wpList_store_mid hgd ty x y ho g o cs.toArray hx hy ht (by rw [List.size_toArray]; exact hi) (all_oneCell_toArray h1) h

end Go.Proofs.YtgbgbokcohfnpaaGreat
