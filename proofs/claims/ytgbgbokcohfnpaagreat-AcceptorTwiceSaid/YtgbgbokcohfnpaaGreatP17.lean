/-
  The texts OpV, ValPlain, AccPlain, Val0, ValW in one: what the claim reaches of them.
-/
import Derived.Test.YtgbgbokcohfnpaaGreatP16
import Derived.Deep.Cut
import Derived.Deep.CutBlock
import Derived.Deep.CutRange
import Derived.Test.YtgbgbokcohfnpaaGreatP06
import Derived.Test.YtgbgbokcohfnpaaGreatP12
import Derived.Test.YtgbgbokcohfnpaaGreatP01
import Derived.Test.YtgbgbokcohfnpaaGreatP02
/-
  Operations as values; app.Check.
-/
namespace Go.Proofs.YtgbgbokcohfnpaaGreat
open Go.RowKit

structure OpV where
  kind : Int
  reg : Int
  tgt : Int
  re : Int
  im : Int
  deriving DecidableEq
def zedF (k : Int) : Bool := decide (¬ (k = 1 ∨ k = 5 ∨ k = 6))

/-- A right operation. -/
def okOp (o : OpV) : Bool :=
  decide (1 ≤ o.kind ∧ o.kind ≤ 7 ∧ 0 ≤ o.reg ∧ o.reg ≤ 7 ∧ 0 ≤ o.tgt ∧ o.tgt ≤ (if o.kind = 5 then 3 else if o.kind = 6 ∨ o.kind = 7 then 7 else 0)) &&
    (if zedF o.kind = true then rB o.re o.im else decide (o.re = 0 ∧ o.im = 0))

def aopV (o : OpV) : Value := .agg #[.int .i64 o.kind, .int .i64 o.reg, .int .i64 o.tgt, .int .i64 o.re, .int .i64 o.im]
theorem within_any (x lo hi : Int) (w : World) : Calls Tryz.prog 173 #[.int .i64 x, .int .i64 lo, .int .i64 hi] w fun e w' => e = .returned (.bool (decide (lo ≤ x ∧ x ≤ hi))) ∧ w' = w := by
  by_cases h1 : lo ≤ x
  · by_cases h2 : x ≤ hi
    · go_enter Tryz.func173, Tryz.ntmps173
      go_wp2_with fail
      go_ret
      exact ⟨ret_eq (by simp [h1, h2]), rfl⟩
    · go_enter Tryz.func173, Tryz.ntmps173
      go_wp2_with fail
      go_ret
      exact ⟨ret_eq (by simp [h2]), rfl⟩
  · go_enter Tryz.func173, Tryz.ntmps173
    go_wp2_with fail
    go_ret
    exact ⟨ret_eq (by rw [decide_eq_false (p := lo ≤ x) (by omega)]; rfl), rfl⟩
def okB (k : Int) (b1 b2 b3 : Bool) (t : Int) : Bool :=
  if k = 1 then b1 && b2 && decide (t = 0) else if k = 2 ∨ k = 3 ∨ k = 4 then b1 && b3 && decide (t = 0)
  else if k = 5 then b1 && b2 && decide (0 ≤ t ∧ t ≤ 3) else if k = 6 then b1 && b2 && decide (0 ≤ t ∧ t ≤ 7) else if k = 7 then b1 && b3 && decide (0 ≤ t ∧ t ≤ 7) else false
theorem okB_eq (k r t n m : Int) : okOp ⟨k, r, t, n, m⟩ = okB k (decide (0 ≤ r ∧ r ≤ 7)) (decide (n = 0 ∧ m = 0)) (rB n m) t := by
  unfold okOp okB
  simp only []
  rw [Bool.eq_iff_iff]
  generalize rB n m = b3
  by_cases h1 : k = 1
  · subst h1; cases b3 <;> simp [zedF] <;> omega
  by_cases h2 : k = 2
  · subst h2; cases b3 <;> simp [zedF] <;> omega
  by_cases h3 : k = 3
  · subst h3; cases b3 <;> simp [zedF] <;> omega
  by_cases h4 : k = 4
  · subst h4; cases b3 <;> simp [zedF] <;> omega
  by_cases h5 : k = 5
  · subst h5; cases b3 <;> simp [zedF] <;> omega
  by_cases h6 : k = 6
  · subst h6; cases b3 <;> simp [zedF] <;> omega
  by_cases h7 : k = 7
  · subst h7; cases b3 <;> simp [zedF] <;> omega
  · simp only [h1, h2, h3, h4, h5, h6, h7]
    simp
    omega

theorem cells_5 {w : World} {g : Nat} {a b c d e : Value} {T : TypeId} {fr : Nat × Nat} (h : w.heap[g]? = some (.cells #[a, b, c, d, e] T fr)) :
    w.cell? ⟨g, 0, none⟩ = some a ∧ w.cell? ⟨g, 1, none⟩ = some b ∧ w.cell? ⟨g, 2, none⟩ = some c ∧ w.cell? ⟨g, 3, none⟩ = some d ∧ w.cell? ⟨g, 4, none⟩ = some e :=
  ⟨cell_of_row w g 0 _ T fr h, cell_of_row w g 1 _ T fr h, cell_of_row w g 2 _ T fr h, cell_of_row w g 3 _ T fr h, cell_of_row w g 4 _ T fr h⟩
def okC (k : Int) (b1 b2 b3 c3 c7 : Bool) (t : Int) : Bool :=
  if k = 1 then b1 && b2 && decide (t = 0) else if k = 2 ∨ k = 3 ∨ k = 4 then b1 && b3 && decide (t = 0)
  else if k = 5 then b1 && b2 && c3 else if k = 6 then b1 && b2 && c7 else if k = 7 then b1 && b3 && c7 else false
set_option maxHeartbeats 8000000 in
set_option maxRecDepth 100000 in
theorem check_any (o : OpV) (w : World) : Calls Tryz.prog 138 #[aopV o] w fun e w' => e = .returned (.int .i64 (if okOp o = true then 0 else 22)) ∧ Kp Noone w w' := by
  obtain ⟨k, r, t, n, m⟩ := o
  rw [okB_eq]
  unfold aopV
  simp only []
  have K1 : Kp Noone w (w.alloc (.cells #[.int .i64 k, .int .i64 r, .int .i64 t, .int .i64 n, .int .i64 m] 39)) := (Kp.refl _ _).alloc _
  have HK := Lib.hid K1
  clear K1
  have hw1 := fun W => within_any r 0 7 W
  have hw3 := fun W => within_any t 0 3 W
  have hw7 := fun W => within_any t 0 7 W
  have e1 : okB k (decide (0 ≤ r ∧ r ≤ 7)) (decide (n = 0 ∧ m = 0)) (rB n m) t = okC k (decide (0 ≤ r ∧ r ≤ 7)) (decide (n = 0 ∧ m = 0)) (rB n m) (decide (0 ≤ t ∧ t ≤ 3)) (decide (0 ≤ t ∧ t ≤ 7)) t := rfl
  rw [e1]
  clear e1
  obtain ⟨b2, hb2⟩ : ∃ b, Hid (decide (n = 0 ∧ m = 0) = b) := ⟨_, Lib.hid rfl⟩
  rw [hb2.out]
  generalize decide (0 ≤ r ∧ r ≤ 7) = b1 at *
  generalize decide (0 ≤ t ∧ t ≤ 3) = c3 at *
  generalize decide (0 ≤ t ∧ t ≤ 7) = c7 at *
  have hof := fun W => of_any n m W
  unfold ofT at hof
  generalize rB n m = b3 at *
  simp only [Bool.true_and] at hof
  obtain ⟨R, hR⟩ : ∃ R, okC k b1 b2 b3 c3 c7 t = R := ⟨_, rfl⟩
  rw [hR]
  have HR := Lib.hid hR
  clear hR
  go_enter Tryz.func138, Tryz.ntmps138
  go_upto_region 2 with (go_at_call 173; refine (hw1 _).mono ?_; rintro e w' ⟨rfl, hw⟩; rw [hw]; clear hw)
  obtain ⟨z0, z1, z2, z3, z4⟩ := cells_5 (heap_alloc_new w (.cells #[.int .i64 k, .int .i64 r, .int .i64 t, .int .i64 n, .int .i64 m] 39))
  generalize w.alloc (.cells #[.int .i64 k, .int .i64 r, .int .i64 t, .int .i64 n, .int .i64 m] 39) = wB at *
  go_cut [4] from 7 (fun v wx => v = .bool b2 ∧ wx = wB)
  case first =>
    by_cases hn : n = 0
    · by_cases hm : m = 0
      · go_wp2_with fail
        go_meet
        case rel => exact ⟨by rw [← hb2.out]; simp [hn, hm], rfl⟩
      · go_wp2_with fail
        go_meet
        case rel => exact ⟨by rw [← hb2.out]; simp [hm], rfl⟩
    · go_wp2_with fail
      go_meet
      case rel => exact ⟨by rw [← hb2.out]; simp [hn], rfl⟩
  obtain ⟨rfl, rfl⟩ := hcut
  clear hb2
  cases b3
  all_goals (
    try simp only [Bool.false_eq_true, if_false, if_true] at hof
    go_upto_block 0 with (go_at_call 174; refine (hof _).mono ?_; rintro e w' ⟨rfl, hw⟩; rw [← hw]; clear hw))
  all_goals (
    rename_i wD
    go_cut [0, 3] from 28 (fun _ v wx => v = .bool R ∧ Kp Noone w wx)
    case rest =>
      obtain ⟨rfl, hk2⟩ := hcut
      cases R
      · go_wp2_with fail
        go_ret
        exact ⟨rfl, hk2⟩
      · go_wp2_with fail
        go_ret
        exact ⟨rfl, hk2⟩
    case first =>
      have hk : k = 1 ∨ k = 2 ∨ k = 3 ∨ k = 4 ∨ k = 5 ∨ k = 6 ∨ k = 7 ∨ (k ≠ 1 ∧ k ≠ 2 ∧ k ≠ 3 ∧ k ≠ 4 ∧ k ≠ 5 ∧ k ≠ 6 ∧ k ≠ 7) := by omega
      rcases hk with rfl | rfl | rfl | rfl | rfl | rfl | rfl | ⟨k1, k2, k3, k4, k5, k6, k7⟩
      iterate 4 (focus (
        clear hw1 hw3 hw7
        cases b1 <;> cases b2
        all_goals (
          by_cases ht : t = 0
          all_goals (
            have HT := Lib.hid ht
            go_wp2_with fail
            go_meet
            case rel => exact ⟨by rw [← HR.out]; simp [okC, HT.out], HK.out⟩))))
      · clear hw1 hw7
        cases b1 <;> cases b2
        all_goals (
          go_wp2_with (go_at_call 173; refine (hw3 _).mono ?_; rintro e w' ⟨rfl, hw⟩; rw [hw]; clear hw)
          go_meet
          case rel => exact ⟨by rw [← HR.out]; simp [okC], HK.out⟩)
      · clear hw1 hw3
        cases b1 <;> cases b2
        all_goals (
          go_wp2_with (go_at_call 173; refine (hw7 _).mono ?_; rintro e w' ⟨rfl, hw⟩; rw [hw]; clear hw)
          go_meet
          case rel => exact ⟨by rw [← HR.out]; simp [okC], HK.out⟩)
      · clear hw1 hw3
        cases b1 <;> cases b2
        all_goals (
          go_wp2_with (go_at_call 173; refine (hw7 _).mono ?_; rintro e w' ⟨rfl, hw⟩; rw [hw]; clear hw)
          go_meet
          case rel => exact ⟨by rw [← HR.out]; simp [okC], HK.out⟩)
      · clear hw1 hw3 hw7
        have HN : Hid (∀ b3, okC k b1 b2 b3 c3 c7 t = false) := Lib.hid (fun b3 => by simp [okC, k1, k2, k3, k4, k5, k6, k7])
        go_wp2_with fail
        go_meet
        case rel => exact ⟨by rw [← HR.out, HN.out], HK.out⟩)


end Go.Proofs.YtgbgbokcohfnpaaGreat

/-
  PLAIN: values, votes, an acceptor's state. No program.
-/
namespace Go.Proofs.YtgbgbokcohfnpaaGreat

/-! ### Values -/

structure CmdR where
  sess : Int
  seq : Int
  ack : Int
  op : OpV
  deriving DecidableEq
structure ValR where
  kind : Int
  cmds : List CmdR
  next : List Int
  deriving DecidableEq
structure BalR where
  round : Int
  node : Int
  deriving DecidableEq
structure VoteR where
  slot : Int
  bal : BalR
  val : ValR
  deriving DecidableEq
def bal0 : BalR := ⟨0, 0⟩
def val0 : ValR := ⟨0, [], []⟩
def cmdF (c : CmdR) : Int :=
  if c.sess < 1 ∨ 1073741824 < c.sess ∨ c.seq < 1 ∨ 1099511627776 < c.seq ∨ c.ack < 0 ∨ c.seq ≤ c.ack then 23 else if okOp c.op = true then 0 else 22
def cmdsF : List CmdR → Int
  | [] => 0
  | c :: r => if cmdF c = 0 then cmdsF r else cmdF c
def setGo : Int → List Int → Int
  | _, [] => 0
  | last, m :: r => if m ≤ last ∨ 9 < m then 24 else setGo m r
def setF (ms : List Int) : Int := if ms.length < 1 ∨ 7 < ms.length then 24 else setGo 0 ms
def valF (v : ValR) : Int :=
  if v.kind = 0 then (if 0 < v.cmds.length ∨ 0 < v.next.length then 25 else 0)
  else if v.kind = 2 then (if 0 < v.cmds.length then 25 else setF v.next)
  else if v.kind = 1 then (if v.cmds.length < 1 ∨ 8 < v.cmds.length ∨ 0 < v.next.length then 25 else cmdsF v.cmds)
  else 25
def validB (b : BalR) : Bool := decide (1 ≤ b.round ∧ b.round ≤ 1099511627776 ∧ 1 ≤ b.node ∧ b.node ≤ 9)
def belowB (a b : BalR) : Bool := decide (a.round < b.round ∨ a.round = b.round ∧ a.node < b.node)
def cmpI (a b : Int) : Int := if a < b then -1 else if b < a then 1 else 0
def cmpB (a b : BalR) : Int := if a.round = b.round then cmpI a.node b.node else cmpI a.round b.round
theorem cmpB_neg (a b : BalR) : cmpB a b < 0 ↔ belowB a b = true := by
  unfold cmpB cmpI belowB
  simp only [decide_eq_true_eq]
  split
  · split
    · omega
    · split <;> omega
  · split
    · omega
    · split <;> omega
theorem cmpB_pos (a b : BalR) : 0 < cmpB a b ↔ belowB b a = true := by
  unfold cmpB cmpI belowB
  simp only [decide_eq_true_eq]
  split
  · split
    · omega
    · split <;> omega
  · split
    · omega
    · split <;> omega
theorem belowB_none {a b : BalR} (h1 : belowB a b = false) (h2 : belowB b a = false) : a = b := by
  unfold belowB at h1 h2
  have e1 := of_decide_eq_false h1
  have e2 := of_decide_eq_false h2
  obtain ⟨r, n⟩ := a
  obtain ⟨r2, n2⟩ := b
  simp only at e1 e2
  have : r = r2 := by omega
  have : n = n2 := by omega
  subst r2 n2
  rfl
theorem belowB_irr (a : BalR) : belowB a a = false := by unfold belowB; simp
theorem belowB_asymm {a b : BalR} (h : belowB a b = true) : belowB b a = false := by
  unfold belowB at *
  have := of_decide_eq_true h
  exact decide_eq_false (by omega)
theorem belowB_trans {a b c : BalR} (h : belowB a b = true) (k : belowB b c = true) : belowB a c = true := by
  unfold belowB at *
  have := of_decide_eq_true h
  have := of_decide_eq_true k
  exact decide_eq_true (by omega)
/-- Not below, twice. -/
theorem belowB_ge {a b c : BalR} (h : belowB a b = false) (k : belowB b c = false) : belowB a c = false := by
  unfold belowB at *
  have := of_decide_eq_false h
  have := of_decide_eq_false k
  exact decide_eq_false (by omega)
/-! ### Records -/

structure RecR where
  kind : Int
  epoch : Int
  slot : Int
  bal : BalR
  val : ValR
  deriving DecidableEq
/-- A record that an acceptor writes. -/
structure RecOk (x : RecR) : Prop where
  kind : 0 ≤ x.kind ∧ x.kind ≤ 3
  epoch : 0 ≤ x.epoch ∧ x.epoch ≤ 1099511627776
  slot : 0 ≤ x.slot ∧ x.slot ≤ 1099511627776
  round : 0 ≤ x.bal.round ∧ x.bal.round ≤ 1099511627776
  node : 0 ≤ x.bal.node ∧ x.bal.node ≤ 9
  val : valF x.val = 0
theorem valF_cmds {v : ValR} (h : valF v = 0) : v.cmds.length ≤ 8 := by
  unfold valF at h
  split at h
  · split at h <;> omega
  split at h
  · split at h <;> omega
  split at h
  · split at h <;> omega
  · omega
theorem valF_next {v : ValR} (h : valF v = 0) : v.next.length ≤ 7 := by
  unfold valF at h
  split at h
  · split at h <;> omega
  split at h
  · split at h
    · omega
    · unfold setF at h
      split at h <;> omega
  split at h
  · split at h <;> omega
  · omega
theorem valF_kind {v : ValR} (h : valF v = 0) : 0 ≤ v.kind ∧ v.kind ≤ 2 := by
  unfold valF at h
  split at h
  · omega
  split at h
  · omega
  split at h
  · omega
  · omega
theorem setGo_in : ∀ (ms : List Int) (last : Int), setGo last ms = 0 → ∀ m ∈ ms, last < m ∧ m ≤ 9
  | [], _, _, _, h => by cases h
  | a :: r, last, hz, m, hm => by
    unfold setGo at hz
    split at hz
    · omega
    · rcases List.mem_cons.1 hm with rfl | hm
      · omega
      · have := setGo_in r a hz m hm
        omega
theorem valF_nextIn {v : ValR} (h : valF v = 0) : ∀ m ∈ v.next, 1 ≤ m ∧ m ≤ 9 := by
  intro m hm
  have hl : 0 < v.next.length := List.length_pos_of_mem hm
  unfold valF at h
  split at h
  · split at h <;> omega
  split at h
  · split at h
    · omega
    · unfold setF at h
      split at h
      · omega
      · have := setGo_in _ _ h m hm
        omega
  split at h
  · split at h <;> omega
  · omega
theorem cmdsF_all {cs : List CmdR} (h : cmdsF cs = 0) : ∀ c ∈ cs, cmdF c = 0 := by
  induction cs with
  | nil => intro c hc; cases hc
  | cons a r ih =>
    unfold cmdsF at h
    split at h
    · rename_i ha
      intro c hc
      rcases List.mem_cons.1 hc with rfl | hc
      · exact ha
      · exact ih h c hc
    · rename_i ha
      exact absurd h ha
theorem valF_cmd {v : ValR} (h : valF v = 0) : ∀ c ∈ v.cmds, cmdF c = 0 := by
  intro c hc
  have hl : 0 < v.cmds.length := List.length_pos_of_mem hc
  unfold valF at h
  split at h
  · rw [if_pos (Or.inl hl)] at h; omega
  split at h
  · omega
  split at h
  · split at h
    · omega
    · exact cmdsF_all h c hc
  · omega
theorem cmdF_in {c : CmdR} (h : cmdF c = 0) : 1 ≤ c.sess ∧ c.sess ≤ 1073741824 ∧ 1 ≤ c.seq ∧ c.seq ≤ 1099511627776 ∧ 0 ≤ c.ack ∧ c.ack < c.seq ∧ okOp c.op = true := by
  unfold cmdF at h
  split at h
  · omega
  · split at h
    · rename_i a b
      exact ⟨by omega, by omega, by omega, by omega, by omega, by omega, b⟩
    · omega

/-! ### Votes, by slot -/

/-- The slots rise. -/
def Up9 (vs : List VoteR) : Prop := vs.Pairwise (fun a b => a.slot < b.slot)
def aboveV (vs : List VoteR) (slot : Int) : List VoteR := vs.filter (fun v => decide (slot < v.slot))
def fromV (vs : List VoteR) (slot : Int) : List VoteR := vs.filter (fun v => decide (slot ≤ v.slot))
def getV (slot : Int) (vs : List VoteR) : Option VoteR := vs.find? (fun v => decide (v.slot = slot))
def putV (x : VoteR) : List VoteR → List VoteR
  | [] => [x]
  | v :: r => if x.slot < v.slot then x :: v :: r else if x.slot = v.slot then x :: r else v :: putV x r
theorem getV_some {slot : Int} {vs : List VoteR} {o : VoteR} (h : getV slot vs = some o) : o ∈ vs ∧ o.slot = slot := by
  unfold getV at h
  exact ⟨List.mem_of_find?_eq_some h, by simpa using List.find?_some h⟩
theorem getV_none {slot : Int} {vs : List VoteR} (h : getV slot vs = none) : ∀ v ∈ vs, v.slot ≠ slot := by
  unfold getV at h
  intro v hv
  have := List.find?_eq_none.1 h v hv
  simpa using this
theorem mem_putV {x v : VoteR} {vs : List VoteR} (h : v ∈ putV x vs) : v = x ∨ v ∈ vs ∧ v.slot ≠ x.slot ∨ v ∈ vs := by
  induction vs with
  | nil => simp [putV] at h; exact Or.inl h
  | cons a r ih =>
    unfold putV at h
    split at h
    · rcases List.mem_cons.1 h with h | h
      · exact Or.inl h
      · exact Or.inr (Or.inr h)
    · split at h
      · rcases List.mem_cons.1 h with h | h
        · exact Or.inl h
        · exact Or.inr (Or.inr (List.mem_cons_of_mem _ h))
      · rcases List.mem_cons.1 h with h | h
        · exact Or.inr (Or.inr (by rw [h]; exact List.mem_cons_self ..))
        · rcases ih h with h | h | h
          · exact Or.inl h
          · exact Or.inr (Or.inr (List.mem_cons_of_mem _ h.1))
          · exact Or.inr (Or.inr (List.mem_cons_of_mem _ h))
theorem putV_mem {x v : VoteR} {vs : List VoteR} (h : v ∈ putV x vs) : v = x ∨ v ∈ vs := by
  rcases mem_putV h with h | h | h
  · exact Or.inl h
  · exact Or.inr h.1
  · exact Or.inr h
theorem self_putV (x : VoteR) (vs : List VoteR) : x ∈ putV x vs := by
  induction vs with
  | nil => simp [putV]
  | cons a r ih =>
    unfold putV
    split
    · simp
    · split
      · simp
      · exact List.mem_cons_of_mem _ ih
theorem up_putV {x : VoteR} {vs : List VoteR} (h : Up9 vs) : Up9 (putV x vs) := by
  induction vs with
  | nil => simp [putV, Up9]
  | cons a r ih =>
    have h2 := List.pairwise_cons.1 h
    unfold putV
    split
    · rename_i hx
      refine List.pairwise_cons.2 ⟨fun b hb => ?_, h⟩
      rcases List.mem_cons.1 hb with rfl | hb
      · exact hx
      · have := h2.1 b hb; omega
    · split
      · rename_i hx
        exact List.pairwise_cons.2 ⟨fun b hb => by have := h2.1 b hb; omega, h2.2⟩
      · refine List.pairwise_cons.2 ⟨fun b hb => ?_, ih h2.2⟩
        rcases putV_mem hb with rfl | hb
        · omega
        · exact h2.1 b hb
/-- Who is in a list with a vote put in. -/
theorem putV_iff {x v : VoteR} {vs : List VoteR} (h : Up9 vs) : v ∈ putV x vs ↔ v = x ∨ v ∈ vs ∧ v.slot ≠ x.slot := by
  induction vs with
  | nil => simp [putV]
  | cons a r ih =>
    have h2 := List.pairwise_cons.1 h
    unfold putV
    split
    · rename_i hx
      rw [List.mem_cons]
      constructor
      · rintro (c | c)
        · exact Or.inl c
        · refine Or.inr ⟨c, ?_⟩
          rcases List.mem_cons.1 c with rfl | c
          · omega
          · have := h2.1 v c; omega
      · rintro (c | c)
        · exact Or.inl c
        · exact Or.inr c.1
    · split
      · rename_i hx
        rw [List.mem_cons]
        constructor
        · rintro (c | c)
          · exact Or.inl c
          · exact Or.inr ⟨List.mem_cons_of_mem _ c, by have := h2.1 v c; omega⟩
        · rintro (c | ⟨c, d⟩)
          · exact Or.inl c
          · rcases List.mem_cons.1 c with rfl | c
            · omega
            · exact Or.inr c
      · rename_i hx1 hx2
        rw [List.mem_cons, ih h2.2]
        constructor
        · rintro (c | c | c)
          · exact Or.inr ⟨by rw [c]; exact List.mem_cons_self .., by rw [c]; omega⟩
          · exact Or.inl c
          · exact Or.inr ⟨List.mem_cons_of_mem _ c.1, c.2⟩
        · rintro (c | ⟨c, d⟩)
          · exact Or.inr (Or.inl c)
          · rcases List.mem_cons.1 c with c | c
            · exact Or.inl c
            · exact Or.inr (Or.inr ⟨c, d⟩)
theorem up_filter {vs : List VoteR} (h : Up9 vs) (p : VoteR → Bool) : Up9 (vs.filter p) := List.Pairwise.sublist List.filter_sublist h
theorem up_slot {vs : List VoteR} (h : Up9 vs) {a b : VoteR} (ha : a ∈ vs) (hb : b ∈ vs) (e : a.slot = b.slot) : a = b := by
  induction vs with
  | nil => cases ha
  | cons c r ih =>
    have h2 := List.pairwise_cons.1 h
    rcases List.mem_cons.1 ha with q1 | q1
    · rcases List.mem_cons.1 hb with q2 | q2
      · rw [q1, q2]
      · have := h2.1 b q2
        rw [q1] at e
        omega
    · rcases List.mem_cons.1 hb with q2 | q2
      · have := h2.1 a q1
        rw [q2] at e
        omega
      · exact ih h2.2 q1 q2
theorem getV_of {vs : List VoteR} (h : Up9 vs) {o : VoteR} (ho : o ∈ vs) : getV o.slot vs = some o := by
  cases hg : getV o.slot vs with
  | none => exact absurd rfl (getV_none hg o ho)
  | some x =>
    obtain ⟨h1, h2⟩ := getV_some hg
    rw [up_slot h h1 ho h2]
/-- Two lists of rising slots with the same members are one. -/
theorem up_ext {l m : List VoteR} (hl : Up9 l) (hm : Up9 m) (h : ∀ v, v ∈ l ↔ v ∈ m) : l = m := by
  induction l generalizing m with
  | nil =>
    cases m with
    | nil => rfl
    | cons b s => exact absurd ((h b).2 (List.mem_cons_self ..)) (by simp)
  | cons a r ih =>
    cases m with
    | nil => exact absurd ((h a).1 (List.mem_cons_self ..)) (by simp)
    | cons b s =>
      have h1 := List.pairwise_cons.1 hl
      have h2 := List.pairwise_cons.1 hm
      have hab : a = b := by
        rcases List.mem_cons.1 ((h a).1 (List.mem_cons_self ..)) with e | e
        · exact e
        · rcases List.mem_cons.1 ((h b).2 (List.mem_cons_self ..)) with f | f
          · exact f.symm
          · have := h1.1 b f
            have := h2.1 a e
            omega
      subst hab
      congr 1
      refine ih h1.2 h2.2 (fun v => ?_)
      constructor
      · intro hv
        rcases List.mem_cons.1 ((h v).1 (List.mem_cons_of_mem _ hv)) with e | e
        · have := h1.1 v hv
          rw [e] at this
          omega
        · exact e
      · intro hv
        rcases List.mem_cons.1 ((h v).2 (List.mem_cons_of_mem _ hv)) with e | e
        · have := h2.1 v hv
          rw [e] at this
          omega
        · exact e
/-- Slots in a window. -/
theorem up_len {vs : List VoteR} (h : Up9 vs) (lo : Int) (n : Nat) (hb : ∀ v ∈ vs, lo < v.slot ∧ v.slot ≤ lo + n) : vs.length ≤ n := by
  induction n generalizing vs lo with
  | zero =>
    cases vs with
    | nil => simp
    | cons a r => have := hb a (List.mem_cons_self ..); omega
  | succ n ih =>
    cases vs with
    | nil => simp
    | cons a r =>
      have h2 := List.pairwise_cons.1 h
      have ha := hb a (List.mem_cons_self ..)
      have := ih h2.2 (lo + 1) (fun v hv => by
        have h3 := h2.1 v hv
        have h4 := hb v (List.mem_cons_of_mem _ hv)
        omega)
      simp only [List.length_cons]
      omega

/-! ### The state -/

structure AcS where
  epoch : Int
  floor : Int
  prom : BalR
  votes : List VoteR
def enterA (e f : Int) : AcS := ⟨e, f, bal0, []⟩
def raiseA (a : AcS) (f : Int) : AcS := ⟨a.epoch, max a.floor f, a.prom, aboveV a.votes (max a.floor f)⟩
def promA (a : AcS) (b : BalR) : AcS := if belowB a.prom b = true then { a with prom := b } else a
def takesA (a : AcS) (x : RecR) : Bool := decide (a.floor < x.slot) && (match getV x.slot a.votes with | none => true | some o => !belowB x.bal o.bal)
def castA (a : AcS) (x : RecR) : AcS :=
  if x.kind = 3 then raiseA a x.slot else if x.kind = 2 ∧ takesA a x = true then { a with votes := putV ⟨x.slot, x.bal, x.val⟩ a.votes } else a
def replayA (a : AcS) (x : RecR) : AcS :=
  if x.epoch < a.epoch then a else castA (promA (if a.epoch < x.epoch then enterA x.epoch 0 else a) x.bal) x

end Go.Proofs.YtgbgbokcohfnpaaGreat

/-
  PLAIN: how values and records are written; what an acceptor does beside its log. No program.
-/
namespace Go.Proofs.YtgbgbokcohfnpaaGreat

/-! ### As they are written -/

def cmdNs (c : CmdR) : List Int := [c.sess, c.seq, c.ack, c.op.kind, c.op.reg, c.op.tgt, c.op.re, c.op.im]
def intsL (ns : List Int) : List UInt8 := (ns.map (fun n => numL (foldN n))).flatten
def natsL (ns : List Int) : List UInt8 := (ns.map (fun n => numL n.toNat)).flatten
def cmdL (c : CmdR) : List UInt8 := intsL (cmdNs c)
def cmdsL (cs : List CmdR) : List UInt8 := (cs.map cmdL).flatten
def valL (v : ValR) : List UInt8 := numL v.kind.toNat ++ numL v.cmds.length ++ cmdsL v.cmds ++ numL v.next.length ++ natsL v.next
def recL (x : RecR) : List UInt8 := natsL [x.kind, x.epoch, x.slot, x.bal.round, x.bal.node] ++ (if x.kind = 2 then valL x.val else [])
/-! ### The log beside it -/

/-- Records written one behind the other, then made safe. -/
def writeF : List (List UInt8) → Bool → Nat → DS → LogP → DS × LogP × Nat × Nat
  | [], _, f, s, l => ((syncLF s l).1, (syncLF s l).2.1, f, (syncLF s l).2.2)
  | d :: r, b, f, s, l =>
    if (appendLF s l d).2.2.2 ≠ 0 then ((appendLF s l d).1, (appendLF s l d).2.1, 0, (appendLF s l d).2.2.2)
    else writeF r false (if b = true then (appendLF s l d).2.2.1 else f) (appendLF s l d).1 (appendLF s l d).2.1
structure MsgR where
  kind : Int
  epoch : Int
  bal : BalR
  slot : Int
  low : Int
  val : ValR
  votes : List VoteR
def msg0 : MsgR := ⟨0, 0, bal0, 0, 0, val0, []⟩
/-- What a call leaves and answers. -/
structure AO where
  s : DS
  l : LogP
  a : AcS
  m : MsgR
  e : Nat
def nackM (a : AcS) : MsgR := ⟨3, a.epoch, a.prom, 0, 0, val0, []⟩
def promM (a : AcS) (b : BalR) (from9 : Int) : MsgR := ⟨2, a.epoch, b, from9, a.floor, val0, (fromV a.votes from9).take 64⟩
def votedM (a : AcS) (b : BalR) (slot : Int) (v : ValR) : MsgR := ⟨5, a.epoch, b, slot, 0, v, []⟩
def prepW (a : AcS) (b : BalR) (from9 : Int) (r : DS × LogP × Nat × Nat) : AO :=
  if r.2.2.2 ≠ 0 then ⟨r.1, r.2.1, a, msg0, r.2.2.2⟩ else ⟨r.1, r.2.1, { a with prom := b }, promM { a with prom := b } b from9, 0⟩
def prepA (s : DS) (l : LogP) (a : AcS) (b : BalR) (from9 : Int) : AO :=
  if from9 < 1 ∨ 1099511627776 < from9 then ⟨s, l, a, msg0, 1⟩
  else if validB b = false then ⟨s, l, a, msg0, 27⟩
  else if belowB b a.prom = true then ⟨s, l, a, nackM a, 60⟩
  else if belowB a.prom b = true then prepW a b from9 (writeF [recL ⟨1, a.epoch, 0, b, val0⟩] true 0 s l)
  else ⟨s, l, a, promM a b from9, 0⟩
def accW (a : AcS) (x : RecR) (r : DS × LogP × Nat × Nat) : AO :=
  if r.2.2.2 ≠ 0 then ⟨r.1, r.2.1, a, msg0, r.2.2.2⟩ else ⟨r.1, r.2.1, replayA a x, votedM (replayA a x) x.bal x.slot x.val, 0⟩
def accO (s : DS) (l : LogP) (a : AcS) (b : BalR) (slot : Int) (v : ValR) : Option VoteR → AO
  | some o => if o.bal = b then (if o.val = v then ⟨s, l, a, votedM a b slot v, 0⟩ else ⟨s, l, a, msg0, 63⟩)
      else accW a ⟨2, a.epoch, slot, b, v⟩ (writeF [recL ⟨2, a.epoch, slot, b, v⟩] true 0 s l)
  | none => accW a ⟨2, a.epoch, slot, b, v⟩ (writeF [recL ⟨2, a.epoch, slot, b, v⟩] true 0 s l)
def accA (s : DS) (l : LogP) (a : AcS) (b : BalR) (slot : Int) (v : ValR) : AO :=
  if validB b = false then ⟨s, l, a, msg0, 27⟩
  else if valF v ≠ 0 then ⟨s, l, a, msg0, (valF v).toNat⟩
  else if belowB b a.prom = true then ⟨s, l, a, nackM a, 60⟩
  else if slot ≤ a.floor ∨ a.floor + 64 < slot ∨ 1099511627776 < slot then ⟨s, l, a, msg0, 61⟩
  else accO s l a b slot v (getV slot a.votes)
def voteRec (e : Int) (v : VoteR) : RecR := ⟨2, e, v.slot, v.bal, v.val⟩
def raiseRecs (a : AcS) (f : Int) : List RecR := ⟨3, a.epoch, f, a.prom, val0⟩ :: (fromV a.votes (f + 1)).map (voteRec a.epoch)
def trimO (a : AcS) (idx : Int) (r : DS × LogP × Nat × Nat) : AO := ⟨(trimLF r.1 r.2.1 idx).1, (trimLF r.1 r.2.1 idx).2.1, a, msg0, (trimLF r.1 r.2.1 idx).2.2⟩
def raiseW (a : AcS) (f : Int) (r : DS × LogP × Nat × Nat) : AO :=
  if r.2.2.2 ≠ 0 then ⟨r.1, r.2.1, a, msg0, r.2.2.2⟩ else trimO (raiseA a f) r.2.2.1 r
def raiseO (s : DS) (l : LogP) (a : AcS) (f : Int) : AO :=
  if f < a.floor ∨ 1099511627776 < f then ⟨s, l, a, msg0, 1⟩
  else if f = a.floor then ⟨s, l, a, msg0, 0⟩
  else raiseW a f (writeF ((raiseRecs a f).map recL) true 0 s l)
def enterW (a : AcS) (e f : Int) (r : DS × LogP × Nat × Nat) : AO :=
  if r.2.2.2 ≠ 0 then ⟨r.1, r.2.1, a, msg0, r.2.2.2⟩ else trimO (enterA e f) r.2.2.1 r
def enterO (s : DS) (l : LogP) (a : AcS) (e f : Int) : AO :=
  if e ≤ a.epoch ∨ 1099511627776 < e ∨ f < 0 ∨ 1099511627776 < f then ⟨s, l, a, msg0, 1⟩
  else enterW a e f (writeF [recL ⟨3, e, f, bal0, val0⟩] true 0 s l)

end Go.Proofs.YtgbgbokcohfnpaaGreat

/-
  Values in memory.
-/
namespace Go.Proofs.YtgbgbokcohfnpaaGreat
open Go.RowKit

def cmdCs (c : CmdR) : List Value := [.int .i64 c.sess, .int .i64 c.seq, .int .i64 c.ack, .int .i64 c.op.kind, .int .i64 c.op.reg, .int .i64 c.op.tgt, .int .i64 c.op.re, .int .i64 c.op.im]
def cmdsV (cs : List CmdR) : List Value := (cs.map cmdCs).flatten
theorem length_cmdsV (cs : List CmdR) : (cmdsV cs).length = cs.length * 8 := by
  induction cs with
  | nil => rfl
  | cons a r ih =>
    have : (cmdsV (a :: r)).length = 8 + (cmdsV r).length := by unfold cmdsV; rw [List.map_cons, List.flatten_cons, List.length_append]; rfl
    rw [this, ih, List.length_cons]
    omega
theorem cmdsV_app (a b : List CmdR) : cmdsV (a ++ b) = cmdsV a ++ cmdsV b := by unfold cmdsV; simp
theorem cmdsV_get (cs : List CmdR) (k j : Nat) (hk : k < cs.length) (hj : j < 8) : (cmdsV cs)[k * 8 + j]? = (cmdCs cs[k])[j]? := by
  induction cs generalizing k with
  | nil => simp at hk
  | cons a r ih =>
    have e : cmdsV (a :: r) = cmdCs a ++ cmdsV r := by unfold cmdsV; simp
    have hl : (cmdCs a).length = 8 := rfl
    rw [e]
    cases k with
    | zero =>
      rw [List.getElem?_append_left (by omega)]
      simp
    | succ k =>
      rw [List.getElem?_append_right (by omega), hl, show (k + 1) * 8 + j - 8 = k * 8 + j by omega, ih k (by simpa using hk)]
      rfl
theorem cmdsV_one (cs : List CmdR) : ∀ u ∈ cmdsV cs, u.oneCell' = true := by
  intro u hu
  unfold cmdsV at hu
  obtain ⟨l, hl, hu⟩ := List.mem_flatten.1 hu
  obtain ⟨c, -, rfl⟩ := List.mem_map.1 hl
  simp [cmdCs] at hu
  rcases hu with rfl | rfl | rfl | rfl | rfl | rfl | rfl | rfl <;> rfl
/-- Eight cells from an offset on. -/
structure CmdCells (w : World) (b o : Nat) (c : CmdR) : Prop where
  c0 : w.cell? ⟨b, o, none⟩ = some (.int .i64 c.sess)
  c1 : w.cell? ⟨b, o + 1, none⟩ = some (.int .i64 c.seq)
  c2 : w.cell? ⟨b, o + 2, none⟩ = some (.int .i64 c.ack)
  c3 : w.cell? ⟨b, o + 3, none⟩ = some (.int .i64 c.op.kind)
  c4 : w.cell? ⟨b, o + 4, none⟩ = some (.int .i64 c.op.reg)
  c5 : w.cell? ⟨b, o + 5, none⟩ = some (.int .i64 c.op.tgt)
  c6 : w.cell? ⟨b, o + 6, none⟩ = some (.int .i64 c.op.re)
  c7 : w.cell? ⟨b, o + 7, none⟩ = some (.int .i64 c.op.im)
theorem Row.cmd {w : World} {ao : Option Addr} {cs : List CmdR} (h : Row w ao (cmdsV cs)) {k : Nat} (hk : k < cs.length) :
    ∃ b off, ao = some ⟨b, off, none⟩ ∧ b < w.heap.size ∧ CmdCells w b (off + k * 8) cs[k] := by
  have hl := length_cmdsV cs
  rcases h with h0 | ⟨b, off, rfl, hr⟩
  · rw [h0] at hl
    simp at hl
    omega
  · have hc : ∀ j, j < 8 → w.cell? ⟨b, off + k * 8 + j, none⟩ = (cmdCs cs[k])[j]? := fun j hj => by
      have h1 := hr (k * 8 + j) (by omega)
      rw [Nat.add_assoc, h1, ← cmdsV_get cs k j hk hj, List.getElem?_eq_getElem]
    refine ⟨b, off, rfl, World.block_lt_of_cell? w _ (hr 0 (by omega)), ?_, ?_, ?_, ?_, ?_, ?_, ?_, ?_⟩
    · exact hc 0 (by omega)
    · exact hc 1 (by omega)
    · exact hc 2 (by omega)
    · exact hc 3 (by omega)
    · exact hc 4 (by omega)
    · exact hc 5 (by omega)
    · exact hc 6 (by omega)
    · exact hc 7 (by omega)
/-- A slice of commands. -/
structure CS (w : World) (ao : Option Addr) (n cap : Nat) (cs : List CmdR) : Prop where
  len : cs.length = n
  le : n ≤ cap
  max : cap ≤ maxLen
  row : Row w ao (cmdsV cs)
theorem CS.kp {S : Nat → Prop} {w w' : World} {ao : Option Addr} {n cap : Nat} {cs : List CmdR} (h : CS w ao n cap cs) (k : Kp S w w') (ho : Off S ao) : CS w' ao n cap cs := ⟨h.len, h.le, h.max, h.row.kp k ho⟩
theorem CS.keep {w w' : World} {ao : Option Addr} {n cap : Nat} {cs : List CmdR} (h : CS w ao n cap cs) (k : Kp Noone w w') : CS w' ao n cap cs := h.kp k (Off.none' _)
theorem CS.at {w : World} {ao : Option Addr} {n cap : Nat} {cs : List CmdR} (h : CS w ao n cap cs) {k : Nat} (hk : k < n) :
    ∃ b off, ∃ hl : k < cs.length, ao = some ⟨b, off, none⟩ ∧ b < w.heap.size ∧ CmdCells w b (off + k * 8) cs[k] := by
  have hl : k < cs.length := by have := h.len; omega
  obtain ⟨b, off, e, hb, hc⟩ := h.row.cmd hl
  exact ⟨b, off, hl, e, hb, hc⟩
theorem CS.nil (w : World) (ao : Option Addr) (cap : Nat) (h : cap ≤ maxLen) : CS w ao 0 cap [] := ⟨rfl, Nat.zero_le _, h, Row.nil _ _⟩
theorem IS.kp9 {S : Nat → Prop} {w w' : World} {ao : Option Addr} {n cap : Nat} {xs : List Int} (h : IS w ao n cap xs) (k : Kp S w w') (ho : Off S ao) : IS w' ao n cap xs := ⟨h.len, h.le, h.max, h.row.kp k ho⟩
theorem IS.nil0 (w : World) (ao : Option Addr) (cap : Nat) (h : cap ≤ maxLen) : IS w ao 0 cap [] := ⟨rfl, Nat.zero_le _, h, Row.nil _ _⟩
/-- Where a value's two slices lie. -/
structure VLoc where
  co : Option Addr
  cc : Nat
  no : Option Addr
  nc : Nat
def loc9 : VLoc := ⟨none, 0, none, 0⟩
def valV (v : ValR) (l : VLoc) : Value := .agg #[.int .i64 v.kind, .slice l.co v.cmds.length l.cc, .slice l.no v.next.length l.nc]
structure ValAt (w : World) (v : ValR) (l : VLoc) : Prop where
  cmds : CS w l.co v.cmds.length l.cc v.cmds
  next : IS w l.no v.next.length l.nc v.next
theorem ValAt.keep {w w' : World} {v : ValR} {l : VLoc} (h : ValAt w v l) (k : Kp Noone w w') : ValAt w' v l := ⟨h.cmds.keep k, h.next.keep k⟩
theorem ValAt.kp {S : Nat → Prop} {w w' : World} {v : ValR} {l : VLoc} (h : ValAt w v l) (k : Kp S w w') (h1 : Off S l.co) (h2 : Off S l.no) : ValAt w' v l := ⟨h.cmds.kp k h1, h.next.kp9 k h2⟩
theorem ValAt.zero (w : World) : ValAt w val0 loc9 := ⟨CS.nil _ _ _ (Nat.zero_le _), IS.nil0 _ _ _ (Nat.zero_le _)⟩
theorem cells_8v {w : World} {g : Nat} {a b c d e f k i : Value} {T : TypeId} {fr : Nat × Nat} (h : w.heap[g]? = some (.cells #[a, b, c, d, e, f, k, i] T fr)) :
    (w.cell? ⟨g, 0, none⟩ = some a ∧ w.cell? ⟨g, 1, none⟩ = some b ∧ w.cell? ⟨g, 2, none⟩ = some c ∧ w.cell? ⟨g, 3, none⟩ = some d) ∧ w.cell? ⟨g, 4, none⟩ = some e ∧ w.cell? ⟨g, 5, none⟩ = some f ∧ w.cell? ⟨g, 6, none⟩ = some k ∧ w.cell? ⟨g, 7, none⟩ = some i :=
  ⟨⟨cell_of_row w g 0 _ T fr h, cell_of_row w g 1 _ T fr h, cell_of_row w g 2 _ T fr h, cell_of_row w g 3 _ T fr h⟩, cell_of_row w g 4 _ T fr h, cell_of_row w g 5 _ T fr h, cell_of_row w g 6 _ T fr h, cell_of_row w g 7 _ T fr h⟩
theorem cells_3v {w : World} {g : Nat} {a b c : Value} {T : TypeId} {fr : Nat × Nat} (h : w.heap[g]? = some (.cells #[a, b, c] T fr)) :
    w.cell? ⟨g, 0, none⟩ = some a ∧ w.cell? ⟨g, 1, none⟩ = some b ∧ w.cell? ⟨g, 2, none⟩ = some c :=
  ⟨cell_of_row w g 0 _ T fr h, cell_of_row w g 1 _ T fr h, cell_of_row w g 2 _ T fr h⟩

/-! ### Walks of small readers -/

set_option maxHeartbeats 1000000 in
theorem checkCmd_any (c : CmdR) (w : World) :
    Calls Tryz.prog 90 #[.agg #[.int .i64 c.sess, .int .i64 c.seq, .int .i64 c.ack, .int .i64 c.op.kind, .int .i64 c.op.reg, .int .i64 c.op.tgt, .int .i64 c.op.re, .int .i64 c.op.im]] w fun e w' => e = .returned (.int .i64 (cmdF c)) ∧ Kp Noone w w' := by
  obtain ⟨s, q, a, o⟩ := c
  have hck := fun W => check_any o W
  obtain ⟨k, r, t, n, m⟩ := o
  unfold aopV at hck
  have K1 := Lib.hid ((Kp.refl Noone w).alloc (.cells #[.int .i64 s, .int .i64 q, .int .i64 a, .int .i64 k, .int .i64 r, .int .i64 t, .int .i64 n, .int .i64 m] 41))
  have hb := heap_alloc_new w (.cells #[.int .i64 s, .int .i64 q, .int .i64 a, .int .i64 k, .int .i64 r, .int .i64 t, .int .i64 n, .int .i64 m] 41)
  simp only [] at hck ⊢
  by_cases hbad : s < 1 ∨ 1073741824 < s ∨ q < 1 ∨ 1099511627776 < q ∨ a < 0 ∨ q ≤ a
  · have HR : Hid (cmdF ⟨s, q, a, ⟨k, r, t, n, m⟩⟩ = 23) := Lib.hid (by unfold cmdF; rw [if_pos hbad])
    go_enter Tryz.func90, Tryz.ntmps90
    go_upto_region 1 with fail
    obtain ⟨⟨z0, z1, z2, z3⟩, z4, z5, z6, z7⟩ := cells_8v hb
    generalize w.alloc (.cells #[.int .i64 s, .int .i64 q, .int .i64 a, .int .i64 k, .int .i64 r, .int .i64 t, .int .i64 n, .int .i64 m] 41) = w0 at *
    generalize w.heap.size = g at *
    clear hb
    have hcs : s < 1 ∨ (¬ s < 1 ∧ 1073741824 < s) ∨ (¬ s < 1 ∧ ¬ 1073741824 < s ∧ q < 1) ∨ (¬ s < 1 ∧ ¬ 1073741824 < s ∧ ¬ q < 1 ∧ 1099511627776 < q) ∨ (¬ s < 1 ∧ ¬ 1073741824 < s ∧ ¬ q < 1 ∧ ¬ 1099511627776 < q ∧ a < 0) ∨ (¬ s < 1 ∧ ¬ 1073741824 < s ∧ ¬ q < 1 ∧ ¬ 1099511627776 < q ∧ ¬ a < 0 ∧ q ≤ a) := by omega
    clear hbad
    rcases hcs with h1 | ⟨h1, h2⟩ | ⟨h1, h2, h3⟩ | ⟨h1, h2, h3, h4⟩ | ⟨h1, h2, h3, h4, h5⟩ | ⟨h1, h2, h3, h4, h5, h6⟩
    all_goals (
      go_wp2_with fail
      go_ret
      exact ⟨ret_eq (by rw [HR.out]; rfl), K1.out⟩)
  · have HR : Hid (cmdF ⟨s, q, a, ⟨k, r, t, n, m⟩⟩ = if okOp ⟨k, r, t, n, m⟩ = true then 0 else 22) := Lib.hid (by unfold cmdF; rw [if_neg hbad])
    obtain ⟨h1, h2, h3, h4, h5, h6⟩ : ¬ s < 1 ∧ ¬ 1073741824 < s ∧ ¬ q < 1 ∧ ¬ 1099511627776 < q ∧ ¬ a < 0 ∧ ¬ q ≤ a := by omega
    clear hbad
    generalize (if okOp ⟨k, r, t, n, m⟩ = true then (0 : Int) else 22) = R at *
    go_enter Tryz.func90, Tryz.ntmps90
    go_upto_region 1 with fail
    obtain ⟨⟨z0, z1, z2, z3⟩, z4, z5, z6, z7⟩ := cells_8v hb
    generalize w.alloc (.cells #[.int .i64 s, .int .i64 q, .int .i64 a, .int .i64 k, .int .i64 r, .int .i64 t, .int .i64 n, .int .i64 m] 41) = w0 at *
    generalize w.heap.size = g at *
    clear hb
    go_wp2_with fail
    refine (hck _).mono ?_
    rintro e w1 ⟨rfl, k1⟩
    have K2 := Lib.hid (K1.out.trans k1)
    clear k1
    go_wp2_with fail
    go_ret
    exact ⟨ret_eq (by rw [HR.out]; rfl), K2.out⟩

end Go.Proofs.YtgbgbokcohfnpaaGreat

/-
  WALKS: ballot.Valid, Check, cmp.Compare; value.Check.
-/
namespace Go.Proofs.YtgbgbokcohfnpaaGreat
open Go.RowKit

theorem cells_2v {w : World} {g : Nat} {a b : Value} {T : TypeId} {fr : Nat × Nat} (h : w.heap[g]? = some (.cells #[a, b] T fr)) :
    w.cell? ⟨g, 0, none⟩ = some a ∧ w.cell? ⟨g, 1, none⟩ = some b :=
  ⟨cell_of_row w g 0 _ T fr h, cell_of_row w g 1 _ T fr h⟩
set_option maxHeartbeats 1000000 in
theorem valid_any (r n : Int) (w : World) :
    Calls Tryz.prog 40 #[.agg #[.int .i64 r, .int .i64 n]] w fun e w' => e = .returned (.bool (validB ⟨r, n⟩)) ∧ Kp Noone w w' := by
  have K1 := Lib.hid ((Kp.refl Noone w).alloc (.cells #[.int .i64 r, .int .i64 n] 24))
  have hb := heap_alloc_new w (.cells #[.int .i64 r, .int .i64 n] 24)
  obtain ⟨B, hB⟩ : ∃ B, Hid (validB ⟨r, n⟩ = B) := ⟨_, Lib.hid rfl⟩
  rw [hB.out]
  have hcs : (B = true ∧ 1 ≤ r ∧ r ≤ 1099511627776 ∧ 1 ≤ n ∧ n ≤ 9) ∨ (B = false ∧ (¬ 1 ≤ r ∨ (1 ≤ r ∧ ¬ r ≤ 1099511627776) ∨ (1 ≤ r ∧ r ≤ 1099511627776 ∧ ¬ 1 ≤ n) ∨ (1 ≤ r ∧ r ≤ 1099511627776 ∧ 1 ≤ n ∧ ¬ n ≤ 9))) := by
    have h := hB.out
    unfold validB at h
    cases B with
    | true => exact Or.inl ⟨rfl, by simpa using h⟩
    | false =>
      have := of_decide_eq_false h
      exact Or.inr ⟨rfl, by simp only at this; omega⟩
  clear hB
  go_enter Tryz.func40, Tryz.ntmps40
  go_upto_region 1 with fail
  obtain ⟨z0, z1⟩ := cells_2v hb
  generalize w.alloc (.cells #[.int .i64 r, .int .i64 n] 24) = w0 at *
  generalize w.heap.size = g at *
  clear hb
  rcases hcs with ⟨rfl, h1, h2, h3, h4⟩ | ⟨rfl, h1 | ⟨h1, h2⟩ | ⟨h1, h2, h3⟩ | ⟨h1, h2, h3, h4⟩⟩
  all_goals (
    go_wp2_with fail
    go_ret
    exact ⟨rfl, K1.out⟩)
theorem isNaN_any (n : Int) (w : World) : Calls Tryz.prog 100 #[.int .i64 n] w fun e w' => e = .returned (.bool false) ∧ w' = w := by
  go_enter Tryz.func100, Tryz.ntmps100
  go_wp2_with fail
  go_ret
  exact ⟨rfl, rfl⟩
theorem cmpI_any (a b : Int) (w : World) : Calls Tryz.prog 51 #[.int .i64 a, .int .i64 b] w fun e w' => e = .returned (.int .i64 (cmpI a b)) ∧ w' = w := by
  have hn := fun n W => isNaN_any n W
  rcases (by omega : a < b ∨ (¬ a < b ∧ b < a) ∨ (¬ a < b ∧ ¬ b < a)) with h1 | ⟨h1, h2⟩ | ⟨h1, h2⟩
  · have HR : Hid (cmpI a b = -1) := Lib.hid (by unfold cmpI; rw [if_pos h1])
    go_enter Tryz.func51, Tryz.ntmps51
    go_wp2_with (go_at_call 100; refine (hn _ _).mono ?_; rintro e w' ⟨rfl, hw⟩; rw [hw]; clear hw)
    go_ret
    exact ⟨ret_eq (by rw [HR.out]; rfl), rfl⟩
  · have HR : Hid (cmpI a b = 1) := Lib.hid (by unfold cmpI; rw [if_neg h1, if_pos h2])
    go_enter Tryz.func51, Tryz.ntmps51
    go_wp2_with (go_at_call 100; refine (hn _ _).mono ?_; rintro e w' ⟨rfl, hw⟩; rw [hw]; clear hw)
    go_ret
    exact ⟨ret_eq (by rw [HR.out]; rfl), rfl⟩
  · have HR : Hid (cmpI a b = 0) := Lib.hid (by unfold cmpI; rw [if_neg h1, if_neg h2])
    go_enter Tryz.func51, Tryz.ntmps51
    go_wp2_with (go_at_call 100; refine (hn _ _).mono ?_; rintro e w' ⟨rfl, hw⟩; rw [hw]; clear hw)
    go_ret
    exact ⟨ret_eq (by rw [HR.out]; rfl), rfl⟩
set_option maxHeartbeats 1000000 in
theorem orI_any (g : Nat) (a b : Int) (w : World) (h0 : w.cell? ⟨g, 0, none⟩ = some (.int .i64 a)) (h1 : w.cell? ⟨g, 1, none⟩ = some (.int .i64 b)) :
    Calls Tryz.prog 85 #[.slice (some ⟨g, 0, none⟩) 2 2] w fun e w' => e = .returned (.int .i64 (if a = 0 then b else a)) ∧ w' = w := by
  by_cases ha : a = 0
  · subst ha
    simp only [if_true]
    by_cases hb : b = 0
    · subst hb
      go_enter Tryz.func85, Tryz.ntmps85
      go_wp2_with fail
      refine wp_loop_rounds 3 ?_
      iterate 3 (rw [rounds_succ]; go_wp2_with fail)
      go_ret
      exact ⟨rfl, rfl⟩
    · have hq : (b == 0) = false := by simpa using hb
      have hq2 : (b != 0) = true := by simpa using hb
      clear hb
      go_enter Tryz.func85, Tryz.ntmps85
      go_wp2_with fail
      refine wp_loop_rounds 3 ?_
      iterate 2 (rw [rounds_succ]; go_wp2_with fail)
      go_ret
      exact ⟨rfl, rfl⟩
  · rw [if_neg ha]
    have hq : (a == 0) = false := by simpa using ha
    have hq2 : (a != 0) = true := by simpa using ha
    clear ha
    go_enter Tryz.func85, Tryz.ntmps85
    go_wp2_with fail
    refine wp_loop_rounds 3 ?_
    rw [rounds_succ]
    go_wp2_with fail
    go_ret
    exact ⟨rfl, rfl⟩

end Go.Proofs.YtgbgbokcohfnpaaGreat
