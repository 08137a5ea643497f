/-
  strings.Split at a blank and strings.Cut at a line end, as splitF has them; the boxes of Read.
-/
import Derived.Test.YtfinbppmkffbhaaDoorScriptD
import Derived.Test.YtfinbppmkffbhaaDoorScriptE
import Derived.Test.YtfinbppmkffbhaaDoorScriptF
import Derived.Test.YtfinbppmkffbhaaDoorCuts
import Derived.Lib.SplitLaws
import Derived.Lib.IndexBytes
import Derived.Deep.MidRow
namespace Go.Proofs.YtfinbppmkffbhaaDoor
open Go.RowKit Go.Sort

/-! ### In plain Lean -/
theorem index_miss (c : UInt8) (s : List UInt8) (h : c ∉ s) : Lib.indexByte s c = -1 := by
  induction s with
  | nil => rfl
  | cons b r ih =>
    have h1 : (b == c) = false := beq_eq_false_iff_ne.2 (fun e => h (by rw [e]; exact List.mem_cons_self ..))
    unfold Lib.indexByte
    rw [h1, ih (fun m => h (List.mem_cons_of_mem _ m))]
    rfl
theorem index_hit (c : UInt8) (a r : List UInt8) (h : c ∉ a) : Lib.indexByte (a ++ c :: r) c = a.length := by
  induction a with
  | nil => simp [Lib.indexByte]
  | cons b t ih =>
    have h1 : (b == c) = false := beq_eq_false_iff_ne.2 (fun e => h (by rw [e]; exact List.mem_cons_self ..))
    have h2 := ih (fun m => h (List.mem_cons_of_mem _ m))
    rw [List.cons_append]
    unfold Lib.indexByte
    rw [h1, h2]
    have h3 : ((t.length : Int) == -1) = false := beq_eq_false_iff_ne.2 (by omega)
    simp only [Bool.false_eq_true, if_false, h3, List.length_cons]
    omega
theorem first_of (c : UInt8) (s : List UInt8) (h : c ∈ s) : ∃ a r, s = a ++ c :: r ∧ c ∉ a := by
  induction s with
  | nil => cases h
  | cons b t ih =>
    by_cases e : b = c
    · exact ⟨[], t, by rw [e]; rfl, by simp⟩
    · have hm : c ∈ t := by
        rcases List.mem_cons.1 h with h | h
        · exact (e h.symm).elim
        · exact h
      obtain ⟨a, r, h1, h2⟩ := ih hm
      refine ⟨b :: a, r, by rw [h1]; rfl, ?_⟩
      intro m
      rcases List.mem_cons.1 m with m | m
      · exact e m.symm
      · exact h2 m
theorem splitK_one (c : UInt8) (k : Nat) : ∀ s : List UInt8, s.count c = k → Lib.splitK [c] 0 k s = splitF c s := by
  induction k with
  | zero =>
    intro s h
    rw [splitF_miss c s (List.count_eq_zero.1 h)]
    rfl
  | succ k ih =>
    intro s h
    obtain ⟨a, r, rfl, ha⟩ := first_of c s (List.count_pos_iff.1 (by omega))
    have hc : r.count c = k := by
      rw [List.count_append, List.count_eq_zero.2 ha, List.count_cons_self] at h
      omega
    have hi : Lib.index (a ++ c :: r) [c] = a.length := by rw [Lib.index_one, index_hit c a r ha]
    unfold Lib.splitK
    rw [hi, if_neg (by simp), splitF_hit c a r ha]
    have e1 : ((a.length : Int)).toNat = a.length := by omega
    rw [e1, Nat.add_zero, List.take_left' rfl]
    have e2 : (a ++ c :: r).drop (a.length + [c].length) = r := by
      rw [List.drop_append]
      simp
    rw [e2, ih r hc]
theorem splitB_one (s : ByteArray) (c : UInt8) : (Lib.splitB ⟨#[c]⟩ 0 (Lib.countB s ⟨#[c]⟩) s).map Value.string = sv (splitF c s.data.toList) := by
  have h1 := Lib.splitB_data ⟨#[c]⟩ 0 (Lib.countB s ⟨#[c]⟩) s
  have h2 : Lib.countB s ⟨#[c]⟩ = s.data.toList.count c := Lib.count_one c s.data.toList
  have h3 := splitK_one c _ s.data.toList rfl
  rw [h2] at h1 ⊢
  have h4 : (Lib.splitB ⟨#[c]⟩ 0 (s.data.toList.count c) s).map (·.data.toList) = splitF c s.data.toList := h1.trans h3
  rw [← h4]
  unfold sv
  rw [List.map_map]
  apply List.map_congr_left
  intro x _
  show Value.string x = strV x.data.toList
  unfold strV
  rw [← ba_of]

/-- The library's tables and errors, and the bound of its search. -/
structure LaidS (w : World) : Prop where
  laid : Laid w
  len : ∃ m, w.cell? ⟨1, 0, none⟩ = some (.int .i64 m)
theorem LaidS.keep {w w' : World} (h : LaidS w) (k : Kp Noone w w') : LaidS w' := by
  obtain ⟨m, hm⟩ := h.len
  exact ⟨h.laid.keep k, m, k.cell hm id⟩
structure SplitTo (l : List UInt8) (w : World) (e : Ending) (w' : World) : Prop where
  kp : Kp Noone w w'
  is : ∃ ao n, e = .returned (.slice ao n n) ∧ n = (splitF 32 l).length ∧ SS w' ao n n (splitF 32 l)
theorem split_any (s : ByteArray) (w : World) (hs : s.size ≤ 4194304) (hL : LaidS w) :
    Calls Tryd.prog 30 #[.string s, .string ⟨#[32]⟩] w fun e w' => SplitTo s.data.toList w e w' := by
  obtain ⟨m, hm⟩ := hL.len
  refine (Tryd.strings_Split s ⟨#[32]⟩ m w (by omega) hm (by decide)).mono ?_
  rintro e w' ⟨rfl, rfl⟩
  have hb := splitB_one s 32
  have hc : Lib.countB s ⟨#[32]⟩ = s.data.toList.count 32 := Lib.count_one 32 s.data.toList
  have hn := split_len 32 s.data.toList
  have hcl : s.data.toList.count 32 ≤ s.size := by
    have := List.count_le_length (a := (32 : UInt8)) (l := s.data.toList)
    rw [ba_len] at this
    exact this
  refine ⟨(Kp.refl _ _).alloc _, _, _, rfl, by rw [hn, hc], by rw [hn, hc], Nat.le_refl _, by unfold maxLen; omega, ?_⟩
  rw [hb]
  exact Row.ofHeap (heap_alloc_new w _)

/-! ### The boxes -/
theorem heap_set_cell {w : World} {g : Nat} {cs : Array Value} {e : TypeId} {fr : Nat × Nat} (h : w.heap[g]? = some (.cells cs e fr)) {i : Nat} {u : Value} :
    (w.setCell ⟨g, i, none⟩ u).heap[g]? = some (.cells (cs.setIfInBounds i u) e fr) := by
  simp [World.setCell, Array.getElem?_modify, h]
theorem there_at {w : World} {g e o n : Nat} {cs : Array Value} (h : w.heap[g]? = some (.cells cs e (0, 0))) (hn : o + n ≤ cs.size) : w.there g o n := by
  intro j hj
  refine ⟨?_, by simp [World.frozen?, h]⟩
  rw [cell_of_row w g (o + j) cs e (0, 0) h, Array.getElem?_eq_getElem (by omega)]
  rfl
def loc0 : Loc := ⟨none, 0, none, 0⟩
def putC (w : World) (g : Nat) (c : CmdV) (l : Loc) : World := w.setCells g 0 (cmdCs c l).toList
theorem putC_heap {w : World} {g e : Nat} {a0 a1 a2 a3 a4 a5 a6 a7 : Value} (c : CmdV) (l : Loc) (h : w.heap[g]? = some (.cells #[a0, a1, a2, a3, a4, a5, a6, a7] e (0, 0))) : (putC w g c l).heap[g]? = some (.cells (cmdCs c l) e (0, 0)) :=
  (heap_set_cell (heap_set_cell (heap_set_cell (heap_set_cell (heap_set_cell (heap_set_cell (heap_set_cell (heap_set_cell h)))))))).trans (by simp [cmdCs])
theorem putC_kp {w w1 : World} (k : Kp Noone w w1) {g : Nat} (hg : w.heap.size ≤ g) (c : CmdV) (l : Loc) : Kp Noone w (putC w1 g c l) :=
  kp_new (kp_new (kp_new (kp_new (kp_new (kp_new (kp_new (kp_new k hg _ _) hg _ _) hg _ _) hg _ _) hg _ _) hg _ _) hg _ _) hg _ _
theorem putC_off {w : World} {g p : Nat} {o : Obj} (h : w.heap[p]? = some o) (hne : g ≠ p) (c : CmdV) (l : Loc) : (putC w g c l).heap[p]? = some o :=
  set_off (set_off (set_off (set_off (set_off (set_off (set_off (set_off h hne _ _) hne _ _) hne _ _) hne _ _) hne _ _) hne _ _) hne _ _) hne _ _
theorem info_cmd : (Tryd.prog.info? 27).map (·.size) = some 8 := by kernel_rfl
theorem info_op : (Tryd.prog.info? 24).map (·.size) = some 5 := by kernel_rfl
theorem wpList_store_cmd {ops : Array Oper} {rest : List Oper} {op : Oper} {a : Act} {w : World} {Q : Exit → Act → World → Prop} (hgd : op.guard = none) (x y : Operand) (ho : op.op = .store 27 x y)
    (g : Nat) (c : CmdV) (l : Loc) (hx : a.eval x = .pointer (some ⟨g, 0, none⟩)) (hy : a.eval y = cmdV c l) {a0 a1 a2 a3 a4 a5 a6 a7 : Value} (hb : w.heap[g]? = some (.cells #[a0, a1, a2, a3, a4, a5, a6, a7] 27 (0, 0)))
    (h : wpList Tryd.prog ops Q rest (a.put op.dst undef) (putC w g c l)) : wpList Tryd.prog ops Q (op :: rest) a w :=
  wpList_store_mid hgd 27 x y ho g 0 (cmdCs c l) hx hy (show w.there g 0 8 from there_at (cs := #[a0, a1, a2, a3, a4, a5, a6, a7]) hb (Nat.le_refl _)) info_cmd (by unfold cmdCs strV; simp [Value.oneCell']) h
/-- The operation of a command's box is stored. -/
def putO (w : World) (g : Nat) (o : OpV) : World := w.setCells g 2 (opCs o).toList
theorem putO_heap {w : World} {g e : Nat} {a0 a1 a2 a3 a4 a5 a6 a7 : Value} (o : OpV) (h : w.heap[g]? = some (.cells #[a0, a1, a2, a3, a4, a5, a6, a7] e (0, 0))) :
    (putO w g o).heap[g]? = some (.cells #[a0, a1, .int .i64 o.kind, .int .i64 o.reg, .int .i64 o.to, .int .i64 o.re, .int .i64 o.im, a7] e (0, 0)) :=
  (heap_set_cell (heap_set_cell (heap_set_cell (heap_set_cell (heap_set_cell h))))).trans (by simp)
theorem putO_kp {w w1 : World} (k : Kp Noone w w1) {g : Nat} (hg : w.heap.size ≤ g) (o : OpV) : Kp Noone w (putO w1 g o) :=
  kp_new (kp_new (kp_new (kp_new (kp_new k hg _ _) hg _ _) hg _ _) hg _ _) hg _ _
theorem putO_off {w : World} {g p : Nat} {ob : Obj} (h : w.heap[p]? = some ob) (hne : g ≠ p) (o : OpV) : (putO w g o).heap[p]? = some ob :=
  set_off (set_off (set_off (set_off (set_off h hne _ _) hne _ _) hne _ _) hne _ _) hne _ _
theorem wpList_store_op {ops : Array Oper} {rest : List Oper} {op : Oper} {a : Act} {w : World} {Q : Exit → Act → World → Prop} (hgd : op.guard = none) (x y : Operand) (ho : op.op = .store 24 x y)
    (g : Nat) (o : OpV) (hx : a.eval x = .pointer (some ⟨g, 2, none⟩)) (hy : a.eval y = opV o) {a0 a1 a2 a3 a4 a5 a6 a7 : Value} (hb : w.heap[g]? = some (.cells #[a0, a1, a2, a3, a4, a5, a6, a7] 27 (0, 0)))
    (h : wpList Tryd.prog ops Q rest (a.put op.dst undef) (putO w g o)) : wpList Tryd.prog ops Q (op :: rest) a w :=
  wpList_store_mid hgd 24 x y ho g 2 (opCs o) hx hy (show w.there g 2 5 from there_at (cs := #[a0, a1, a2, a3, a4, a5, a6, a7]) hb (by simp)) info_op (by unfold opCs; simp [Value.oneCell']) h
/-- The two boxes of Read: its result (zero so far) and the command. -/
structure CSt (w : World) (r q : Nat) (c : CmdV) (l : Loc) (W : World) : Prop where
  kp : Kp Noone w W
  res : W.heap[r]? = some (.cells (cmdCs cmd0 loc0) 27 (0, 0))
  box : W.heap[q]? = some (.cells (cmdCs c l) 27 (0, 0))
theorem CSt.keep {w W W' : World} {r q : Nat} {c : CmdV} {l : Loc} (h : CSt w r q c l W) (k : Kp Noone W W') : CSt w r q c l W' :=
  ⟨h.kp.trans' k (fun _ _ c => c), k.heap h.res id, k.heap h.box id⟩
theorem CSt.set {w W : World} {r q : Nat} {c c' : CmdV} {l l' : Loc} (h : CSt w r q c l W) (hq : w.heap.size ≤ q) (hne : q ≠ r) (i : Nat) (u : Value)
    (ho : (cmdCs c l).setIfInBounds i u = cmdCs c' l') : CSt w r q c' l' (W.setCell ⟨q, i, none⟩ u) :=
  ⟨kp_new h.kp hq i u, set_off h.res hne i u, by rw [← ho]; exact heap_set_cell h.box⟩
theorem CSt.setOp {w W : World} {r q : Nat} {v : List UInt8} {ns : List Int} {o0 : OpV} {d : List UInt8} {l : Loc} (h : CSt w r q ⟨v, ns, o0, d⟩ l W) (hq : w.heap.size ≤ q) (hne : q ≠ r) (o : OpV) : CSt w r q ⟨v, ns, o, d⟩ l (putO W q o) :=
  ⟨putO_kp h.kp hq o, putO_off h.res hne o, putO_heap o h.box⟩
/-- Where a write to a box of its own is no harm. -/
theorem CmdAt.zero (w : World) : CmdAt w cmd0 loc0 :=
  ⟨IS.nil _ _, ⟨rfl, Nat.le_refl _, by decide, Row.nil _ _⟩, by decide, by decide, by decide, (fun n hn => by cases hn), by decide⟩
theorem read_results (tmps : Array Value) (W : World) (r : Nat) (c : CmdV) (l : Loc) (e : Int) (h2 : tmps.getD 2 undef = .pointer (some ⟨r, 0, none⟩)) (h3 : tmps.getD 3 undef = .int .i64 e) (hh : W.heap[r]? = some (.cells (cmdCs c l) 27 (0, 0))) :
    (results Tryd.f15 tmps).run Tryd.prog W = .ok (.tuple #[cmdV c l, .int .i64 e]) W := by
  rw [results_cell_tmp (p := 2) (u := 3) (ty := 27) rfl, h2, h3]
  simp [asAddr, run_loadVar_row W r 27 27 _ _ _ hh Tryd.underlying27 rfl (by kernel_rfl), cmdV]
theorem SS.kp {S : Nat → Prop} {w w' : World} {ao : Option Addr} {n cap : Nat} {ls : List (List UInt8)} (h : SS w ao n cap ls) (k : Kp S w w') (ho : Off S ao) : SS w' ao n cap ls :=
  ⟨h.len, h.le, h.max, h.row.kp k ho⟩
theorem numsF_none {l : List (List UInt8)} {x : List UInt8} (h : x ∈ l) (hx : numF x = none) : numsF l = none := by
  induction l with
  | nil => cases h
  | cons a r ih =>
    unfold numsF
    rcases List.mem_cons.1 h with rfl | h
    · rw [hx]
    · rw [ih h]
      cases numF a <;> rfl
theorem numsF_snoc {l : List (List UInt8)} {x : List UInt8} {ns : List Int} {n : Int} (h : numsF l = some ns) (hx : numF x = some n) : numsF (l ++ [x]) = some (ns ++ [n]) := by
  induction l generalizing ns with
  | nil =>
    injection h with h
    subst h
    simp [numsF, hx]
  | cons a r ih =>
    unfold numsF at h
    split at h
    · cases h
    · rename_i m hm
      split at h
      · cases h
      · rename_i t ht
        injection h with h
        subst h
        rw [List.cons_append, numsF, hm, ih ht]
        rfl
theorem numsF_len {l : List (List UInt8)} {ns : List Int} (h : numsF l = some ns) : ns.length = l.length := by
  have := congrArg List.length (map_numsF h)
  simpa using this
/-- A command whose slices lie in blocks of F. -/
structure CmdIn (F : Nat → Prop) (w : World) (c : CmdV) (l : Loc) : Prop where
  nums : Own F w 3 1 l.no c.nums.length l.nc (c.nums.map (Value.int .i64))
  data : Own F w 5 1 l.bo c.data.length l.bc (bv c.data)
  verb : c.verb.length ≤ 4194304
  dlen : c.data.length ≤ 4194304
  nlen : c.nums.length ≤ 4194304
  nb : ∀ n ∈ c.nums, -9223372036854775808 ≤ n ∧ n ≤ 9223372036854775807
  ob : (-9223372036854775808 ≤ c.op.kind ∧ c.op.kind ≤ 9223372036854775807) ∧ (-9223372036854775808 ≤ c.op.reg ∧ c.op.reg ≤ 9223372036854775807) ∧ (-9223372036854775808 ≤ c.op.to ∧ c.op.to ≤ 9223372036854775807) ∧ (-9223372036854775808 ≤ c.op.re ∧ c.op.re ≤ 9223372036854775807) ∧ (-9223372036854775808 ≤ c.op.im ∧ c.op.im ≤ 9223372036854775807)
theorem CmdIn.kp {F S : Nat → Prop} {w w' : World} {c : CmdV} {l : Loc} (h : CmdIn F w c l) (k : Kp S w w') (hd : ∀ k, F k → ¬ S k) : CmdIn F w' c l :=
  ⟨h.nums.kp k hd, h.data.kp k hd, h.verb, h.dlen, h.nlen, h.nb, h.ob⟩
theorem CmdIn.keep {F : Nat → Prop} {w w' : World} {c : CmdV} {l : Loc} (h : CmdIn F w c l) (k : Kp Noone w w') : CmdIn F w' c l := h.kp k (fun _ _ c => c.elim)
theorem CmdIn.mono {F G : Nat → Prop} {w : World} {c : CmdV} {l : Loc} (h : CmdIn F w c l) (hfg : ∀ k, k < w.heap.size → F k → G k) : CmdIn G w c l :=
  ⟨h.nums.mono hfg, h.data.mono hfg, h.verb, h.dlen, h.nlen, h.nb, h.ob⟩
theorem CmdIn.zero (F : Nat → Prop) (w : World) : CmdIn F w cmd0 loc0 :=
  ⟨Own.nil _ _ _ _ _, Own.nil _ _ _ _ _, by decide, by decide, by decide, (fun n hn => by cases hn), by decide⟩
/-- What Read answers. -/
structure LineTo (line : List UInt8) (w : World) (e : Ending) (w' : World) : Prop where
  kp : Kp Noone w w'
  is : ∃ l, e = .returned (.tuple #[cmdV (readF line).1 l, .int .i64 (readF line).2]) ∧ CmdIn (fun g => w.heap.size ≤ g) w' (readF line).1 l
theorem okOp_bounds {o : OpV} (h : okOp o = true) : (-9223372036854775808 ≤ o.kind ∧ o.kind ≤ 9223372036854775807) ∧ (-9223372036854775808 ≤ o.reg ∧ o.reg ≤ 9223372036854775807) ∧ (-9223372036854775808 ≤ o.to ∧ o.to ≤ 9223372036854775807) ∧ (-9223372036854775808 ≤ o.re ∧ o.re ≤ 9223372036854775807) ∧ (-9223372036854775808 ≤ o.im ∧ o.im ≤ 9223372036854775807) := by
  have h1 := okOp_kind h
  have h2 := okOp_reg h
  have h3 := okOp_to h
  have h4 := rB_bound (okOp_rB h)
  omega
theorem Own.is {F : Nat → Prop} {w : World} {ao : Option Addr} {n cap : Nat} {xs : List Int} (h : Own F w 3 1 ao n cap (xs.map (Value.int .i64))) : IS w ao n cap xs :=
  ⟨by have := h.1; simpa using this, h.2.1, h.2.2.1, h.row⟩
theorem CmdIn.at {F : Nat → Prop} {w : World} {c : CmdV} {l : Loc} (h : CmdIn F w c l) : CmdAt w c l := ⟨h.nums.is, h.data.bs, h.verb, h.dlen, h.nlen, h.nb, h.ob⟩
/-- The command is laid into the result's box. -/
theorem lineTo_fin {line v : List UInt8} {ns : List Int} {o : OpV} {d : List UInt8} {no bo : Option Addr} {nc bc r q B : Nat} {w W : World} (hrd : readF line = (⟨v, ns, o, d⟩, 0)) (HC : CSt w r q ⟨v, ns, o, d⟩ ⟨no, nc, bo, bc⟩ W)
    (hr : w.heap.size ≤ r) (hB : r < B) (hn : Own (fun g => B ≤ g) W 3 1 no ns.length nc (ns.map (Value.int .i64))) (hd : Own (fun g => B ≤ g) W 5 1 bo d.length bc (bv d))
    (h1 : v.length ≤ 4194304) (h2 : d.length ≤ 4194304) (h3 : ns.length ≤ 4194304) (h4 : ∀ n ∈ ns, -9223372036854775808 ≤ n ∧ n ≤ 9223372036854775807)
    (h5 : (-9223372036854775808 ≤ o.kind ∧ o.kind ≤ 9223372036854775807) ∧ (-9223372036854775808 ≤ o.reg ∧ o.reg ≤ 9223372036854775807) ∧ (-9223372036854775808 ≤ o.to ∧ o.to ≤ 9223372036854775807) ∧ (-9223372036854775808 ≤ o.re ∧ o.re ≤ 9223372036854775807) ∧ (-9223372036854775808 ≤ o.im ∧ o.im ≤ 9223372036854775807)) :
    LineTo line w (.returned (.tuple #[cmdV ⟨v, ns, o, d⟩ ⟨no, nc, bo, bc⟩, .int .i64 0])) (putC W r ⟨v, ns, o, d⟩ ⟨no, nc, bo, bc⟩) := by
  have kr : Kp (fun g => g = r) W (putC W r ⟨v, ns, o, d⟩ ⟨no, nc, bo, bc⟩) :=
    ((((((((Kp.refl (fun g => g = r) W).setCell (p := ⟨r, 0, none⟩) (fun _ => rfl) _).setCell (p := ⟨r, 1, none⟩) (fun _ => rfl) _).setCell (p := ⟨r, 2, none⟩) (fun _ => rfl) _).setCell (p := ⟨r, 3, none⟩) (fun _ => rfl) _).setCell (p := ⟨r, 4, none⟩) (fun _ => rfl) _).setCell (p := ⟨r, 5, none⟩) (fun _ => rfl) _).setCell (p := ⟨r, 6, none⟩) (fun _ => rfl) _).setCell (p := ⟨r, 7, none⟩) (fun _ => rfl) _
  refine ⟨putC_kp HC.kp hr _ _, ⟨no, nc, bo, bc⟩, by rw [hrd], ?_⟩
  rw [hrd]
  exact ⟨(hn.kp kr (fun x hx c => by omega)).mono (fun x hx h => by omega), (hd.kp kr (fun x hx c => by omega)).mono (fun x hx h => by omega), h1, h2, h3, h4, h5⟩

end Go.Proofs.YtfinbppmkffbhaaDoor
