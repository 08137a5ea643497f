/-
  THE WALKS of the document's New and Mount.
-/
import Derived.Test.YtigdhdclfdojgaaGreatRefDiskA
namespace Go.Proofs.YtigdhdclfdojgaaGreat
open Go.RowKit

/-- The document's disk. -/
structure RD where
  L : Img
  room : Int
  steps : Int
  fuse : Int
  down : Bool
def rdC (ao : Option Addr) (cap : Nat) (m : RD) : Array Value := #[.slice ao m.L.length cap, .int .i64 m.room, .int .i64 m.steps, .int .i64 m.fuse, .bool m.down]
def rdV (ao : Option Addr) (cap : Nat) (m : RD) : Value := .agg (rdC ao cap m)

theorem info_disk : (Tryz.prog.info? 26).map (·.size) = some 5 := by kernel_rfl
theorem disk_load (w : World) (g : Nat) (cs : Array Value) (h : w.heap[g]? = some (.cells cs 26 (0, 0))) (h5 : cs.size = 5) : (loadVar 26 ⟨g, 0, none⟩).run Tryz.prog w = .ok (.agg cs) w :=
  run_loadVar_row w g 26 26 cs (0, 0) _ h Tryz.underlying26 rfl (by rw [info_disk, h5])
theorem results_disk_tmp {fn : Func} {p u : Tmp} (h : fn.results = #[.cell p 26, .tmp u]) (tmps : Array Value) (w : World) (g : Nat) (cs : Array Value)
    (hp : tmps.getD p undef = .pointer (some ⟨g, 0, none⟩)) (hg : w.heap[g]? = some (.cells cs 26 (0, 0))) (h5 : cs.size = 5) :
    (results fn tmps).run Tryz.prog w = .ok (.tuple #[.agg cs, tmps.getD u undef]) w := by
  have hp' : tmps[p]?.getD undef = .pointer (some ⟨g, 0, none⟩) := by simpa using hp
  simp [results, h, hp', asAddr, disk_load w g cs hg h5]
theorem results_disk_tmp2 {fn : Func} {p u v : Tmp} (h : fn.results = #[.cell p 26, .tmp u, .tmp v]) (tmps : Array Value) (w : World) (g : Nat) (cs : Array Value)
    (hp : tmps.getD p undef = .pointer (some ⟨g, 0, none⟩)) (hg : w.heap[g]? = some (.cells cs 26 (0, 0))) (h5 : cs.size = 5) :
    (results fn tmps).run Tryz.prog w = .ok (.tuple #[.agg cs, tmps.getD u undef, tmps.getD v undef]) w := by
  have hp' : tmps[p]?.getD undef = .pointer (some ⟨g, 0, none⟩) := by simpa using hp
  simp [results, h, hp', asAddr, disk_load w g cs hg h5]
theorem set5_heap {w : World} {g e : Nat} {a0 a1 a2 a3 a4 : Value} (h : w.heap[g]? = some (.cells #[a0, a1, a2, a3, a4] e (0, 0))) (c0 c1 c2 c3 c4 : Value) :
    (((((w.setCell ⟨g, 0, none⟩ c0).setCell ⟨g, 1, none⟩ c1).setCell ⟨g, 2, none⟩ c2).setCell ⟨g, 3, none⟩ c3).setCell ⟨g, 4, none⟩ c4).heap[g]? = some (.cells #[c0, c1, c2, c3, c4] e (0, 0)) :=
  (heap_set_cell (heap_set_cell (heap_set_cell (heap_set_cell (heap_set_cell h))))).trans (by simp)
theorem set5_kpS {S : Nat → Prop} {w w1 : World} {g : Nat} (k : Kp S w w1) (hg : S g) (c0 c1 c2 c3 c4 : Value) :
    Kp S w (((((w1.setCell ⟨g, 0, none⟩ c0).setCell ⟨g, 1, none⟩ c1).setCell ⟨g, 2, none⟩ c2).setCell ⟨g, 3, none⟩ c3).setCell ⟨g, 4, none⟩ c4) :=
  ((((k.setCell (fun _ => hg) _).setCell (fun _ => hg) _).setCell (fun _ => hg) _).setCell (fun _ => hg) _).setCell (fun _ => hg) _
/-- A box takes another disk. -/
def putD (w : World) (g : Nat) (ao : Option Addr) (cap : Nat) (m : RD) : World := w.setCells g 0 (rdC ao cap m).toList
theorem putD_kp (w : World) (g : Nat) (ao : Option Addr) (cap : Nat) (m : RD) : Kp (fun j => j = g) w (putD w g ao cap m) := set5_kpS (Kp.refl (fun j => j = g) w) (g := g) rfl (.slice ao m.L.length cap) (.int .i64 m.room) (.int .i64 m.steps) (.int .i64 m.fuse) (.bool m.down)
theorem putD_heap {w : World} {g e : Nat} {a0 a1 a2 a3 a4 : Value} (ao : Option Addr) (cap : Nat) (m : RD) (h : w.heap[g]? = some (.cells #[a0, a1, a2, a3, a4] e (0, 0))) : (putD w g ao cap m).heap[g]? = some (.cells (rdC ao cap m) e (0, 0)) :=
  set5_heap h (.slice ao m.L.length cap) (.int .i64 m.room) (.int .i64 m.steps) (.int .i64 m.fuse) (.bool m.down)
theorem there_row {w : World} {g e : Nat} {cs : Array Value} (h : w.heap[g]? = some (.cells cs e (0, 0))) : w.there g 0 cs.size := by
  intro j hj
  refine ⟨?_, by simp [World.frozen?, h]⟩
  rw [Nat.zero_add, cell_of_row w g j cs e (0, 0) h, Array.getElem?_eq_getElem hj]
  rfl
theorem wpList_store_disk {ops : Array Oper} {rest : List Oper} {op : Oper} {a : Act} {w : World} {Q : Exit → Act → World → Prop} (hgd : op.guard = none) (x y : Operand) (ho : op.op = .store 26 x y)
    (g : Nat) (ao : Option Addr) (cap : Nat) (m : RD) (hx : a.eval x = .pointer (some ⟨g, 0, none⟩)) (hy : a.eval y = rdV ao cap m) {a0 a1 a2 a3 a4 : Value} (hb : w.heap[g]? = some (.cells #[a0, a1, a2, a3, a4] 26 (0, 0)))
    (h : wpList Tryz.prog ops Q rest (a.put op.dst undef) (putD w g ao cap m)) : wpList Tryz.prog ops Q (op :: rest) a w :=
  wpList_store_mid hgd 26 x y ho g 0 (rdC ao cap m) hx hy (show w.there g 0 (rdC ao cap m).size from there_row (cs := #[a0, a1, a2, a3, a4]) hb) info_disk (by unfold rdC; simp [Value.oneCell']) h

def newR (room : Int) : RD := ⟨[], max 0 (min room 4194304), 0, 0, false⟩
set_option maxRecDepth 100000 in
theorem newR_any (room : Int) (w : World) : Calls Tryz.prog 22 #[.int .i64 room] w fun e w' => e = .returned (rdV none 0 (newR room)) ∧ Kp Noone w w' := by
  have h0 := heap_alloc_new w (.cells #[.slice none 0 0, .int .i64 0, .int .i64 0, .int .i64 0, .bool false] 26)
  have kA : Kp Noone w (w.alloc (.cells #[.slice none 0 0, .int .i64 0, .int .i64 0, .int .i64 0, .bool false] 26)) := (Kp.refl _ _).alloc _
  by_cases c1 : room < 0
  · have e : Hid (newR room = ⟨[], 0, 0, 0, false⟩) := Lib.hid (by unfold newR; rw [show max 0 (min room 4194304) = 0 by omega])
    rw [e.out]
    go_enter Tryz.func22, Tryz.ntmps22
    go_upto_region 5 with fail
    generalize w.alloc (.cells #[.slice none 0 0, .int .i64 0, .int .i64 0, .int .i64 0, .bool false] 26) = wA at *
    go_wp2_with (refine wpList_store_disk (by dsimp only) (.tmp 2) (.tmp 8) (by dsimp only) w.heap.size none 0 ⟨[], 0, 0, 0, false⟩ (by rfl) (by rfl) h0 ?_)
    exact bodyPost_ret (v := rdV none 0 ⟨[], 0, 0, 0, false⟩) (results_cell_row (ty := 26) rfl _ _ w.heap.size _ _ _ _ rfl (putD_heap none 0 ⟨[], 0, 0, 0, false⟩ h0) Tryz.underlying26 rfl info_disk) rfl ⟨rfl, kA.fin (putD_kp _ _ _ _ _) (fun j c => Or.inr (Nat.le_of_eq c.symm))⟩
  · by_cases c2 : 4194304 < room
    · have e : Hid (newR room = ⟨[], 4194304, 0, 0, false⟩) := Lib.hid (by unfold newR; rw [show max 0 (min room 4194304) = 4194304 by omega])
      rw [e.out]
      go_enter Tryz.func22, Tryz.ntmps22
      go_upto_region 5 with fail
      generalize w.alloc (.cells #[.slice none 0 0, .int .i64 0, .int .i64 0, .int .i64 0, .bool false] 26) = wA at *
      go_wp2_with (refine wpList_store_disk (by dsimp only) (.tmp 2) (.tmp 8) (by dsimp only) w.heap.size none 0 ⟨[], 4194304, 0, 0, false⟩ (by rfl) (by rfl) h0 ?_)
      exact bodyPost_ret (v := rdV none 0 ⟨[], 4194304, 0, 0, false⟩) (results_cell_row (ty := 26) rfl _ _ w.heap.size _ _ _ _ rfl (putD_heap none 0 ⟨[], 4194304, 0, 0, false⟩ h0) Tryz.underlying26 rfl info_disk) rfl ⟨rfl, kA.fin (putD_kp _ _ _ _ _) (fun j c => Or.inr (Nat.le_of_eq c.symm))⟩
    · have e : Hid (newR room = ⟨[], room, 0, 0, false⟩) := Lib.hid (by unfold newR; rw [show max 0 (min room 4194304) = room by omega])
      rw [e.out]
      go_enter Tryz.func22, Tryz.ntmps22
      go_upto_region 5 with fail
      generalize w.alloc (.cells #[.slice none 0 0, .int .i64 0, .int .i64 0, .int .i64 0, .bool false] 26) = wA at *
      go_wp2_with (refine wpList_store_disk (by dsimp only) (.tmp 2) (.tmp 8) (by dsimp only) w.heap.size none 0 ⟨[], room, 0, 0, false⟩ (by rfl) (by rfl) h0 ?_)
      exact bodyPost_ret (v := rdV none 0 ⟨[], room, 0, 0, false⟩) (results_cell_row (ty := 26) rfl _ _ w.heap.size _ _ _ _ rfl (putD_heap none 0 ⟨[], room, 0, 0, false⟩ h0) Tryz.underlying26 rfl info_disk) rfl ⟨rfl, kA.fin (putD_kp _ _ _ _ _) (fun j c => Or.inr (Nat.le_of_eq c.symm))⟩

/-- A region to whose end every order comes with one frame (but for two letters). -/
theorem wp_region_to {P : Program} {id : Nat} {ops : Array Oper} {b : Bool} {Q : Exit → Act → World → Prop} {a : Act} {w : World} {F : Option Addr → Nat → Act} {G : Option Addr → Nat → World → Prop}
    (h : (Code.region id ops b).wp P (NoPanic fun e a' w' => e = .normal ∧ ∃ ao cap, a' = F ao cap ∧ G ao cap w') a w) (k : ∀ ao cap w', G ao cap w' → Q .normal (F ao cap) w') : (Code.region id ops b).wp P Q a w :=
  Code.wp_mono (fun e a' w' q => by
    obtain ⟨rfl, ao, cap, rfl, hg⟩ := NoPanic.imp e a' w' q
    exact k ao cap w' hg) h

/-! ### Mount -/

theorem withS_mem (a : ByteArray × AreaP) (L : Img) : ∀ s : Img × Bool, ∀ y ∈ (L.foldl (withStep a) s).1, y = a ∨ y ∈ s.1 ∨ y ∈ L := by
  induction L with
  | nil => intro s y hy; exact Or.inr (Or.inl hy)
  | cons x r ih =>
    intro s y hy
    have h1 := ih (withStep a s x) y hy
    rcases h1 with h1 | h1 | h1
    · exact Or.inl h1
    · unfold withStep at h1
      simp only [] at h1
      have h2 : ∀ q : Bool, y ∈ (if q = true then (s.1 ++ [a], true) else s).1 → y = a ∨ y ∈ s.1 := fun q h => by
        cases q with
        | true => have h : y ∈ s.1 ∨ y = a := by simpa using h
                  exact h.elim Or.inr Or.inl
        | false => exact Or.inr (by simpa using h)
      split at h1
      · rcases h2 _ h1 with h | h
        · exact Or.inl h
        · exact Or.inr (Or.inl h)
      · rcases List.mem_append.1 h1 with h | h
        · rcases h2 _ h with h | h
          · exact Or.inl h
          · exact Or.inr (Or.inl h)
        · exact Or.inr (Or.inr (by simp at h; rw [h]; simp))
    · exact Or.inr (Or.inr (by simp [h1]))
theorem withL_mem {a : ByteArray × AreaP} {L : Img} {y : ByteArray × AreaP} (h : y ∈ withL L a) : y = a ∨ y ∈ L := by
  unfold withL at h
  have h1 : ∀ y ∈ (withS a L).1, y = a ∨ y ∈ L := fun y hy => by
    rcases withS_mem a L ([], false) y hy with h | h | h
    · exact Or.inl h
    · simp at h
    · exact Or.inr h
  split at h
  · exact h1 y h
  · rcases List.mem_append.1 h with h | h
    · exact h1 y h
    · exact Or.inl (by simpa using h)
def boolN (b : Bool) : Nat := if b = true then 1 else 0
theorem withS_len2 (a : ByteArray × AreaP) (L : Img) : ∀ s : Img × Bool, (L.foldl (withStep a) s).1.length + boolN s.2 ≤ s.1.length + L.length + boolN (L.foldl (withStep a) s).2 := by
  induction L with
  | nil => intro s; simp
  | cons x r ih =>
    intro s
    have h1 := ih (withStep a s x)
    have h2 : (withStep a s x).1.length + boolN s.2 ≤ s.1.length + 1 + boolN (withStep a s x).2 := by
      unfold withStep
      simp only []
      obtain ⟨M, dn⟩ := s
      cases dn <;> cases Op.bytesLess x.1.toList a.1.toList <;> by_cases h : x.1 = a.1 <;> simp [h, boolN]
    show (r.foldl (withStep a) (withStep a s x)).1.length + boolN s.2 ≤ s.1.length + (r.length + 1) + boolN (r.foldl (withStep a) (withStep a s x)).2
    omega
theorem withL_len (L : Img) (a : ByteArray × AreaP) : (withL L a).length ≤ L.length + 1 := by
  have h := withS_len2 a L ([], false)
  unfold withL
  have h2 : (withS a L).1.length ≤ L.length + boolN (withS a L).2 := by unfold withS; simpa [boolN] using h
  generalize withS a L = S at *
  obtain ⟨M, dn⟩ := S
  cases dn <;> simp [boolN] at * <;> omega

def mountRE (L : Img) (x : ByteArray × AreaP) : Nat := if nameOk x.1 = false then 40 else if alGet x.1 L ≠ none ∨ x.2.safe < 0 ∨ (x.2.data.length : Int) < x.2.safe then 1 else 0
def mountRL : Img → Img → Img × Nat
  | [], L => (L, 0)
  | x :: r, L => if mountRE L x ≠ 0 then (L, mountRE L x) else mountRL r (withL L x)
def mountR (room : Int) (As : Img) : RD × Nat :=
  if 64 < As.length then (newR room, 43)
  else if (mountRL As []).2 ≠ 0 then ({ newR room with L := (mountRL As []).1 }, (mountRL As []).2)
  else if (newR room).room < sumL (mountRL As []).1 then ({ newR room with L := (mountRL As []).1 }, 42)
  else ({ newR room with L := (mountRL As []).1 }, 0)

theorem atL_none {L : Img} {k : ByteArray} (h : alGet k L = none) : atL L k = -1 := by
  unfold atL
  rw [idxL_none.2 h]
theorem atL_some {L : Img} {k : ByteArray} (h : alGet k L ≠ none) : ∃ i, ∃ hi : i < L.length, atL L k = (i : Int) ∧ L[i].1 = k ∧ alGet k L = some L[i].2 := by
  unfold atL
  cases hx : idxL k L with
  | none => exact absurd (idxL_none.1 hx) h
  | some i =>
    obtain ⟨h1, h2, h3⟩ := idxL_some hx
    exact ⟨i, h1, rfl, h2, h3⟩

/-- What Mount answers. -/
structure MtTo (P : Nat → Prop) (w : World) (R : RD × Nat) (e : Ending) (w' : World) : Prop where
  ex : ∃ ao cap, e = .returned (.tuple #[rdV ao cap R.1, .int .i64 (R.2 : Int)]) ∧ RA P w' ao R.1.L.length cap R.1.L ∧ Kp Noone w w'
/-- Between two areas. -/
structure MQ (P : Nat → Prop) (gd gr n : Nat) (rm : Int) (wB : World) (As : Img) (v : Value) (wr : World) : Prop where
  ex : ∃ (j : Nat) (L : Img) (ao : Option Addr) (cap : Nat), v = .int .i64 (j : Int) ∧ j ≤ n ∧ wr.heap[gd]? = some (.cells #[.slice ao L.length cap, .int .i64 rm, .int .i64 0, .int .i64 0, .bool false] 26 (0, 0)) ∧
    Kp (fun i => i = gd) wB wr ∧ RA (fun i => P i ∧ i ≠ gd ∧ i ≠ gr) wr ao L.length cap L ∧ L.length ≤ j ∧ (∀ x ∈ L, 0 ≤ x.2.safe ∧ x.2.safe ≤ 140737488355328) ∧ mountRL As [] = mountRL (As.drop j) L

set_option maxHeartbeats 4000000 in
set_option maxRecDepth 100000 in
theorem mountR_any (P : Nat → Prop) (room : Int) (fo : Option Addr) (n cap : Nat) (As : Img) (w : World) (h : RA P w fo n cap As) (hP : ∀ j, w.heap.size ≤ j → P j) (hn : n ≤ 9223372036854775807) (hD : ∀ x ∈ As, x.2.data.length ≤ 140737488355328) (hNm : ∀ x ∈ As, x.1.size ≤ 9223372036854775807) :
    Calls Tryz.prog 5 #[.int .i64 room, .slice fo n cap] w fun e w' => MtTo P w (mountR room As) e w' := by
  have hlen := h.len
  obtain ⟨RES, hRES⟩ : ∃ x, Hid (mountR room As = x) := ⟨_, Lib.hid rfl⟩
  rw [hRES.out]
  have HR := hRES.out
  unfold mountR at HR
  have hr0 := heap_alloc_new w (.cells #[.slice none 0 0, .int .i64 0, .int .i64 0, .int .i64 0, .bool false] 26)
  have kA : Kp Noone w (w.alloc (.cells #[.slice none 0 0, .int .i64 0, .int .i64 0, .int .i64 0, .bool false] 26)) := (Kp.refl _ _).alloc _
  have esz := alloc_size w (.cells #[.slice none 0 0, .int .i64 0, .int .i64 0, .int .i64 0, .bool false] 26)
  obtain ⟨rm, hrm⟩ : ∃ x, Hid (max 0 (min room 4194304) = x) := ⟨_, Lib.hid rfl⟩
  have hrmb : 0 ≤ rm ∧ rm ≤ 4194304 := by have := hrm.out; omega
  have hnew := newR_any room (w.alloc (.cells #[.slice none 0 0, .int .i64 0, .int .i64 0, .int .i64 0, .bool false] 26))
  have hNR : newR room = ⟨[], rm, 0, 0, false⟩ := by unfold newR; rw [hrm.out]
  rw [hNR] at hnew HR
  have HL := Lib.hid (h.mono (Q := fun j => P j ∧ j < w.heap.size) (fun i hi c => ⟨c, hi⟩))
  have HP := Lib.hid hP
  have HD := Lib.hid hD
  have HN := Lib.hid hNm
  have HRR := Lib.hid HR
  clear h hP hD hNm HR hRES
  go_enter Tryz.func5, Tryz.ntmps5
  go_wp2_with fail
  refine hnew.mono ?_
  rintro e w1 ⟨rfl, k1⟩
  have kB : Kp Noone w1 (w1.alloc (.cells #[.slice none 0 0, .int .i64 rm, .int .i64 0, .int .i64 0, .bool false] 26)) := (Kp.refl _ _).alloc _
  have hb0 := heap_alloc_new w1 (.cells #[.slice none 0 0, .int .i64 rm, .int .i64 0, .int .i64 0, .bool false] 26)
  have hrB := kB.heap (k1.heap hr0 id) id
  have KB := Lib.hid ((kA.trans k1).trans kB)
  have hg1 : w.heap.size < w1.heap.size := by have := k1.size; omega
  unfold rdV rdC
  go_upto_region 2 with fail
  generalize w1.alloc (.cells #[.slice none 0 0, .int .i64 rm, .int .i64 0, .int .i64 0, .bool false] 26) = wB at *
  generalize w1.heap.size = gd at *
  have hbl := (Array.getElem?_eq_some_iff.1 hb0).1
  clear hnew hr0 kA k1 kB esz hNR
  by_cases h64 : 64 < As.length
  · have hE := HRR.out
    rw [if_pos h64] at hE
    have hgt : (n : Int) > 64 := by omega
    have HE := Lib.hid hE
    clear hE HRR
    obtain ⟨⟨q0, q1, q2, q3, q4⟩, -⟩ := cells_five hb0
    go_wp2_with (refine wpList_store_disk (by dsimp only) (.tmp 4) (.tmp 14) (by dsimp only) w.heap.size none 0 ⟨[], rm, 0, 0, false⟩ (by rfl) (by rfl) hrB ?_)
    refine bodyPost_ret (v := .tuple #[rdV none 0 ⟨[], rm, 0, 0, false⟩, .int .i64 43]) (by rw [results_disk_tmp rfl _ _ w.heap.size _ rfl (putD_heap none 0 ⟨[], rm, 0, 0, false⟩ hrB) rfl]; rfl) rfl ?_
    have hE := HE.out
    subst hE
    exact ⟨⟨none, 0, rfl, RA.nil _ _ _, KB.out.fin (putD_kp _ _ _ _ _) (fun j c => Or.inr (Nat.le_of_eq c.symm))⟩⟩
  · have HR2 : Hid (RES = if (mountRL As []).2 ≠ 0 then (⟨(mountRL As []).1, rm, 0, 0, false⟩, (mountRL As []).2) else if rm < sumL (mountRL As []).1 then (⟨(mountRL As []).1, rm, 0, 0, false⟩, 42) else (⟨(mountRL As []).1, rm, 0, 0, false⟩, 0)) := Lib.hid (by
      have h := HRR.out
      rw [if_neg h64] at h
      exact h.symm)
    have hngt : ¬ (n : Int) > 64 := by omega
    have hszB := KB.out.size
    have R0 : Hid (MQ P gd w.heap.size n rm wB As (.int .i64 0) wB) := Lib.hid ⟨⟨0, [], none, 0, by rfl, Nat.zero_le _, hb0, Kp.refl _ _, RA.nil _ _ _, by simp, by simp, by rw [List.drop_zero]⟩⟩
    clear HRR
    go_wp2_with fail
    go_loopw [17] (fun v wr => MQ P gd w.heap.size n rm wB As v wr) (fun v _ => n - (intOf v).toNat)
    case atStart => exact R0.out
    case round =>
      clear R0
      obtain ⟨j, L, ao, cap, rfl, hj, hbox, kr, hRA, hLl, hLs, hML⟩ := hrel.ex
      have hwr : Kp Noone w wr := KB.out.fin kr (fun i c => Or.inr (by subst c; omega))
      have hrr := kr.heap hrB (fun c => by omega)
      have hszr := kr.size
      have HBX := Lib.hid hbox
      have HRR := Lib.hid hrr
      have HRA := Lib.hid hRA
      have HLS := Lib.hid hLs
      have HKR := Lib.hid kr
      have HWR := Lib.hid hwr
      by_cases hlt : j < n
      · have hjl : j < As.length := by omega
        have hwj : IntKind.i64.wrap ((j : Int) + 1) = (j : Int) + 1 := IntWalk.i64_in _ (by omega)
        obtain ⟨b, off, bo, m, c, rfl, hbl2, hPb, c0, c1, c2, hda⟩ := (HL.out.keep hwr).get j hjl
        have hdr : As.drop j = As[j] :: As.drop (j + 1) := List.drop_eq_getElem_cons hjl
        have hdl := HD.out _ (List.getElem_mem hjl)
        have hnz := HN.out _ (List.getElem_mem hjl)
        rw [hdr] at hML
        generalize As[j] = x at *
        obtain ⟨nm, xd, xs⟩ := x
        try simp only [] at c0 c1 c2 hda hdl hnz
        have hML2 : mountRL As [] = if mountRE L (nm, ⟨xd, xs⟩) ≠ 0 then (L, mountRE L (nm, ⟨xd, xs⟩)) else mountRL (As.drop (j + 1)) (withL L (nm, ⟨xd, xs⟩)) := hML
        have HML := Lib.hid hML2
        have HDA := Lib.hid hda
        have hxm : xd.length = m := hda.1.len
        have kX : Kp Noone wr (wr.alloc (.cells #[.string nm, .slice bo m c, .int .i64 xs] 67)) := (Kp.refl _ _).alloc _
        have hXb := heap_alloc_new wr (.cells #[.string nm, .slice bo m c, .int .i64 xs] 67)
        have hbX := kX.heap hbox id
        have hrX := kX.heap hrr id
        have HKX := Lib.hid kX
        clear hML hML2 hdr hda kr hwr hbox hrr hRA hLs kX
        go_upto_region 8 with fail
        generalize wr.alloc (.cells #[.string nm, .slice bo m c, .int .i64 xs] 67) = wX at *
        clear c0 c1 c2
        generalize hga : wr.heap.size = ga at *
        obtain ⟨z0, z1, z2, -⟩ := cells_three hXb
        go_wp2_with fail
        refine (refRight_any nm wX hnz).mono ?_
        rintro e w6 ⟨rfl, rfl⟩
        have hfail : ∀ (er : Nat), er ≠ 0 → mountRE L (nm, ⟨xd, xs⟩) = er → Hid (RES = (⟨L, rm, 0, 0, false⟩, er)) := fun er he0 he => Lib.hid (by
          have h1 := HML.out
          rw [he, if_pos he0] at h1
          have h2 := HR2.out
          rw [h1] at h2
          rw [if_pos he0] at h2
          exact h2)
        cases hno : rightL nm.data.toList with
        | false =>
          have HE := hfail 40 (by decide) (by unfold mountRE nameOk; simp only []; rw [if_pos hno])
          obtain ⟨⟨q0, q1, q2, q3, q4⟩, -⟩ := cells_five hbX
          clear hno hfail
          go_wp2_with (refine wpList_store_disk (by dsimp only) (.tmp 4) (.tmp 28) (by dsimp only) w.heap.size ao cap ⟨L, rm, 0, 0, false⟩ (by rfl) (by rfl) hrX ?_)
          refine bodyPost_ret (v := .tuple #[rdV ao cap ⟨L, rm, 0, 0, false⟩, .int .i64 40]) (by rw [results_disk_tmp rfl _ _ w.heap.size _ rfl (putD_heap ao cap ⟨L, rm, 0, 0, false⟩ hrX) rfl]; rfl) rfl ?_
          have hE := HE.out
          subst hE
          exact ⟨⟨ao, cap, rfl, ((HRA.out.keep HKX.out).kp (putD_kp _ _ _ _ _) (fun i _ c e => c.2.2 e)).mono (fun i _ c => c.1), (HWR.out.trans HKX.out).fin (putD_kp _ _ _ _ _) (fun j c => Or.inr (Nat.le_of_eq c.symm))⟩⟩
        | true =>
          have hME : mountRE L (nm, ⟨xd, xs⟩) = if alGet nm L ≠ none ∨ xs < 0 ∨ (xd.length : Int) < xs then 1 else 0 := by unfold mountRE nameOk; simp only []; rw [if_neg (by rw [hno]; simp)]
          clear hno
          obtain ⟨⟨q0, q1, q2, q3, q4⟩, -⟩ := cells_five hbX
          go_wp2_with fail
          refine (at_ref _ ao L.length cap L rm 0 0 false nm wX (HRA.out.keep HKX.out) (by omega)).mono ?_
          rintro e w7 ⟨rfl, k7⟩
          have hb7 := k7.heap hbX id
          have hr7 := k7.heap hrX id
          have hX7 := k7.heap hXb id
          have HK7 := Lib.hid (HKX.out.trans k7)
          clear z0 z1 z2 q0 q1 q2 q3 q4 hXb hbX hrX k7
          obtain ⟨z0, z1, z2, -⟩ := cells_three hX7
          obtain ⟨⟨q0, q1, q2, q3, q4⟩, -⟩ := cells_five hb7
          by_cases hbad : alGet nm L ≠ none ∨ xs < 0 ∨ (xd.length : Int) < xs
          · have HE := hfail 1 (by decide) (by rw [hME, if_pos hbad])
            have hcase : (∃ i : Nat, atL L nm = (i : Int)) ∨ (atL L nm = -1 ∧ xs < 0) ∨ (atL L nm = -1 ∧ ¬ xs < 0 ∧ xs > (m : Int)) := by
              by_cases ha : alGet nm L = none
              · have e := atL_none ha
                rcases hbad with hb | hb | hb
                · exact absurd ha hb
                · exact Or.inr (Or.inl ⟨e, hb⟩)
                · by_cases h0 : xs < 0
                  · exact Or.inr (Or.inl ⟨e, h0⟩)
                  · exact Or.inr (Or.inr ⟨e, h0, by omega⟩)
              · obtain ⟨i, _, e, _⟩ := atL_some ha
                exact Or.inl ⟨i, e⟩
            clear hbad hfail hME
            generalize atL L nm = pl at *
            rcases hcase with ⟨i, rfl⟩ | ⟨rfl, h1⟩ | ⟨rfl, h1, h2⟩
            all_goals (
              go_wp2_with (refine wpList_store_disk (by dsimp only) (.tmp 4) (.tmp 47) (by dsimp only) w.heap.size ao cap ⟨L, rm, 0, 0, false⟩ (by rfl) (by rfl) hr7 ?_)
              refine bodyPost_ret (v := .tuple #[rdV ao cap ⟨L, rm, 0, 0, false⟩, .int .i64 1]) (by rw [results_disk_tmp rfl _ _ w.heap.size _ rfl (putD_heap ao cap ⟨L, rm, 0, 0, false⟩ hr7) rfl]; rfl) rfl ?_
              have hE := HE.out
              subst hE
              exact ⟨⟨ao, cap, rfl, ((HRA.out.keep HK7.out).kp (putD_kp _ _ _ _ _) (fun i _ c e => c.2.2 e)).mono (fun i _ c => c.1), (HWR.out.trans HK7.out).fin (putD_kp _ _ _ _ _) (fun j c => Or.inr (Nat.le_of_eq c.symm))⟩⟩)
          · have hz : alGet nm L = none := Classical.byContradiction fun c => hbad (Or.inl c)
            have hb1 : ¬ xs < 0 := fun c => hbad (Or.inr (Or.inl c))
            have hb2 : ¬ xs > (m : Int) := fun c => hbad (Or.inr (Or.inr (by omega)))
            have hml : Hid (mountRL As [] = mountRL (As.drop (j + 1)) (withL L (nm, ⟨xd, xs⟩))) := Lib.hid (by
              have h1 := HML.out
              rw [hME, if_neg hbad, if_neg (by simp)] at h1
              exact h1)
            have hne := atL_none hz
            clear hbad hfail hME
            generalize atL L nm = pl at *
            subst hne
            clear hz
            go_upto_region 12 with fail
            have hszw : wr.heap.size ≤ w7.heap.size := HK7.out.size
            have hgs : w.heap.size < w7.heap.size ∧ gd < w7.heap.size := ⟨by omega, by omega⟩
            have hC : Calls Tryz.prog 26 #[.slice bo m c] w7.drew fun e w8 => e = .returned (.slice (some ⟨w7.heap.size, 0, none⟩) m m) ∧ Kp Noone w7.drew w8 ∧ DataP (fun i => P i ∧ i ≠ gd ∧ i ≠ w.heap.size) w8 (some ⟨w7.heap.size, 0, none⟩) m m xd := by
              refine (copy_exact bo m c xd w7.drew (HDA.out.keep (HK7.out.drew)).1 (by omega)).mono ?_
              rintro e w8 ⟨he, hw8⟩
              obtain ⟨hbc, kw⟩ := copied2 hw8 hxm (by unfold maxLen; omega)
              refine ⟨he, kw, ?_⟩
              have hcp := (congrArg (fun x => x.heap[w7.heap.size]?) hw8).trans (heap_alloc_new w7.drew _)
              have h1 := (Array.getElem?_eq_some_iff.1 hcp).1
              exact (show DataP (fun i => i = w7.heap.size) w8 (some ⟨w7.heap.size, 0, none⟩) m m xd from ⟨hbc, fun _ a ha => by cases ha; exact ⟨rfl, h1⟩⟩).mono (fun i _ e => by
                subst e
                exact ⟨HP.out _ (by omega), by omega, by omega⟩)
            have hW : ∀ w8, Kp Noone w7.drew w8 → DataP (fun i => P i ∧ i ≠ gd ∧ i ≠ w.heap.size) w8 (some ⟨w7.heap.size, 0, none⟩) m m xd → Calls Tryz.prog 25 #[.slice ao L.length cap, .agg #[.string nm, .slice (some ⟨w7.heap.size, 0, none⟩) m m, .int .i64 xs]] w8 fun e w9 =>
                ∃ ao' cap', e = .returned (.slice ao' (withL L (nm, ⟨xd, xs⟩)).length cap') ∧ RA (fun i => P i ∧ i ≠ gd ∧ i ≠ w.heap.size) w9 ao' (withL L (nm, ⟨xd, xs⟩)).length cap' (withL L (nm, ⟨xd, xs⟩)) ∧ Kp Noone w8 w9 := fun w8 k8 hd8 =>
              with_any _ ao L.length cap L nm _ m m xd xs w8 ((HRA.out.keep HK7.out.drew).keep k8) hd8 (fun i hi => ⟨HP.out _ (by have := k8.size; have e : w7.drew.heap.size = w7.heap.size := rfl; omega), by have := k8.size; have e : w7.drew.heap.size = w7.heap.size := rfl; omega, by have := k8.size; have e : w7.drew.heap.size = w7.heap.size := rfl; omega⟩) (by omega)
            have hlen' : (withL L (nm, ⟨xd, xs⟩)).length ≤ j + 1 := by have := withL_len L (nm, ⟨xd, xs⟩); omega
            have hLs' : ∀ x ∈ withL L (nm, ⟨xd, xs⟩), 0 ≤ x.2.safe ∧ x.2.safe ≤ 140737488355328 := fun x hx => by
              rcases withL_mem hx with rfl | hx
              · show 0 ≤ xs ∧ xs ≤ 140737488355328
                omega
              · exact HLS.out x hx
            generalize hML' : withL L (nm, ⟨xd, xs⟩) = L' at *
            have hE : ∀ w8 w9 ao' cap', Kp Noone w7.drew w8 → Kp Noone w8 w9 → RA (fun i => P i ∧ i ≠ gd ∧ i ≠ w.heap.size) w9 ao' L'.length cap' L' →
                ((w9.setCell ⟨gd, 0, none⟩ (.slice ao' L'.length cap')).heap[gd]? = some (.cells #[.slice ao' L'.length cap', .int .i64 rm, .int .i64 0, .int .i64 0, .bool false] 26 (0, 0)) ∧
                Kp (fun i => i = gd) w7 (w9.setCell ⟨gd, 0, none⟩ (.slice ao' L'.length cap')) ∧ RA (fun i => P i ∧ i ≠ gd ∧ i ≠ w.heap.size) (w9.setCell ⟨gd, 0, none⟩ (.slice ao' L'.length cap')) ao' L'.length cap' L') := fun w8 w9 ao' cap' k8 k9 hr => by
              have k : Kp Noone w7 w9 := (((Kp.refl Noone w7).drew).trans k8).trans k9
              have hb9 := k.heap hb7 id
              exact ⟨(heap_set_cell hb9).trans (by simp), (k.none (S := fun i => i = gd)).setCell (fun _ => rfl) _, hr.kp ((Kp.refl (fun i => i = gd) w9).setCell (fun _ => rfl) _) (fun i _ c e => c.2.1 e)⟩
            have h9 : ∀ w8 w9, Kp Noone w7.drew w8 → Kp Noone w8 w9 → w9.cell? ⟨gd, 0, none⟩ = some (.slice ao L.length cap) ∧ w9.frozen? ⟨gd, 0, none⟩ = false := fun w8 w9 k8 k9 => by
              have k : Kp Noone w7 w9 := (((Kp.refl Noone w7).drew).trans k8).trans k9
              obtain ⟨⟨u0, -, -, -, -⟩, uf⟩ := cells_five (k.heap hb7 id)
              exact ⟨u0, uf 0⟩
            have h8 : ∀ w8, Kp Noone w7.drew w8 → w8.cell? ⟨gd, 0, none⟩ = some (.slice ao L.length cap) ∧ w8.cell? ⟨ga, 0, none⟩ = some (.string nm) ∧ w8.cell? ⟨ga, 2, none⟩ = some (.int .i64 xs) := fun w8 k8 => by
              have k : Kp Noone w7 w8 := ((Kp.refl Noone w7).drew).trans k8
              obtain ⟨v0, v1, v2, -⟩ := cells_three (k.heap hX7 id)
              exact ⟨(cells_five (k.heap hb7 id)).1.1, v0, v2⟩
            clear q1 q2 q3 q4
            apply wp_region_to (G := fun ao' cap' wx => wx.heap[gd]? = some (.cells #[.slice ao' L'.length cap', .int .i64 rm, .int .i64 0, .int .i64 0, .bool false] 26 (0, 0)) ∧
              Kp (fun i => i = gd) w7 wx ∧ RA (fun i => P i ∧ i ≠ gd ∧ i ≠ w.heap.size) wx ao' L'.length cap' L')
            · go_region_law (first
                | (go_simp; go_at_call 26; refine hC.mono ?_; rintro e w8 ⟨rfl, k8, hd8⟩; obtain ⟨hcC, hcD, hcE⟩ := h8 _ k8)
                | (go_simp; go_at_call 25; refine (hW _ k8 hd8).mono ?_; rintro e w9 ⟨ao', cap', rfl, hra9, k9⟩; obtain ⟨hcA, hcB⟩ := h9 _ _ k8 k9))
              all_goals exact NoPanic.normal ⟨rfl, _, _, rfl, hE _ _ _ _ k8 k9 hra9⟩
            · intro ao' cap' wx hG
              obtain ⟨hbx, kx, rax⟩ := hG
              have R : Hid (MQ P gd w.heap.size n rm wB As (.int .i64 ((j + 1 : Nat) : Int)) wx) := Lib.hid ⟨⟨j + 1, L', ao', cap', rfl, by omega, hbx, (HKR.out.trans HK7.out.none).trans kx, rax, hlen', hLs', hml.out⟩⟩
              clear hC hW hE h8 h9 hbx kx rax hml hlen' hLs'
              go_wp2_with fail
              go_roundw
              case rel => exact R.out
              case measure => simp [intOf]; omega
      · have he : mountRL As [] = (L, 0) := by rw [hML, List.drop_eq_nil_of_le (by omega)]; rfl
        have HR3 : Hid (RES = if rm < sumL L then (⟨L, rm, 0, 0, false⟩, 42) else (⟨L, rm, 0, 0, false⟩, 0)) := Lib.hid (by
          have h := HR2.out
          rw [he] at h
          simp only [ne_eq, not_true_eq_false, if_false] at h
          exact h)
        have hsm : L.Small := ⟨by omega, hLs⟩
        have hsb := hsm.sum
        have hcs : ∀ w', Kp Noone wr w' → (w'.cell? ⟨gd, 0, none⟩ = some (.slice ao L.length cap) ∧ w'.cell? ⟨gd, 1, none⟩ = some (.int .i64 rm) ∧ w'.cell? ⟨gd, 2, none⟩ = some (.int .i64 0) ∧ w'.cell? ⟨gd, 3, none⟩ = some (.int .i64 0) ∧ w'.cell? ⟨gd, 4, none⟩ = some (.bool false)) := fun w' k => (cells_five (k.heap hbox id)).1
        have HS := safe_ref _ ao L.length cap L rm 0 0 false wr.drew (HRA.out.keep ((Kp.refl _ _).drew)) hsm
        have k0 : Kp Noone wr wr.drew := (Kp.refl _ _).drew
        generalize sumL L = sm at *
        clear he HR2 hML hRA hLs kr hwr hbox hrr hsm
        obtain ⟨q0, q1, q2, q3, q4⟩ := hcs wr (Kp.refl _ _)
        go_upto_region 14 with fail
        clear q0 q1 q2 q3 q4
        go_region_held3 (fun w' => w'.cell? ⟨gd, 0, none⟩ = some (.slice ao L.length cap) ∧ w'.cell? ⟨gd, 1, none⟩ = some (.int .i64 rm) ∧ w'.cell? ⟨gd, 2, none⟩ = some (.int .i64 0) ∧ w'.cell? ⟨gd, 3, none⟩ = some (.int .i64 0) ∧ w'.cell? ⟨gd, 4, none⟩ = some (.bool false))
          (first | exact hcs _ k0 | exact hcs _ k2)
          ((go_at_call 27; refine HS.mono ?_; rintro e w1 ⟨rfl, k1⟩; have k2 : Kp Noone wr w1 := k0.trans k1))
        have hb1 := k2.heap HBX.out id
        have hr1 := k2.heap HRR.out id
        have HK2 := Lib.hid k2
        clear hcs HS k0 k1 k2
        obtain ⟨⟨q0, q1, q2, q3, q4⟩, -⟩ := cells_five hb1
        by_cases hgt : sm > rm
        · have HE : Hid (RES = (⟨L, rm, 0, 0, false⟩, 42)) := Lib.hid (by have h := HR3.out; rw [if_pos hgt] at h; exact h)
          go_wp2_with (refine wpList_store_disk (by dsimp only) (.tmp 4) (.tmp 66) (by dsimp only) w.heap.size ao cap ⟨L, rm, 0, 0, false⟩ (by rfl) (by rfl) hr1 ?_)
          refine bodyPost_ret (v := .tuple #[rdV ao cap ⟨L, rm, 0, 0, false⟩, .int .i64 42]) (by rw [results_disk_tmp rfl _ _ w.heap.size _ rfl (putD_heap ao cap ⟨L, rm, 0, 0, false⟩ hr1) rfl]; rfl) rfl ?_
          have hE := HE.out
          subst hE
          exact ⟨⟨ao, cap, rfl, ((HRA.out.keep HK2.out).kp (putD_kp _ _ _ _ _) (fun i _ c e => c.2.2 e)).mono (fun i _ c => c.1), (HWR.out.trans HK2.out).fin (putD_kp _ _ _ _ _) (fun j c => Or.inr (Nat.le_of_eq c.symm))⟩⟩
        · have HE : Hid (RES = (⟨L, rm, 0, 0, false⟩, 0)) := Lib.hid (by have h := HR3.out; rw [if_neg hgt] at h; exact h)
          go_wp2_with (refine wpList_store_disk (by dsimp only) (.tmp 4) (.tmp 67) (by dsimp only) w.heap.size ao cap ⟨L, rm, 0, 0, false⟩ (by rfl) (by rfl) hr1 ?_)
          refine bodyPost_ret (v := .tuple #[rdV ao cap ⟨L, rm, 0, 0, false⟩, .int .i64 0]) (by rw [results_disk_tmp rfl _ _ w.heap.size _ rfl (putD_heap ao cap ⟨L, rm, 0, 0, false⟩ hr1) rfl]; rfl) rfl ?_
          have hE := HE.out
          subst hE
          exact ⟨⟨ao, cap, rfl, ((HRA.out.keep HK2.out).kp (putD_kp _ _ _ _ _) (fun i _ c e => c.2.2 e)).mono (fun i _ c => c.1), (HWR.out.trans HK2.out).fin (putD_kp _ _ _ _ _) (fun j c => Or.inr (Nat.le_of_eq c.symm))⟩⟩

end Go.Proofs.YtigdhdclfdojgaaGreat
