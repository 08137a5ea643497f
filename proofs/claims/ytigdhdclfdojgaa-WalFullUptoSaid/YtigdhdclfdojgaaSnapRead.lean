/-
  THE WALK of snap: read, current.
-/
import Derived.Test.YtigdhdclfdojgaaSnapWalk
import Derived.Deep.MidRow
import Derived.Laws.ResultCell
namespace Go.Proofs.Ytigdhdclfdojgaa
open Go.RowKit

def papC (p : Pap) : Array Value := #[.int .i64 (p.turn : Int), .int .i64 (p.slot : Int), .int .u64 (p.sum : Int)]
def papV (p : Pap) : Value := .agg (papC p)
theorem info_pap : (Try.prog.info? 88).map (·.size) = some 3 := by kernel_rfl
theorem pap_load (w : World) (g : Nat) (cs : Array Value) (h : w.heap[g]? = some (.cells cs 88 (0, 0))) (h3 : cs.size = 3) : (loadVar 88 ⟨g, 0, none⟩).run Try.prog w = .ok (.agg cs) w :=
  run_loadVar_row w g 88 88 cs (0, 0) _ h Try.underlying88 rfl (by rw [info_pap, h3])
theorem results_pap_tmp {fn : Func} {p u : Tmp} (h : fn.results = #[.cell p 88, .tmp u]) (tmps : Array Value) (w : World) (g : Nat) (cs : Array Value)
    (hp : tmps.getD p undef = .pointer (some ⟨g, 0, none⟩)) (hg : w.heap[g]? = some (.cells cs 88 (0, 0))) (h3 : cs.size = 3) :
    (results fn tmps).run Try.prog w = .ok (.tuple #[.agg cs, tmps.getD u undef]) w := by
  have hp' : tmps[p]?.getD undef = .pointer (some ⟨g, 0, none⟩) := by simpa using hp
  simp [results, h, hp', asAddr, pap_load w g cs hg h3]
def putP (w : World) (g : Nat) (p : Pap) : World := w.setCells g 0 (papC p).toList
theorem putP_kp (w : World) (g : Nat) (p : Pap) : Kp (fun j => j = g) w (putP w g p) :=
  (((Kp.refl (fun j => j = g) w).setCell (p := ⟨g, 0, none⟩) (fun _ => rfl) _).setCell (p := ⟨g, 1, none⟩) (fun _ => rfl) _).setCell (p := ⟨g, 2, none⟩) (fun _ => rfl) _
theorem putP_heap {w : World} {g e : Nat} {a0 a1 a2 : Value} (p : Pap) (h : w.heap[g]? = some (.cells #[a0, a1, a2] e (0, 0))) : (putP w g p).heap[g]? = some (.cells (papC p) e (0, 0)) :=
  (heap_set_cell (heap_set_cell (heap_set_cell h))).trans (by simp [papC])
theorem there_row3 {w : World} {g e : Nat} {cs : Array Value} (h : w.heap[g]? = some (.cells cs e (0, 0))) : w.there g 0 cs.size := by
  intro j hj
  refine ⟨?_, by simp [World.frozen?, h]⟩
  rw [Nat.zero_add, cell_of_row w g j cs e (0, 0) h, Array.getElem?_eq_getElem hj]
  rfl
theorem wpList_store_pap {ops : Array Oper} {rest : List Oper} {op : Oper} {a : Act} {w : World} {Q : Exit → Act → World → Prop} (hgd : op.guard = none) (x y : Operand) (ho : op.op = .store 88 x y)
    (g : Nat) (p : Pap) (hx : a.eval x = .pointer (some ⟨g, 0, none⟩)) (hy : a.eval y = papV p) {a0 a1 a2 : Value} (hb : w.heap[g]? = some (.cells #[a0, a1, a2] 88 (0, 0)))
    (h : wpList Try.prog ops Q rest (a.put op.dst undef) (putP w g p)) : wpList Try.prog ops Q (op :: rest) a w :=
  wpList_store_mid hgd 88 x y ho g 0 (papC p) hx hy (show w.there g 0 (papC p).size from there_row3 (cs := #[a0, a1, a2]) hb) info_pap (by unfold papC; simp [Value.oneCell']) h

/-- What read and current answer. -/
structure PapTo (w : World) (R : Pap × Nat) (e : Ending) (w' : World) : Prop where
  ex : e = .returned (.tuple #[papV R.1, .int .i64 (R.2 : Int)]) ∧ Kp Noone w w'

theorem openE_le (l : List UInt8) : 0 ≤ openE l ∧ openE l ≤ 14 := by
  unfold openE
  split
  · omega
  · split <;> omega

attribute [local irreducible] putP

set_option maxHeartbeats 2000000 in
set_option maxRecDepth 100000 in
theorem readP_any (bo : Option Addr) (n cap : Nat) (b : List UInt8) (w : World) (hb : BS w bo n cap b) (hn : n ≤ 140737488355328) :
    Calls Try.prog 77 #[.slice bo n cap] w fun e w' => PapTo w (readPF b) e w' := by
  have hA := heap_alloc_new w (.cells #[.int .i64 0, .int .i64 0, .int .u64 0] 88)
  have kA : Kp Noone w (w.alloc (.cells #[.int .i64 0, .int .i64 0, .int .u64 0] 88)) := (Kp.refl _ _).alloc _
  have hlb := hb.len
  obtain ⟨RES, hRES⟩ : ∃ x, Hid (readPF b = x) := ⟨_, Lib.hid rfl⟩
  rw [hRES.out]
  have HR := hRES.out
  unfold readPF at HR
  have HRR := Lib.hid HR
  clear hRES HR
  go_enter Try.func77, Try.ntmps77
  go_upto_region 1 with fail
  generalize w.alloc (.cells #[.int .i64 0, .int .i64 0, .int .u64 0] 88) = wA at *
  generalize hgx : w.heap.size = gx at *
  have hbA := hb.keep kA
  clear hb
  go_wp2_with fail
  refine (open_any bo n cap b _ hbA (by omega)).mono ?_
  rintro e w1 ⟨co, m, cc, rfl, ho, k1⟩
  have hx1 := k1.heap hA id
  have K1 := Lib.hid (kA.trans k1)
  have hob := ho.bs
  have hol := hob.len
  have hc1 := openL_length b
  have hoe := openE_le b
  generalize openL b = c at *
  generalize openE b = oe at *
  clear ho hbA hA kA k1
  by_cases hE : oe = 0
  · subst hE
    have HR2 := HRR.out
    rw [if_neg (by simp)] at HR2
    have HRR := Lib.hid HR2
    clear HR2
    go_wp2_with fail
    refine (newReader_any co m cc c _ hob (by omega)).mono ?_
    rintro e w2 ⟨r, rfl, hr, k2, hq⟩
    have hx2 := k2.heap hx1 id
    have K2 := Lib.hid (K1.out.trans k2)
    have hgr : gx < r := by have h1 := (Array.getElem?_eq_some_iff.1 hx1).1; omega
    clear hob k2 hx1 K1
    obtain ⟨R1, hR1⟩ : ∃ x, Hid (papR1 c = x) := ⟨_, Lib.hid rfl⟩
    obtain ⟨R2, hR2⟩ : ∃ x, Hid (papR2 c = x) := ⟨_, Lib.hid rfl⟩
    obtain ⟨R3, hR3⟩ : ∃ x, Hid (papR3 c = x) := ⟨_, Lib.hid rfl⟩
    have e1 : rcount c 0 1099511627776 = R1 := hR1.out
    have e2 : rcount R1.1.1 R1.1.2 1099511627776 = R2 := by rw [← hR1.out]; exact hR2.out
    have e3 : rnum R2.1.1 R2.1.2 = R3 := by rw [← hR2.out]; exact hR3.out
    have eP : papR c = (⟨R1.2, R2.2, R3.2⟩, rdone R3.1.1 R3.1.2) := by unfold papR; rw [hR1.out, hR2.out, hR3.out]
    have C1 := readerCount_any r c 0 1099511627776 w2 hr (by omega) (by omega)
    rw [e1] at C1
    have E2 := Lib.hid e2
    have E3 := Lib.hid e3
    have HRR := HRR.out
    rw [eP] at HRR
    have HRR := Lib.hid HRR
    clear e1 e2 e3 hR1 hR2 hR3 eP hr
    go_wp2_with fail
    refine C1.mono ?_
    rintro e w3 ⟨rfl, hr3, k3⟩
    have C2 := readerCount_any r R1.1.1 R1.1.2 1099511627776 w3 hr3 (by omega) (by omega)
    rw [E2.out] at C2
    have hx3 := k3.heap hx2 (by omega)
    have K3 := Lib.hid (K2.out.fin k3 (fun j e => Or.inr (by omega)))
    clear C1 hr3 k3 hx2 K2
    go_wp2_with fail
    refine C2.mono ?_
    rintro e w4 ⟨rfl, hr4, k4⟩
    have C3 := readerNum_any r R2.1.1 R2.1.2 w4 hr4
    rw [E3.out] at C3
    have hx4 := k4.heap hx3 (by omega)
    have K4 := Lib.hid (K3.out.fin k4 (fun j e => Or.inr (by omega)))
    clear C2 hr4 k4 hx3 K3
    go_wp2_with fail
    refine C3.mono ?_
    rintro e w5 ⟨rfl, hr5, k5⟩
    have hx5 := k5.heap hx4 (by omega)
    have K5 := K4.out.fin k5 (fun j e => Or.inr (by omega))
    obtain ⟨-, -, hrl⟩ := hr5.cells
    have kB : Kp Noone w5 (w5.alloc (.cells #[.int .i64 (R1.2 : Int), .int .i64 (R2.2 : Int), .int .u64 (R3.2 : Int)] 88)) := (Kp.refl _ _).alloc _
    have hbx := heap_alloc_new w5 (.cells #[.int .i64 (R1.2 : Int), .int .i64 (R2.2 : Int), .int .u64 (R3.2 : Int)] 88)
    have hx6 := kB.heap hx5 id
    have hr6 := hr5.keep kB
    have K6 := Lib.hid (K5.trans kB)
    have hgb : gx < w5.heap.size := (Array.getElem?_eq_some_iff.1 hx5).1
    clear C3 hr5 k5 hx4 K4 K5 kB hx5
    go_upto_region 6 with fail
    generalize w5.alloc (.cells #[.int .i64 (R1.2 : Int), .int .i64 (R2.2 : Int), .int .u64 (R3.2 : Int)] 88) = wB at *
    generalize w5.heap.size = gb at *
    go_wp2_with fail
    refine (readerDone_any r R3.1.1 R3.1.2 wB hr6).mono ?_
    rintro e w6 ⟨rfl, -, k6⟩
    have hx7 := k6.heap hx6 (by omega)
    have hb7 := k6.heap hbx (by omega)
    have K7 := Lib.hid (K6.out.fin k6 (fun j e => Or.inr (by omega)))
    clear hr6 k6 hx6 hbx K6
    generalize rdone R3.1.1 R3.1.2 = dn at *
    obtain ⟨y0, y1, y2, -, -, -⟩ := cells_three hb7
    generalize R1.2 = tn at *
    generalize R2.2 = sn at *
    generalize R3.2 = un at *
    by_cases hd : dn = 0
    · subst hd
      rw [Int.natCast_zero]
      by_cases ht : tn = 0
      · subst ht
        have HR3 := HRR.out
        rw [if_pos (Or.inr rfl)] at HR3
        subst HR3
        rw [Int.natCast_zero] at y0
        go_wp2_with (refine wpList_store_pap rfl (.tmp 2) (.tmp 33) rfl gx pap0 (by rfl) (by rfl) hx7 ?_)
        refine bodyPost_ret (v := .tuple #[papV pap0, .int .i64 44]) (by rw [results_pap_tmp rfl _ _ gx _ rfl (putP_heap pap0 hx7) rfl]; rfl) rfl ?_
        exact ⟨⟨rfl, K7.out.fin (putP_kp _ _ _) (fun j c => Or.inr (by omega))⟩⟩
      · have HR3 := HRR.out
        rw [if_neg (by simpa using ht)] at HR3
        subst HR3
        have hn0 : ((tn : Int) == 0) = false := by simpa using ht
        go_wp2_with (refine wpList_store_pap rfl (.tmp 2) (.tmp 34) rfl gx ⟨tn, sn, un⟩ (by rfl) (by rfl) hx7 ?_)
        refine bodyPost_ret (v := .tuple #[papV ⟨tn, sn, un⟩, .int .i64 0]) (by rw [results_pap_tmp rfl _ _ gx _ rfl (putP_heap ⟨tn, sn, un⟩ hx7) rfl]; rfl) rfl ?_
        exact ⟨⟨rfl, K7.out.fin (putP_kp _ _ _) (fun j c => Or.inr (by omega))⟩⟩
    · have HR3 := HRR.out
      rw [if_pos (Or.inl hd)] at HR3
      subst HR3
      have hn0 : ((dn : Int) != 0) = true := by simpa using hd
      go_wp2_with (refine wpList_store_pap rfl (.tmp 2) (.tmp 33) rfl gx pap0 (by rfl) (by rfl) hx7 ?_)
      refine bodyPost_ret (v := .tuple #[papV pap0, .int .i64 44]) (by rw [results_pap_tmp rfl _ _ gx _ rfl (putP_heap pap0 hx7) rfl]; rfl) rfl ?_
      exact ⟨⟨rfl, K7.out.fin (putP_kp _ _ _) (fun j c => Or.inr (by omega))⟩⟩
  · have HR2 := HRR.out
    rw [if_pos hE] at HR2
    have hne : (oe != 0) = true := by simpa using hE
    subst HR2
    go_wp2_with (refine wpList_store_pap rfl (.tmp 2) (.tmp 15) rfl gx pap0 (by rfl) (by rfl) hx1 ?_)
    refine bodyPost_ret (v := .tuple #[papV pap0, .int .i64 44]) (by rw [results_pap_tmp rfl _ _ gx _ rfl (putP_heap pap0 hx1) rfl]; rfl) rfl ?_
    exact ⟨⟨rfl, K1.out.fin (putP_kp _ _ _) (fun j c => Or.inr (by omega))⟩⟩

theorem readF_len {s : DS} (h : DOk s) (k : ByteArray) : (readF s k).1.length ≤ 140737488355328 := by
  unfold readF
  split
  · simp
  · exact (h.get k).2.2

set_option maxHeartbeats 2000000 in
set_option maxRecDepth 100000 in
theorem current_dk (col : Nat → Nat) (i p : Nat) (s : DS) (w : World) (h : Dk col i w p s) :
    Calls Try.prog 40 #[.pointer (some ⟨p, 0, none⟩)] w fun e w' => PapTo w (currentF s) e w' := by
  have hA := heap_alloc_new w (.cells #[.int .i64 0, .int .i64 0, .int .u64 0] 88)
  have kA : Kp Noone w (w.alloc (.cells #[.int .i64 0, .int .i64 0, .int .u64 0] 88)) := (Kp.refl _ _).alloc _
  have hlen := readF_len h.2 ckNow
  obtain ⟨RES, hRES⟩ : ∃ x, Hid (currentF s = x) := ⟨_, Lib.hid rfl⟩
  rw [hRES.out]
  have HR := hRES.out
  unfold currentF at HR
  have hrd := read_dk col i p s ckNow _ (h.keep kA) (by decide)
  generalize readF s ckNow = R at *
  obtain ⟨b, e1⟩ := R
  simp only [] at HR hrd hlen
  have HRR := Lib.hid HR
  clear hRES HR
  go_enter Try.func40, Try.ntmps40
  go_upto_region 1 with fail
  generalize w.alloc (.cells #[.int .i64 0, .int .i64 0, .int .u64 0] 88) = wA at *
  generalize hgx : w.heap.size = gx at *
  go_wp2_with fail
  refine hrd.mono ?_
  rintro e w1 ⟨bo, c, rfl, ho, k1⟩
  have hx1 := k1.heap hA id
  have K1 := Lib.hid (kA.trans k1)
  have hob := ho.bs
  clear ho hrd hA kA k1 h
  by_cases h0 : e1 = 0
  · subst h0
    have HR2 := HRR.out
    rw [if_pos rfl] at HR2
    rw [Int.natCast_zero]
    go_wp2_with fail
    refine (readP_any bo b.length c b _ hob hlen).mono ?_
    rintro e w2 hto
    obtain ⟨rfl, k2⟩ := hto.ex
    have hx2 := k2.heap hx1 id
    rw [HR2] 
    have HR3 := Lib.hid HR2
    clear hto HR2
    obtain ⟨⟨tn, sn, un⟩, E⟩ := RES
    unfold papV papC
    simp only []
    go_wp2_with (refine wpList_store_pap rfl (.tmp 2) (.tmp 16) rfl gx ⟨tn, sn, un⟩ (by rfl) (by rfl) hx2 ?_)
    refine bodyPost_ret (v := .tuple #[papV ⟨tn, sn, un⟩, .int .i64 (E : Int)]) (by rw [results_pap_tmp rfl _ _ gx _ rfl (putP_heap ⟨tn, sn, un⟩ hx2) rfl]; rfl) rfl ?_
    exact ⟨⟨rfl, (K1.out.trans k2).fin (putP_kp _ _ _) (fun j c => Or.inr (by omega))⟩⟩
  · by_cases h41 : e1 = 41
    · subst h41
      have HR2 := HRR.out
      rw [if_neg (by decide), if_pos rfl] at HR2
      subst HR2
      go_wp2_with (refine wpList_store_pap rfl (.tmp 2) (.tmp 20) rfl gx pap0 (by rfl) (by rfl) hx1 ?_)
      refine bodyPost_ret (v := .tuple #[papV pap0, .int .i64 0]) (by rw [results_pap_tmp rfl _ _ gx _ rfl (putP_heap pap0 hx1) rfl]; rfl) rfl ?_
      exact ⟨⟨rfl, K1.out.fin (putP_kp _ _ _) (fun j c => Or.inr (by omega))⟩⟩
    · have HR2 := HRR.out
      rw [if_neg h0, if_neg h41] at HR2
      subst HR2
      have hn0 : ((e1 : Int) == 0) = false := by simpa using h0
      have hn1 : ((e1 : Int) == 41) = false := by simp; omega
      go_wp2_with (refine wpList_store_pap rfl (.tmp 2) (.tmp 21) rfl gx pap0 (by rfl) (by rfl) hx1 ?_)
      refine bodyPost_ret (v := .tuple #[papV pap0, .int .i64 (e1 : Int)]) (by rw [results_pap_tmp rfl _ _ gx _ rfl (putP_heap pap0 hx1) rfl]; rfl) rfl ?_
      exact ⟨⟨rfl, K1.out.fin (putP_kp _ _ _) (fun j c => Or.inr (by omega))⟩⟩

end Go.Proofs.Ytigdhdclfdojgaa
