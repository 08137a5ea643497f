/-
  The texts WalScan in one: what the claim reaches of them.
-/
import Derived.Test.YtgbgbokcohfnpaaGreatP08
import Derived.Test.YtgbgbokcohfnpaaGreatP09
import Derived.Deep.RegionHeld3
/-
  wal: THE WALK of scan.
-/
namespace Go.Proofs.YtgbgbokcohfnpaaGreat
open Go.RowKit

def scanF (s : DS) : FoundS := scanL ((listF s).map fun k => (k, (readF s k).1))
theorem info_fnd : (Tryz.prog.info? 127).map (·.size) = some 6 := by kernel_rfl
theorem fnd_load (w : World) (g : Nat) (cs : Array Value) (h : w.heap[g]? = some (.cells cs 127 (0, 0))) (h3 : cs.size = 6) : (loadVar 127 ⟨g, 0, none⟩).run Tryz.prog w = .ok (.agg cs) w :=
  run_loadVar_row w g 127 127 cs (0, 0) _ h Tryz.underlying127 rfl (by rw [info_fnd, h3])
theorem results_fnd {fn : Func} {p : Tmp} (h : fn.results = #[.cell p 127]) (tmps : Array Value) (w : World) (g : Nat) (cs : Array Value)
    (hp : tmps.getD p undef = .pointer (some ⟨g, 0, none⟩)) (hg : w.heap[g]? = some (.cells cs 127 (0, 0))) (h3 : cs.size = 6) :
    (results fn tmps).run Tryz.prog w = .ok (.agg cs) w := by
  have hp' : tmps[p]?.getD undef = .pointer (some ⟨g, 0, none⟩) := by simpa using hp
  simp [results, h, hp', asAddr, fnd_load w g cs hg h3]
/-- A variable takes what was found. -/
def putN (w : World) (g : Nat) (cs : Array Value) : World := w.setCells g 0 cs.toList
theorem putN_kp (w : World) (g : Nat) (a0 a1 a2 a3 a4 a5 : Value) : Kp (fun j => j = g) w (putN w g #[a0, a1, a2, a3, a4, a5]) :=
  ((((((Kp.refl (fun j => j = g) w).setCell (p := ⟨g, 0, none⟩) (fun _ => rfl) _).setCell (p := ⟨g, 1, none⟩) (fun _ => rfl) _).setCell (p := ⟨g, 2, none⟩) (fun _ => rfl) _).setCell (p := ⟨g, 3, none⟩) (fun _ => rfl) _).setCell (p := ⟨g, 4, none⟩) (fun _ => rfl) _).setCell (p := ⟨g, 5, none⟩) (fun _ => rfl) _
theorem putN_heap {w : World} {g e : Nat} {b0 b1 b2 b3 b4 b5 : Value} (a0 a1 a2 a3 a4 a5 : Value) (h : w.heap[g]? = some (.cells #[b0, b1, b2, b3, b4, b5] e (0, 0))) : (putN w g #[a0, a1, a2, a3, a4, a5]).heap[g]? = some (.cells #[a0, a1, a2, a3, a4, a5] e (0, 0)) :=
  (heap_set_cell (heap_set_cell (heap_set_cell (heap_set_cell (heap_set_cell (heap_set_cell h)))))).trans (by simp)
theorem putF_heap {w : World} {g e : Nat} {b0 b1 b2 b3 b4 b5 : Value} (po : Option Addr) (pc : Nat) (ro : Option Addr) (rc : Nat) (so : Option Addr) (sc : Nat) (f : FoundS) (h : w.heap[g]? = some (.cells #[b0, b1, b2, b3, b4, b5] e (0, 0))) : (putN w g (fndC po pc ro rc so sc f)).heap[g]? = some (.cells (fndC po pc ro rc so sc f) e (0, 0)) := putN_heap _ _ _ _ _ _ h
theorem putF_kp (w : World) (g : Nat) (po : Option Addr) (pc : Nat) (ro : Option Addr) (rc : Nat) (so : Option Addr) (sc : Nat) (f : FoundS) : Kp (fun j => j = g) w (putN w g (fndC po pc ro rc so sc f)) := putN_kp _ _ _ _ _ _ _ _
theorem FAt.beside {B : Nat} {col : Nat → Nat} {pf g : Nat} {w w' : World} {f : FoundS} {po : Option Addr} {pc : Nat} {ro : Option Addr} {rc : Nat} {so : Option Addr} {sc : Nat} {rh : RH} (h : FAt B col pf w f po pc ro rc so sc rh) (k : Kp (fun j => j = g) w w') (hg : ∀ c, c ≠ 0 → ¬ col g = c) (hp : g ≠ pf) (hr : g < B) : FAt B col pf w' f po pc ro rc so sc rh :=
  ⟨h.cols.keep k.size, k.heap h.box (fun e => hp e.symm), h.bcol, h.bB, h.pieces.kp k (fun j c e => by unfold Col at c; subst e; exact hg 1 (by omega) c), h.recs.kp k (fun j c e => by unfold Col at c; subst e; exact hg 2 (by omega) c), h.rest.kp k (fun j c e => by unfold Col at c; subst e; exact hg 3 (by omega) c), h.rdat.kp k (fun j _ c e => by have := c.2.2; omega)⟩
theorem wpList_store_fnd {ops : Array Oper} {rest : List Oper} {op : Oper} {a : Act} {w : World} {Q : Exit → Act → World → Prop} (hgd : op.guard = none) (x y : Operand) (ho : op.op = .store 127 x y)
    (g : Nat) (po : Option Addr) (pc : Nat) (ro : Option Addr) (rc : Nat) (so : Option Addr) (sc : Nat) (f : FoundS) (hx : a.eval x = .pointer (some ⟨g, 0, none⟩)) (hy : a.eval y = .agg (fndC po pc ro rc so sc f)) {b0 b1 b2 b3 b4 b5 : Value} (hb : w.heap[g]? = some (.cells #[b0, b1, b2, b3, b4, b5] 127 (0, 0)))
    (h : wpList Tryz.prog ops Q rest (a.put op.dst undef) (putN w g (fndC po pc ro rc so sc f))) : wpList Tryz.prog ops Q (op :: rest) a w :=
  wpList_store_mid hgd 127 x y ho g 0 (fndC po pc ro rc so sc f) hx hy (show w.there g 0 6 from there_row3 (cs := #[b0, b1, b2, b3, b4, b5]) hb) info_fnd (by unfold fndC; simp [Value.oneCell']) h
attribute [local irreducible] putN
/-- A region to whose end every order comes with one frame. -/
theorem wp_region_zero {P : Program} {id : Nat} {ops : Array Oper} {b : Bool} {Q : Exit → Act → World → Prop} {a : Act} {w : World} {F : Act} {G : World → Prop}
    (h : (Code.region id ops b).wp P (NoPanic fun e a' w' => e = .normal ∧ a' = F ∧ G w') a w) (k : ∀ w', G w' → Q .normal F w') : (Code.region id ops b).wp P Q a w :=
  Code.wp_mono (fun e a' w' q => by
    obtain ⟨rfl, rfl, hg⟩ := NoPanic.imp e a' w' q
    exact k w' hg) h
theorem numD_le : ∀ (l : List UInt8) (n m : Nat), l.length = m → n < 10 ^ (6 - m) → m ≤ 6 → numD l n ≤ 999999
  | [], n, m, h, hn, _ => by
    rw [numD_nil]
    have : m = 0 := by rw [← h]; rfl
    subst this
    have e : 10 ^ (6 - 0) = 1000000 := rfl
    omega
  | c :: r, n, m, h, hn, hm => by
    rw [numD_cons]
    split
    · omega
    · rename_i hc
      have hm1 : r.length = m - 1 := by simp at h; omega
      have hm0 : 0 < m := by simp at h; omega
      refine numD_le r _ (m - 1) hm1 ?_ (by omega)
      have e : 6 - (m - 1) = (6 - m) + 1 := by omega
      rw [e, Nat.pow_succ]
      omega
theorem numberN_le (k : ByteArray) : numberN k ≤ 999999 := by
  unfold numberN
  split
  · rename_i h
    exact numD_le _ 0 6 (by rw [List.length_drop]; omega) (by simp) (by omega)
  · omega
theorem rcount_upto (left : List UInt8) (bad : Nat) (most : Nat) : (rcount left bad (most : Int)).2 ≤ most := by
  unfold rcount
  split
  · simp
  · omega
theorem headOf_le (ds : List (List UInt8)) (num : Nat) : (headOf ds num).1 ≤ 1099511627776 := by
  cases ds with
  | nil => simp [headOf]
  | cons d r => exact rcount_upto _ _ 1099511627776
theorem frames_len : ∀ (ds : List (List UInt8)), ds.length * 9 ≤ (frames ds).length
  | [] => by simp [frames_nil]
  | d :: r => by
    have h := frames_len r
    have hp := frameL_pos d
    rw [frames_cons, List.length_append, List.length_cons]
    omega
theorem split_len (b : List UInt8) : (frames (splitL b)).length ≤ b.length := by
  obtain ⟨r, hr, -⟩ := split_pre b.length b (Nat.le_refl _)
  have := congrArg List.length hr
  rw [List.length_append] at this
  omega
theorem split_each (b : List UInt8) : ∀ d ∈ splitL b, d.length ≤ 8192 := by
  obtain ⟨r, -, -, h⟩ := split_pre b.length b (Nat.le_refl _)
  exact h
theorem length_rowsV (hs : Hs) : (rowsV hs).length = hs.length := by simp [rowsV]
/-- What scan answers. -/
structure ScanTo (w : World) (f : FoundS) (e : Ending) (w' : World) : Prop where
  ex : ∃ col pf po pc ro rc so sc rh, e = .returned (.agg (fndC po pc ro rc so sc f)) ∧ w.heap.size ≤ pf ∧ FAt pf col pf w' f po pc ro rc so sc rh ∧ Kp Noone w w'
/-- Bounds of what is found. -/
structure FBd (j : Nat) (f : FoundS) : Prop where
  rest : f.rest.length ≤ j
  pieces : f.pieces.length ≤ j
  recs : f.recs.length ≤ 500000 * j
theorem numbered_len : ∀ (i : Nat) (l : List (List UInt8)), (numbered i l).length = l.length
  | _, [] => rfl
  | i, d :: r => by
    have h := numbered_len (i + 1) r
    show (numbered (i + 1) r).length + 1 = r.length + 1
    rw [h]
theorem numbered_snoc : ∀ (i : Nat) (l : List (List UInt8)) (d : List UInt8), numbered i (l ++ [d]) = numbered i l ++ [(i + l.length, d)]
  | i, [], d => rfl
  | i, x :: r, d => by
    have h := numbered_snoc (i + 1) r d
    show (i, x) :: numbered (i + 1) (r ++ [d]) = (i, x) :: numbered (i + 1) r ++ [(i + (r.length + 1), d)]
    rw [h]
    have e : i + 1 + r.length = i + (r.length + 1) := by omega
    rw [e]
    rfl
/-- Between two records. -/
structure InR (B pf : Nat) (c0 : Nat → Nat) (w0 : World) (first : Nat) (h0 : List UInt8) (T : List (List UInt8)) (ps : List (Nat × Nat)) (rs : List (Nat × List UInt8)) (rest : List Nat) (po : Option Addr) (pc : Nat) (so : Option Addr) (sc : Nat) (v : Value) (wr : World) : Prop where
  ex : ∃ (q : Nat) (col : Nat → Nat) (ro : Option Addr) (rc : Nat) (rh : RH), v = .int .i64 (q : Int) ∧ q ≤ T.length ∧ FAt B col pf wr ⟨ps, rs ++ numbered first (T.take q), first + q, (frames (h0 :: T.take q)).length, true, rest⟩ po pc ro rc so sc rh ∧ Stp pf c0 w0 col wr
theorem take_snocG {α : Type} (l : List α) (k : Nat) (h : k < l.length) : l.take (k + 1) = l.take k ++ [l[k]] := by rw [List.take_add_one, List.getElem?_eq_getElem h]; rfl
/-- Between two names. -/
structure ScR (B pf n : Nat) (w2 : World) (NB : List (ByteArray × List UInt8)) (RES : FoundS) (v : Value) (wr : World) : Prop where
  ex : ∃ (j : Nat) (col : Nat → Nat) (f : FoundS) (po : Option Addr) (pc : Nat) (ro : Option Addr) (rc : Nat) (so : Option Addr) (sc : Nat) (rh : RH), v = .int .i64 (j : Int) ∧ j ≤ n ∧ FAt B col pf wr f po pc ro rc so sc rh ∧ Stp pf (fun _ => 0) w2 col wr ∧ (NB.drop j).foldl (fun f x => scan1 f x.1 x.2) f = RES ∧ FBd j f

set_option maxHeartbeats 8000000 in
set_option maxRecDepth 100000 in
theorem scan_w (B0 : Nat) (dcol : Nat → Nat) (i p : Nat) (s : DS) (w : World) (h : Dk dcol i w p s) (hc : Cols B0 w dcol) (hsm : ∀ k, (readF s k).1.length ≤ 4194304) :
    Calls Tryz.prog 52 #[.pointer (some ⟨p, 0, none⟩)] w fun e w' => ScanTo w (scanF s) e w' := by
  obtain ⟨RES, hRES⟩ : ∃ x, Hid (scanF s = x) := ⟨_, Lib.hid rfl⟩
  rw [hRES.out]
  have HR := hRES.out
  unfold scanF scanL at HR
  obtain ⟨i1, hi1, hi10, hi11, hi12⟩ := info_parts info_piece
  obtain ⟨i2, hi2, hi20, hi21, hi22⟩ := info_parts info_rec
  obtain ⟨i3, hi3, hi30, hi31, hi32⟩ := info_parts info_intD
  have hls := fun W d => list_dk dcol i p s W d
  have hN1 := listF_ok h.2
  have hN2 := listF_len h.2
  have hrl := hsm
  generalize hNN : listF s = N at *
  have HN1 := Lib.hid hN1
  have HRL := Lib.hid hrl
  have HRR := Lib.hid HR
  have HC := Lib.hid hc
  obtain ⟨n, hn⟩ : ∃ n, Hid (N.length = n) := ⟨_, Lib.hid rfl⟩
  have hA := heap_alloc_new w (.cells (fndC none 0 none 0 none 0 ⟨[], [], 0, 0, false, []⟩) 127)
  have eA := alloc_size w (.cells (fndC none 0 none 0 none 0 ⟨[], [], 0, 0, false, []⟩) 127)
  have kA1 : Kp Noone w (w.alloc (.cells (fndC none 0 none 0 none 0 ⟨[], [], 0, 0, false, []⟩) 127)) := (Kp.refl _ _).alloc _
  have kA : Kp Noone w ((w.alloc (.cells (fndC none 0 none 0 none 0 ⟨[], [], 0, 0, false, []⟩) 127)).alloc (.cells (fndC none 0 none 0 none 0 found0) 127)) := kA1.alloc _
  have hx := heap_alloc_new (w.alloc (.cells (fndC none 0 none 0 none 0 ⟨[], [], 0, 0, false, []⟩) 127)) (.cells (fndC none 0 none 0 none 0 found0) 127)
  have hg := ((Kp.refl Noone (w.alloc (.cells (fndC none 0 none 0 none 0 ⟨[], [], 0, 0, false, []⟩) 127))).alloc (.cells (fndC none 0 none 0 none 0 found0) 127)).heap hA id
  rw [eA] at hx
  have hF0 : FAt (w.heap.size + 1) (fun _ => 0) (w.heap.size + 1) ((w.alloc (.cells (fndC none 0 none 0 none 0 ⟨[], [], 0, 0, false, []⟩) 127)).alloc (.cells (fndC none 0 none 0 none 0 found0) 127)) found0 none 0 none 0 none 0 [] :=
    ⟨Cols.zero _ _, hx, rfl, Nat.le_refl _, Own.nil _ _ _ _ _, Own.nil _ _ _ _ _, Own.nil _ _ _ _ _, RecsAt.nil _ _⟩
  have HF0 := Lib.hid hF0
  have hD := h.keep kA
  unfold fndC found0 at *
  simp only [List.length_nil] at *
  clear HR hRES hN1 hrl hsm hA eA kA1 hF0 h hc hNN
  go_enter Tryz.func52, Tryz.ntmps52
  go_upto_region 2 with fail
  generalize hgw : w.heap.size = g0 at *
  generalize (w.alloc (.cells #[.slice none 0 0, .slice none 0 0, .int .i64 ((0 : Nat) : Int), .int .i64 ((0 : Nat) : Int), .bool false, .slice none 0 0] 127)).alloc (.cells #[.slice none 0 0, .slice none 0 0, .int .i64 ((1 : Nat) : Int), .int .i64 ((0 : Nat) : Int), .bool true, .slice none 0 0] 127) = wA at *
  generalize hpf : g0 + 1 = pf at *
  have hgl : g0 < wA.heap.size := (Array.getElem?_eq_some_iff.1 hg).1
  have hpl : pf < wA.heap.size := (Array.getElem?_eq_some_iff.1 hx).1
  have HKA := Lib.hid kA
  have hls := hls wA hD
  have HD := Lib.hid hD
  rw [hn.out] at hls hN2
  clear hx kA hD
  go_wp2_with fail
  refine hls.mono ?_
  clear hls
  rintro e w2 ⟨no, nc, rfl, hown, k2⟩
  have hg2 := k2.heap hg id
  have HK2 := Lib.hid (HKA.out.trans k2)
  have HD2 := Lib.hid (HD.out.keep k2)
  have HF2 := HF0.out.keep k2
  have hpl2 : pf < w2.heap.size := (Array.getElem?_eq_some_iff.1 HF2.box).1
  have hgw2 : g0 ≤ w2.heap.size := by omega
  have HNR := Lib.hid (hown.mono (G := fun k => k ≠ pf ∧ pf ≤ k) (fun j _ c => ⟨by omega, by omega⟩))
  have hNBl : (N.map fun k => (k, (readF s k).1)).length = n := by rw [List.length_map, hn.out]
  obtain ⟨NB, hNB⟩ : ∃ x, Hid ((N.map fun k => (k, (readF s k).1)) = x) := ⟨_, Lib.hid rfl⟩
  rw [hNB.out] at HRR hNBl
  have HNBL := Lib.hid hNBl
  have R0 : Hid (ScR pf pf n w2 NB RES (.int .i64 0) w2) := Lib.hid ⟨⟨0, fun _ => 0, ⟨[], [], 1, 0, true, []⟩, none, 0, none, 0, none, 0, [], by rfl, Nat.zero_le _, HF2, Stp.quiet (Kp.refl _ _), HRR.out, ⟨by simp, by simp, by simp⟩⟩⟩
  clear hown k2 hg HKA HD HF0 HF2 hNBl HRR
  go_wp2_with fail
  go_loopw [19] (fun v wr => ScR pf pf n w2 NB RES v wr) (fun v _ => n - (intOf v).toNat)
  case atStart => exact R0.out
  case round =>
    clear R0
    obtain ⟨j, col, f, po, pc, ro, rc, so, sc, rh, rfl, hj, hF, hS, hfold, hbd⟩ := hrel.ex
    have hgr := hS.kp.heap hg2 (by omega)
    by_cases hlt : j < n
    case neg =>
      rw [List.drop_of_length_le (by rw [HNBL.out]; omega)] at hfold
      have e : f = RES := hfold
      subst e
      have hbx := hF.box
      unfold fndC at hbx
      obtain ⟨⟨y0, y1, y2, y3, y4, y5⟩, -⟩ := cells_6f hbx
      have HF := Lib.hid hF
      have HKr := Lib.hid (HK2.out.fin hS.kp (fun k c => Or.inr (by omega)))
      clear hrel hfold hS hF hbx
      go_wp2_with (refine wpList_store_fnd rfl (.tmp 2) (.tmp 127) rfl g0 po pc ro rc so sc f (by rfl) (by rfl) hgr ?_)
      refine bodyPost_ret (results_fnd rfl _ _ g0 _ rfl (putF_heap po pc ro rc so sc f hgr) rfl) rfl ?_
      have hc0 : col g0 = 0 := by
        by_cases h0 : col g0 = 0
        · exact h0
        · have := HF.out.cols g0 h0; omega
      exact ⟨⟨col, pf, po, pc, ro, rc, so, sc, rh, rfl, by omega, HF.out.beside (putF_kp _ _ _ _ _ _ _ _ _) (fun c hc0' e => hc0' (by rw [← e]; exact hc0)) (by omega) (by omega), HKr.out.fin (putF_kp _ _ _ _ _ _ _ _ _) (fun k c => Or.inr (by omega))⟩⟩
    have hNl : j < N.length := by rw [hn.out]; exact hlt
    obtain ⟨g, off, rfl, -, -, hcell, -⟩ := (Own.stp (col := fun _ => 0) (B := pf) (HNR.out.mono (fun q _ c => ⟨rfl, c.1, c.2⟩)) hS).at (k := j) (by rw [List.length_map]; exact hNl)
    have hks := HN1.out N[j] (List.getElem_mem hNl)
    have hrb := HRL.out N[j]
    have hNBj : j < NB.length := by rw [HNBL.out]; exact hlt
    have hdr : NB.drop j = (N[j], (readF s N[j]).1) :: NB.drop (j + 1) := by
      rw [← List.getElem_cons_drop hNBj]
      congr 1
      have h := hNB.out
      subst h
      simp
    rw [hdr] at hfold
    simp only [List.foldl_cons] at hfold
    simp only [List.getElem_map] at hcell
    have hrd := fun W d => read_dk dcol i p s N[j] W d (by omega)
    have hDr := HD2.out.free hS.kp (fun k c => cols_new HC.out (by rw [hgw]; omega))
    generalize N[j] = k at *
    generalize readF s k = RD at *
    obtain ⟨b, be⟩ := RD
    simp only [] at hfold hrd hrb
    have hwj : IntKind.i64.wrap ((j : Int) + 1) = (j : Int) + 1 := IntWalk.i64_in _ (by omega)
    have HFD := Lib.hid hfold
    have HFA := Lib.hid hF
    have HS := Lib.hid hS
    have HDR := Lib.hid hDr
    have hnw := number_w k wr hks
    have hnb : numberN k ≤ 999999 := numberN_le k
    clear hdr hfold hF hS hDr hrel hgr
    go_wp2_with fail
    refine hnw.mono ?_
    clear hnw
    rintro e w3 ⟨rfl, k3⟩
    have hF3 := HFA.out.keep k3
    have hS3 := HS.out.trans (Stp.quiet (pf := pf) k3)
    by_cases hz : numberN k = 0
    · have hf2 := HFD.out
      have e1 : scan1 f k b = f := by unfold scan1; rw [if_pos hz]
      rw [e1] at hf2
      have R : Hid (ScR pf pf n w2 NB RES (.int .i64 ((j + 1 : Nat) : Int)) w3) := Lib.hid ⟨⟨j + 1, col, f, po, pc, ro, rc, so, sc, rh, by rfl, by omega, hF3, hS3, hf2, ⟨by have := hbd.rest; omega, by have := hbd.pieces; omega, by have := hbd.recs; omega⟩⟩⟩
      rw [hz]
      clear hf2 e1 hF3 hS3 hrd hnb hks
      go_wp2_with fail
      go_roundw
      case rel => exact R.out
      case measure => simp [intOf]; omega
    have hz0 : (((numberN k : Nat) : Int) == 0) = false := by simpa using hz
    have hrd := hrd w3 (HDR.out.keep k3)
    have HF3 := Lib.hid hF3
    have HS3 := Lib.hid hS3
    have HNK : Hid (∀ f, scan1 f k b = if f.whole = false ∨ (headOf (splitL b) (numberN k)).2 = false ∨ (0 < f.pieces.length ∧ (headOf (splitL b) (numberN k)).1 ≠ f.next) then { f with whole := false, rest := f.rest ++ [numberN k] }
        else ⟨f.pieces ++ [(numberN k, (headOf (splitL b) (numberN k)).1)], f.recs ++ numbered (headOf (splitL b) (numberN k)).1 (splitL b).tail, (headOf (splitL b) (numberN k)).1 + (splitL b).tail.length, (frames (splitL b)).length, decide ((frames (splitL b)).length = b.length), f.rest⟩) := Lib.hid (fun f => by unfold scan1; rw [if_neg hz])
    generalize numberN k = num at *
    clear hF3 hS3 hz HDR HFA HS k3
    go_wp2_with fail
    refine hrd.mono ?_
    clear hrd
    rintro e w4 ⟨bo, bc, rfl, hob, k4⟩
    have hF4 := HF3.out.keep k4
    have hS4 := HS3.out.trans (Stp.quiet (pf := pf) k4)
    have hsp := split_w bo b.length bc b w4 hob.bs (by omega)
    have hpl4 : pf < w4.heap.size := (Array.getElem?_eq_some_iff.1 hF4.box).1
    have HF4 := Lib.hid hF4
    have HS4 := Lib.hid hS4
    clear hF4 hS4 k4 hob HF3 HS3
    go_wp2_with fail
    refine hsp.mono ?_
    clear hsp
    rintro e w5 hto
    obtain ⟨ao, ac, zo, zc, hs, rfl, hhl, hrow, hsz, hdat, k5⟩ := hto.ex
    have hF5 := HF4.out.keep k5
    have hS5 := HS4.out.trans (Stp.quiet (pf := pf) k5)
    have hcn : ∀ q, w4.heap.size ≤ q → col q = 0 := fun q hq => cols_new HF4.out.cols hq
    have HROW := Lib.hid (hrow.mono (G := fun k => col k = 0 ∧ k ≠ pf ∧ pf ≤ k) (fun q _ c => ⟨hcn q c, by omega, by omega⟩))
    have HSZ := Lib.hid (hsz.mono (G := fun k => col k = 0 ∧ k ≠ pf ∧ pf ≤ k) (fun q _ c => ⟨hcn q c, by omega, by omega⟩))
    have HDAT := Lib.hid (fun q h1 h2 => (hdat q h1 h2).mono (Q := fun k => col k = 0 ∧ k ≠ pf ∧ pf ≤ k) (fun q _ c => ⟨hcn q c, by omega, by omega⟩))
    have HF5 := Lib.hid hF5
    have HS5 := Lib.hid hS5
    clear hto hrow hsz hdat k5 hF5 hS5 hcn HF4 HS4
    have hfl := split_len b
    have hse := split_each b
    have hfm := frames_len (splitL b)
    generalize splitL b = ds at *
    have HSE := Lib.hid hse
    have hhl0 := headOf_le ds num
    obtain ⟨HD0, hHD0⟩ : ∃ x, Hid (headOf ds num = x) := ⟨_, Lib.hid rfl⟩
    rw [hHD0.out] at HNK hhl0
    obtain ⟨first, ok⟩ := HD0
    simp only [] at HNK hhl0
    obtain ⟨ps, rs, nx, gd, wh, rest⟩ := f
    obtain ⟨hb1, hb2, hb3⟩ := hbd
    simp only [] at hb1 hb2 hb3
    have hf2 := HFD.out
    rw [HNK.out] at hf2
    simp only [] at hf2
    have HF2 := Lib.hid hf2
    have hm : ds.length ≤ 466033 := by omega
    have HFM := Lib.hid (And.intro hfl hfm)
    obtain ⟨bl, hbl⟩ : ∃ bl, Hid (b.length = bl) := ⟨_, Lib.hid rfl⟩
    rw [hbl.out]
    rw [hbl.out] at hrb
    clear hse hf2 HFD hfl hfm HNK
    by_cases hcnd : wh = false ∨ ok = false ∨ (0 < ps.length ∧ first ≠ nx)
    case pos =>
      have hf2 := HF2.out
      rw [if_pos hcnd] at hf2
      have HFB := Lib.hid hf2
      have hc3 : (wh = false) ∨ (wh = true ∧ ok = false) ∨ (wh = true ∧ ok = true ∧ 0 < ps.length ∧ ((first : Int) != (nx : Int)) = true) := by
        cases wh with
        | false => exact Or.inl rfl
        | true =>
          cases ok with
          | false => exact Or.inr (Or.inl ⟨rfl, rfl⟩)
          | true =>
            rcases hcnd with h | h | ⟨h1, h2⟩
            · cases h
            · cases h
            · exact Or.inr (Or.inr ⟨rfl, rfl, h1, by simp; omega⟩)
      have HC3 := Lib.hid hc3
      clear hf2 hcnd HF2 hc3
      have hFB := HF5.out
      have hSB := HS5.out
      rcases ds with _ | ⟨h0, T⟩
      case' nil =>
        have e := hHD0.out
        unfold headOf at e
        obtain ⟨rfl, rfl⟩ : (0 : Nat) = first ∧ false = ok := by injection e; exact ⟨by assumption, by assumption⟩
        clear e
        go_upto_region 12 with fail
        obtain ⟨wq, hwq⟩ : ∃ x, x = w5 := ⟨_, rfl⟩
        subst hwq
      case' cons =>
        have e : beginsF h0 num = (first, ok) := hHD0.out
        obtain ⟨r0, roff, rfl, -, -, hc0, -⟩ := HROW.out.at (k := 0) (by rw [length_rowsV, hhl]; simp)
        have hs0 : 0 < hs.length := by rw [hhl]; simp
        have hc1 : (rowsV hs)[0]'(by rw [length_rowsV]; exact hs0) = .slice hs[0].1 hs[0].2.1 hs[0].2.2 := by simp [rowsV]
        rw [hc1, Nat.add_zero] at hc0
        have hd0 := (HDAT.out 0 hs0 (by simp)).1
        have hbe := begins_w hs[0].1 hs[0].2.1 hs[0].2.2 h0 num w5 hd0 (by have h1 := hd0.len; have h2 := HSE.out h0 (by simp); simp only [List.getElem_cons_zero] at h1; omega)
        rw [e] at hbe
        simp only [] at hbe
        have hlen1 : (0 : Int) < ((T.length + 1 : Nat) : Int) := by omega
        generalize hs[0] = hx0 at *
        clear hc1 hd0 e
        simp only [List.length_cons] at hhl ⊢
        generalize T.length + 1 = m1 at *
        go_wp2_with fail
        refine hbe.mono ?_
        clear hbe
        rintro e w6 ⟨rfl, k6⟩
        have hFB := hFB.keep k6
        have hSB := hSB.trans (Stp.quiet (pf := pf) k6)
        clear k6 hlen1
        go_upto_region 12 with fail
        obtain ⟨wq, hwq⟩ : ∃ x, x = w6 := ⟨_, rfl⟩
        subst hwq
      all_goals (
        have hbx := hFB.box
        unfold fndC at hbx
        simp only [] at hbx
        obtain ⟨⟨y0, y1, y2, y3, y4, y5⟩, yf⟩ := cells_6f hbx
        have yf4 := yf 4
        have hst := hFB.set (f' := ⟨ps, rs, nx, gd, false, rest⟩) ((Kp.refl (fun j => j = pf) wq).setCell (p := ⟨pf, 4, none⟩) (fun _ => rfl) (.bool false)) ((heap_set_cell hbx).trans (by simp [fndC])) rfl rfl rfl
        have HST := Lib.hid hst
        have HSB := Lib.hid (hSB.trans hst.2)
        clear hst hbx hFB hSB yf
        rcases HC3.out with hw | ⟨hw, hok⟩ | ⟨hw, hok, hp0, hfn⟩
        all_goals try subst hw
        all_goals try cases hok
        all_goals (
          go_upto_region 14 with fail
          clear y0 y1 y2 y3 y4 y5 yf4
          generalize wq.setCell ⟨pf, 4, none⟩ (.bool false) = w7 at *
          have hF7 := HST.out.1
          have hbx7 := hF7.box
          unfold fndC at hbx7
          simp only [] at hbx7
          obtain ⟨⟨y0, y1, y2, y3, y4, y5⟩, -⟩ := cells_6f hbx7
          have hB7 : pf ≤ w7.heap.size := Nat.le_of_lt (Array.getElem?_eq_some_iff.1 hbx7).1
          have kB : Kp Noone w7 (w7.alloc (.cells #[.int .i64 (num : Int)] 3)) := (Kp.refl _ _).alloc _
          have hown := hF7.rest.keep kB
          have hrow : Row (w7.alloc (.cells #[.int .i64 (num : Int)] 3)) (some ⟨w7.heap.size, 0, none⟩) [.int .i64 (num : Int)] := Row.ofHeap (heap_alloc_new w7 (.cells #[.int .i64 (num : Int)] 3))
          simp only [] at hown
          go_wp2_with (at_builtin; refine wpList_append_gen _ rfl (.tmp 70) (.tmp 72) 32 rfl 3 i3 (.int .i64 0) 1 8 Tryz.underlying32 hi3 hi30 hi31 hi32 rfl so rest.length sc rfl (some ⟨w7.heap.size, 0, none⟩) 1 1 rfl (Col col 3) (restV rest) hown [.int .i64 (num : Int)] rfl hrow (by intro u hu; simp at hu; subst hu; rfl) (by omega) (by unfold maxLen; omega) ?_)
          intro so2 sc2 w8 ho8 k8
          have hP := hF7.pushS (q := num) kB hB7 ho8 k8
          have hbx8 := k8.heap (kB.heap hbx7 id) (by unfold Col; rw [hF7.bcol]; omega)
          obtain ⟨-, yf8⟩ := cells_6f hbx8
          obtain ⟨⟨-, -, -, -, -, x5⟩, -⟩ := cells_6f hbx8
          have yf85 := yf8 5
          have R : Hid (ScR pf pf n w2 NB RES (.int .i64 ((j + 1 : Nat) : Int)) (w8.setCell ⟨pf, 5, none⟩ (.slice so2 (rest.length + 1) sc2))) := Lib.hid ⟨⟨j + 1, _, _, po, pc, ro, rc, so2, sc2, rh, by rfl, by omega, hP.1, HSB.out.trans hP.2, HFB.out, ⟨by simp; omega, by simp; omega, by simp; omega⟩⟩⟩
          clear hP ho8 k8 hF7 hbx7 hbx8 hown hrow kB y0 y1 y2 y3 y4 y5 yf8 HSB HST
          go_wp2_with fail
          go_roundw
          case rel => exact R.out
          case measure => simp [intOf]; omega))
    case neg =>
      have hwo : wh = true ∧ ok = true ∧ (ps.length = 0 ∨ (0 < ps.length ∧ ((first : Int) != (nx : Int)) = false)) := by
        cases wh with
        | false => exact absurd (Or.inl rfl) hcnd
        | true =>
          cases ok with
          | false => exact absurd (Or.inr (Or.inl rfl)) hcnd
          | true =>
            refine ⟨rfl, rfl, ?_⟩
            by_cases h0 : ps.length = 0
            · exact Or.inl h0
            · refine Or.inr ⟨by omega, ?_⟩
              by_cases h1 : first = nx
              · simp [h1]
              · exact absurd (Or.inr (Or.inr ⟨by omega, h1⟩)) hcnd
      have hf2 := HF2.out
      rw [if_neg hcnd] at hf2
      obtain ⟨rfl, rfl, hpp⟩ := hwo
      rcases ds with _ | ⟨h0, T⟩
      · have e := hHD0.out
        unfold headOf at e
        injection e with e1 e2
        cases e2
      simp only [List.tail_cons] at hf2
      have HFB := Lib.hid hf2
      have e : beginsF h0 num = (first, true) := hHD0.out
      obtain ⟨r0, roff, rfl, -, -, hc0, -⟩ := HROW.out.at (k := 0) (by rw [length_rowsV, hhl]; simp)
      have hs0 : 0 < hs.length := by rw [hhl]; simp
      have hc1 : (rowsV hs)[0]'(by rw [length_rowsV]; exact hs0) = .slice hs[0].1 hs[0].2.1 hs[0].2.2 := by simp [rowsV]
      rw [hc1, Nat.add_zero] at hc0
      have hd0 := (HDAT.out 0 hs0 (by simp)).1
      have hbe := begins_w hs[0].1 hs[0].2.1 hs[0].2.2 h0 num w5 hd0 (by have h1 := hd0.len; have h2 := HSE.out h0 (by simp); simp only [List.getElem_cons_zero] at h1; omega)
      rw [e] at hbe
      simp only [] at hbe
      have hacm : T.length + 1 ≤ ac := by have := HROW.out.2.1; simpa using this
      obtain ⟨z0, zoff, rfl, -, -, hzc, -⟩ := HSZ.out.at (k := 0) (by simp [sizesV])
      have hFM := HFM.out
      have HHL := Lib.hid hhl
      have hlen1 : (0 : Int) < ((T.length + 1 : Nat) : Int) := by omega
      generalize hhx : hs[0] = hx0 at *
      have HDD := Lib.hid (And.intro hHD0.out hc1)
      clear hc1 hd0 e hcnd hf2 HF2 hhl hHD0 hhx hzc
      simp only [List.length_cons] at hacm hm ⊢
      obtain ⟨m1, hm1⟩ : ∃ m1, T.length + 1 = m1 := ⟨_, rfl⟩
      have HM1 := Lib.hid hm1
      rw [hm1] at hacm hm hlen1 ⊢
      go_wp2_with fail
      refine hbe.mono ?_
      clear hbe
      rintro e w6 ⟨rfl, k6⟩
      have hFB := HF5.out.keep k6
      have HS6 := Lib.hid (HS5.out.trans (Stp.quiet (pf := pf) k6))
      have st6 := Stp.quiet (pf := pf) (col := col) k6
      have HROW6 := Lib.hid (HROW.out.stp st6)
      have HSZ6 := Lib.hid (HSZ.out.stp st6)
      have HDAT6 := Lib.hid (fun q h1 h2 => (HDAT.out q h1 h2).stp st6)
      clear k6 hlen1 HROW HSZ HDAT HF5 HS5 st6
      go_upto_region 12 with fail
      have hbx := hFB.box
      unfold fndC at hbx
      simp only [] at hbx
      obtain ⟨⟨y0, y1, y2, y3, y4, y5⟩, yf⟩ := cells_6f hbx
      have hB7 : pf ≤ w6.heap.size := Nat.le_of_lt (Array.getElem?_eq_some_iff.1 hbx).1
      have kB : Kp Noone w6 (w6.alloc (.cells #[.int .i64 (num : Int), .int .i64 (first : Int)] 132)) := (Kp.refl _ _).alloc _
      have hown := hFB.pieces.keep kB
      have hrow : Row (w6.alloc (.cells #[.int .i64 (num : Int), .int .i64 (first : Int)] 132)) (some ⟨w6.heap.size, 0, none⟩) [.int .i64 (num : Int), .int .i64 (first : Int)] := Row.ofHeap (heap_alloc_new w6 (.cells #[.int .i64 (num : Int), .int .i64 (first : Int)] 132))
      have HFB2 := Lib.hid hFB
      have HHX := Lib.hid hbx
      clear hFB hbx
      simp only [] at hown
      rcases hpp with hp0 | ⟨hp0, hfn⟩
      case' inl =>
        rw [hp0] at y0 hown
        go_wp2_with (at_builtin; refine wpList_append_gen _ rfl (.tmp 76) (.tmp 80) 123 rfl 132 i1 (.agg #[.int .i64 0, .int .i64 0]) 2 16 Tryz.underlying123 hi1 hi10 hi11 hi12 rfl po 0 pc rfl (some ⟨w6.heap.size, 0, none⟩) 1 1 rfl (Col col 1) (piecesV ps) hown [.int .i64 (num : Int), .int .i64 (first : Int)] rfl hrow (by intro u hu; simp at hu; rcases hu with rfl | rfl <;> rfl) (by omega) (by unfold maxLen; omega) ?_)
        intro po2 pc2 w8 ho8 k8
        have hP := FAt.pushP (q := (num, first)) (po' := po2) (pc' := pc2) HFB2.out kB hB7 (by simp only []; rw [hp0]; exact ho8) k8
        simp only [] at hP
        rw [hp0, Nat.zero_add] at hP
        have hbx8 := k8.heap (kB.heap HHX.out id) (by unfold Col; rw [HFB2.out.bcol]; omega)
        rw [hp0] at hbx8
        obtain ⟨⟨x0, -⟩, yf8⟩ := cells_6f hbx8
        have yf80 := yf8 0
        clear yf8 ho8 hbx8 hown hrow k8
        go_upto_region 16 with fail
        clear x0 yf80 y0 y1 y2 y3 y4 y5
        generalize w8.setCell ⟨pf, 0, none⟩ (.slice po2 1 pc2) = w9 at *
        generalize paint col (w6.alloc (.cells #[.int .i64 (num : Int), .int .i64 (first : Int)] 132)) w8 1 = col9 at *
        have HPP : Hid (ps.length = 0 ∨ ((first : Int) != (nx : Int)) = false) := Lib.hid (Or.inl hp0)
        clear hp0
      case' inr =>
        go_wp2_with (at_builtin; refine wpList_append_gen _ rfl (.tmp 76) (.tmp 80) 123 rfl 132 i1 (.agg #[.int .i64 0, .int .i64 0]) 2 16 Tryz.underlying123 hi1 hi10 hi11 hi12 rfl po ps.length pc rfl (some ⟨w6.heap.size, 0, none⟩) 1 1 rfl (Col col 1) (piecesV ps) hown [.int .i64 (num : Int), .int .i64 (first : Int)] rfl hrow (by intro u hu; simp at hu; rcases hu with rfl | rfl <;> rfl) (by omega) (by unfold maxLen; omega) ?_)
        intro po2 pc2 w8 ho8 k8
        have hP := FAt.pushP (q := (num, first)) (po' := po2) (pc' := pc2) HFB2.out kB hB7 (by simp only []; exact ho8) k8
        simp only [] at hP
        have hbx8 := k8.heap (kB.heap HHX.out id) (by unfold Col; rw [HFB2.out.bcol]; omega)
        obtain ⟨⟨x0, -⟩, yf8⟩ := cells_6f hbx8
        have yf80 := yf8 0
        clear yf8 ho8 hbx8 hown hrow k8
        go_upto_region 16 with fail
        clear x0 yf80 y0 y1 y2 y3 y4 y5
        generalize w8.setCell ⟨pf, 0, none⟩ (.slice po2 (ps.length + 1) pc2) = w9 at *
        generalize paint col (w6.alloc (.cells #[.int .i64 (num : Int), .int .i64 (first : Int)] 132)) w8 1 = col9 at *
        have HPP : Hid (ps.length = 0 ∨ ((first : Int) != (nx : Int)) = false) := Lib.hid (Or.inr hfn)
        clear hp0 hfn
      all_goals (
        obtain ⟨hF9, st9⟩ := hP
        have HS9 := Lib.hid (HS6.out.trans st9)
        have HROW9 := Lib.hid (HROW6.out.stp st9)
        have HSZ9 := Lib.hid (HSZ6.out.stp st9)
        have HDAT9 := Lib.hid (fun q h1 h2 => (HDAT6.out q h1 h2).stp st9)
        clear HS6 HROW6 HSZ6 HDAT6 st9 HHX HFB2 yf kB
        obtain ⟨z1, zo1, hgo, hzF, -, hzc, -⟩ := HSZ9.out.at (k := 0) (by simp [sizesV])
        cases hgo
        have hzp : ¬ z0 = pf := hzF.2.1
        have hzp2 : ¬ pf = z0 := fun e => hzp e.symm
        clear hzF
        have hz1 : (sizesV (h0 :: T))[0]'(by simp [sizesV]) = .int .i64 ((frameL h0).length : Int) := by simp [sizesV]
        rw [hz1, Nat.add_zero] at hzc
        have hbx9 := hF9.box
        unfold fndC at hbx9
        simp only [] at hbx9
        obtain ⟨⟨y0, y1, y2, y3, y4, y5⟩, yf⟩ := cells_6f hbx9
        have yf2 := yf 2
        have yf3 := yf 3
        have hm0 : 0 < m1 := by rw [← HM1.out]; omega
        clear hz1
        have hbxd := ((Kp.refl Noone w9).drew).heap hbx9 id
        have kd : Kp (fun j => j = pf) w9 w9.drew := (Kp.refl _ _).drew
        obtain ⟨fl0, hfl0⟩ : ∃ x, Hid ((frameL h0).length = x) := ⟨_, Lib.hid rfl⟩
        rw [hfl0.out] at hzc
        apply wp_region_zero (G := fun wz => wz.heap[pf]? = some (.cells (fndC po2 pc2 ro rc so sc ⟨ps ++ [(num, first)], rs, first, fl0, true, rest⟩) 127 (0, 0)) ∧ Kp (fun j => j = pf) w9 wz)
        case h =>
          go_region
          all_goals (
            refine NoPanic.normal ⟨rfl, rfl, ?_⟩
            exact ⟨(heap_set_cell (heap_set_cell hbxd)).trans (by unfold fndC; simp), (kd.setCell (fun _ => rfl) _).setCell (fun _ => rfl) _⟩)
        case k =>
          intro wz hG
          obtain ⟨hbz, kz⟩ := hG
          obtain ⟨hFz, stz⟩ := hF9.set (f' := ⟨ps ++ [(num, first)], rs, first, fl0, true, rest⟩) kz hbz rfl rfl rfl
          have HSz := Lib.hid (HS9.out.trans stz)
          have HROWz := Lib.hid (HROW9.out.stp stz)
          have HSZz := Lib.hid (HSZ9.out.stp stz)
          have HDATz := Lib.hid (fun q h1 h2 => (HDAT9.out q h1 h2).stp stz)
          clear y0 y1 y2 y3 y4 y5 yf yf2 yf3 hbx9 hbxd kd kz stz HS9 HROW9 HSZ9 HDAT9 hzc hF9 hbz
          have hTl : T.length ≤ 466033 := by have := HM1.out; omega
          have HFRS : Hid (∀ q, q ≤ T.length → (frames (h0 :: T.take q)).length ≤ 4194304) := Lib.hid (fun q hq => by
            have h1 := HFM.out.1
            have h2 : frames (h0 :: T) = frames (h0 :: T.take q) ++ frames (T.drop q) := by rw [← frames_append, List.cons_append, List.take_append_drop]
            have h3 := congrArg List.length h2
            rw [List.length_append] at h3
            have := hbl.out
            omega)
          have J0 : Hid (InR pf pf col9 wz first h0 T (ps ++ [(num, first)]) rs rest po2 pc2 so sc (.int .i64 0) wz) := Lib.hid ⟨⟨0, col9, ro, rc, rh, by rfl, Nat.zero_le _, by
            have e1 : frames (h0 :: T.take 0) = frameL h0 := by simp [frames]
            rw [e1, hfl0.out]
            simpa [numbered] using hFz, Stp.quiet (Kp.refl _ _)⟩⟩
          have hTm : (T.length : Int) = (m1 : Int) - 1 := by have := HM1.out; omega
          have hhs : hs.length = T.length + 1 := HHL.out
          have hRT : ∀ (col' : Nat → Nat) (wr : World), Stp pf col9 wz col' wr → ∀ q (hq : q + 1 < hs.length), wr.cell? ⟨r0, roff + (q + 1), none⟩ = some (.slice hs[q + 1].1 hs[q + 1].2.1 hs[q + 1].2.2) := fun col' wr st q hq => by
            obtain ⟨g1, o1, hgo, -, -, hcell1, -⟩ := (HROWz.out.stp st).at (k := q + 1) (by rw [length_rowsV]; exact hq)
            cases hgo
            rw [hcell1]
            simp [rowsV]
          obtain ⟨t, ht⟩ : ∃ t, Hid (T.length = t) := ⟨_, Lib.hid rfl⟩
          rw [ht.out] at hhs hTl
          have hmt : m1 - 1 = t := by have := HM1.out; have := ht.out; omega
          have hmi : (m1 : Int) - 1 = (t : Int) := by omega
          clear hTm
          by_cases hac : ac = 1
          case pos =>
            have HRT : Hid (∀ (col' : Nat → Nat) (wr : World), Stp pf col9 wz col' wr → ∀ q (hq : q + 1 < hs.length), ∃ g' off', (some ⟨r0, roff, none⟩ : Option Addr) = some ⟨g', off', none⟩ ∧ wr.cell? ⟨g', off' + q, none⟩ = some (.slice hs[q + 1].1 hs[q + 1].2.1 hs[q + 1].2.2)) := Lib.hid (fun _ _ _ q hq => by have := HM1.out; omega)
            clear hRT
            go_wp2_with fail
            generalize (some (⟨r0, roff, none⟩ : Addr)) = bs at *
            go_loopw [92] (fun v wr => InR pf pf col9 wz first h0 T (ps ++ [(num, first)]) rs rest po2 pc2 so sc v wr) (fun v _ => t - (intOf v).toNat)
            case atStart => exact J0.out
            case round =>
              clear J0
              obtain ⟨q, colq, roq, rcq, rhq, rfl, hq, hFq, stq⟩ := hrel.ex
              have hbq := hFq.box
              unfold fndC at hbq
              simp only [] at hbq
              obtain ⟨⟨y0, y1, y2, y3, y4, y5⟩, yf⟩ := cells_6f hbq
              have HTL := ht.out
              by_cases hqt : q < t
              case neg =>
                have hqe : q = t := by omega
                have htk : T.take q = T := List.take_of_length_le (by omega)
                rw [htk] at hFq y1 y3
                have hbq2 := hFq.box
                have yf4 := yf 4
                have hst : ∀ B : Bool, B = decide ((frames (h0 :: T)).length = b.length) → ScR pf pf n w2 NB RES (.int .i64 ((j + 1 : Nat) : Int)) (wr.setCell ⟨pf, 4, none⟩ (.bool B)) := fun B hB => by
                  have h := hFq.set (f' := ⟨ps ++ [(num, first)], rs ++ numbered first T, first + q, (frames (h0 :: T)).length, B, rest⟩) ((Kp.refl (fun j => j = pf) wr).setCell (p := ⟨pf, 4, none⟩) (fun _ => rfl) (.bool B)) ((heap_set_cell hbq2).trans (by unfold fndC; simp)) rfl rfl rfl
                  refine ⟨⟨j + 1, _, _, po2, pc2, roq, rcq, so, sc, rhq, by rfl, by omega, h.1, (HSz.out.trans stq).trans h.2, ?_, ⟨by simp; omega, by simp; omega, by simp [numbered_len]; omega⟩⟩⟩
                  have hf := HFB.out
                  rw [hB, hqe, ← HTL]
                  exact hf
                have HST := Lib.hid hst
                have hble := hbl.out
                clear hst hFq hbq hbq2 stq hrel
                rw [hble] at HST
                by_cases hw : (frames (h0 :: T)).length = bl
                · have R := Lib.hid (HST.out true (by simp [hw]))
                  have hwi : (((frames (h0 :: T)).length : Int) == (bl : Int)) = true := by simp [hw]
                  generalize (frames (h0 :: T)).length = fT at *
                  clear hw HST
                  go_wp2_with fail
                  go_roundw
                  case rel => exact R.out
                  case measure => simp [intOf]; omega
                · have R := Lib.hid (HST.out false (by simp [hw]))
                  have hwi : (((frames (h0 :: T)).length : Int) == (bl : Int)) = false := by simp; omega
                  generalize (frames (h0 :: T)).length = fT at *
                  clear hw HST
                  go_wp2_with fail
                  go_roundw
                  case rel => exact R.out
                  case measure => simp [intOf]; omega
              exfalso
              omega
          case neg =>
            have HRT : Hid (∀ (col' : Nat → Nat) (wr : World), Stp pf col9 wz col' wr → ∀ q (hq : q + 1 < hs.length), ∃ g' off', (some ⟨r0, roff + 1, none⟩ : Option Addr) = some ⟨g', off', none⟩ ∧ wr.cell? ⟨g', off' + q, none⟩ = some (.slice hs[q + 1].1 hs[q + 1].2.1 hs[q + 1].2.2)) := Lib.hid (fun c W st q hq => ⟨r0, roff + 1, rfl, by rw [show roff + 1 + q = roff + (q + 1) by omega]; exact hRT c W st q hq⟩)
            clear hRT
            go_wp2_with fail
            generalize (some (⟨r0, roff + 1, none⟩ : Addr)) = bs at *
            go_loopw [92] (fun v wr => InR pf pf col9 wz first h0 T (ps ++ [(num, first)]) rs rest po2 pc2 so sc v wr) (fun v _ => t - (intOf v).toNat)
            case atStart => exact J0.out
            case round =>
              clear J0
              obtain ⟨q, colq, roq, rcq, rhq, rfl, hq, hFq, stq⟩ := hrel.ex
              have hbq := hFq.box
              unfold fndC at hbq
              simp only [] at hbq
              obtain ⟨⟨y0, y1, y2, y3, y4, y5⟩, yf⟩ := cells_6f hbq
              have HTL := ht.out
              by_cases hqt : q < t
              case neg =>
                have hqe : q = t := by omega
                have htk : T.take q = T := List.take_of_length_le (by omega)
                rw [htk] at hFq y1 y3
                have hbq2 := hFq.box
                have yf4 := yf 4
                have hst : ∀ B : Bool, B = decide ((frames (h0 :: T)).length = b.length) → ScR pf pf n w2 NB RES (.int .i64 ((j + 1 : Nat) : Int)) (wr.setCell ⟨pf, 4, none⟩ (.bool B)) := fun B hB => by
                  have h := hFq.set (f' := ⟨ps ++ [(num, first)], rs ++ numbered first T, first + q, (frames (h0 :: T)).length, B, rest⟩) ((Kp.refl (fun j => j = pf) wr).setCell (p := ⟨pf, 4, none⟩) (fun _ => rfl) (.bool B)) ((heap_set_cell hbq2).trans (by unfold fndC; simp)) rfl rfl rfl
                  refine ⟨⟨j + 1, _, _, po2, pc2, roq, rcq, so, sc, rhq, by rfl, by omega, h.1, (HSz.out.trans stq).trans h.2, ?_, ⟨by simp; omega, by simp; omega, by simp [numbered_len]; omega⟩⟩⟩
                  have hf := HFB.out
                  rw [hB, hqe, ← HTL]
                  exact hf
                have HST := Lib.hid hst
                have hble := hbl.out
                clear hst hFq hbq hbq2 stq hrel
                rw [hble] at HST
                by_cases hw : (frames (h0 :: T)).length = bl
                · have R := Lib.hid (HST.out true (by simp [hw]))
                  have hwi : (((frames (h0 :: T)).length : Int) == (bl : Int)) = true := by simp [hw]
                  generalize (frames (h0 :: T)).length = fT at *
                  clear hw HST
                  go_wp2_with fail
                  go_roundw
                  case rel => exact R.out
                  case measure => simp [intOf]; omega
                · have R := Lib.hid (HST.out false (by simp [hw]))
                  have hwi : (((frames (h0 :: T)).length : Int) == (bl : Int)) = false := by simp; omega
                  generalize (frames (h0 :: T)).length = fT at *
                  clear hw HST
                  go_wp2_with fail
                  go_roundw
                  case rel => exact R.out
                  case measure => simp [intOf]; omega
              have hTq : q < T.length := by omega
              have hsq : q + 1 < hs.length := by omega
              obtain ⟨g1, o1, rfl, hcd⟩ := HRT.out colq wr stq q hsq
              have hdq := (HDATz.out (q + 1) hsq (by simp; omega)).stp stq
              have hszq : wr.cell? ⟨z0, zoff + (q + 1), none⟩ = some (.int .i64 ((frameL T[q]).length : Int)) := by
                obtain ⟨g2, o2, hgo, -, -, hc2, -⟩ := (HSZz.out.stp stq).at (k := q + 1) (by simp [sizesV]; omega)
                cases hgo
                rw [hc2]
                simp [sizesV]
              have hd1 : (h0 :: T)[q + 1]'(by simp; omega) = T[q] := by simp
              rw [hd1] at hdq
              have htk1 : T.take (q + 1) = T.take q ++ [T[q]] := take_snocG T q hTq
              have hfq1 : frames (h0 :: T.take (q + 1)) = frames (h0 :: T.take q) ++ frameL T[q] := by
                rw [htk1, ← List.cons_append, frames_append]
                simp [frames]
              have hnq1 : numbered first (T.take (q + 1)) = numbered first (T.take q) ++ [(first + q, T[q])] := by
                rw [htk1, numbered_snoc]
                have e : (T.take q).length = q := by rw [List.length_take]; omega
                rw [e]
              have hfr1 := HFRS.out (q + 1) (by omega)
              have hfl1 : (frames (h0 :: T.take (q + 1))).length = (frames (h0 :: T.take q)).length + (frameL T[q]).length := by rw [hfq1, List.length_append]
              obtain ⟨RL, hRL⟩ : ∃ x, Hid (rs ++ numbered first (T.take q) = x) := ⟨_, Lib.hid rfl⟩
              have hrl : RL.length ≤ 500000 * j + 466033 := by rw [← hRL.out, List.length_append, numbered_len, List.length_take]; omega
              obtain ⟨ri, hri⟩ : ∃ x, Hid (first + q = x) := ⟨_, Lib.hid rfl⟩
              have hri2 : ri ≤ 1099511627776 + 466033 := by rw [← hri.out]; omega
              have HN1 := Lib.hid hnq1
              have HL1 := Lib.hid hfl1
              generalize hx1 : hs[q + 1] = x1 at *
              generalize hTd : T[q] = d at *
              have HTD := Lib.hid hTd
              rw [hRL.out, hri.out] at hFq
              rw [hRL.out] at y1
              rw [hri.out] at y2
              rw [hri.out, hRL.out] at hbq
              rw [hfl1] at hfr1
              generalize hga : (frames (h0 :: T.take q)).length = ga at *
              generalize hgb : (frameL d).length = gb at *
              have HGA := Lib.hid (And.intro hga hgb)
              clear hd1 htk1 hfq1 hnq1 hfl1 hx1 hTd hga hgb
              have kB : Kp Noone wr (wr.alloc (.cells #[.int .i64 (ri : Int), .slice x1.1 x1.2.1 x1.2.2] 76)) := (Kp.refl _ _).alloc _
              have hown := hFq.recs.keep kB
              simp only [] at hown
              have hrow : Row (wr.alloc (.cells #[.int .i64 (ri : Int), .slice x1.1 x1.2.1 x1.2.2] 76)) (some ⟨wr.heap.size, 0, none⟩) [.int .i64 (ri : Int), .slice x1.1 x1.2.1 x1.2.2] := Row.ofHeap (heap_alloc_new wr (.cells #[.int .i64 (ri : Int), .slice x1.1 x1.2.1 x1.2.2] 76))
              have hBq : pf ≤ wr.heap.size := Nat.le_of_lt (Array.getElem?_eq_some_iff.1 hbq).1
              go_wp2_with (at_builtin; refine wpList_append_gen _ rfl (.tmp 98) (.tmp 103) 60 rfl 76 i2 (.agg #[.int .i64 0, .slice none 0 0]) 2 32 Tryz.underlying60 hi2 hi20 hi21 hi22 rfl roq RL.length rcq rfl (some ⟨wr.heap.size, 0, none⟩) 1 1 rfl (Col colq 2) (recsV rhq) hown [.int .i64 (ri : Int), .slice x1.1 x1.2.1 x1.2.2] rfl hrow (by intro u hu; simp at hu; rcases hu with rfl | rfl <;> rfl) (by omega) (by unfold maxLen; omega) ?_)
              intro ro3 rc3 w10 ho10 k10
              have hP := FAt.pushR (i := ri) (d := d) (xo := x1.1) (xm := x1.2.1) (xc := x1.2.2) (ro' := ro3) (rc' := rc3) hFq kB hBq ho10 k10 hdq
              simp only [] at hP
              have hb10 := k10.heap (kB.heap hbq id) (by unfold Col; rw [hFq.bcol]; omega)
              obtain ⟨⟨-, v1, -⟩, yf10⟩ := cells_6f hb10
              have yf101 := yf10 1
              clear hb10 yf10 ho10 k10 hown hrow hbq hFq hdq
              go_upto_region 21 with fail
              clear y0 y1 y2 y3 y4 y5 yf v1 yf101 hszq hcd
              generalize paint colq (wr.alloc (.cells #[.int .i64 (ri : Int), .slice x1.1 x1.2.1 x1.2.2] 76)) w10 2 = col11 at *
              generalize w10.setCell ⟨pf, 1, none⟩ (.slice ro3 (RL.length + 1) rc3) = w11 at *
              obtain ⟨hF11, st11⟩ := hP
              have hb11 := hF11.box
              unfold fndC at hb11
              simp only [] at hb11
              obtain ⟨⟨y0, y1, y2, y3, y4, y5⟩, yf⟩ := cells_6f hb11
              have yf2 := yf 2
              have hwn : IntKind.i64.wrap ((ri : Int) + 1) = (ri : Int) + 1 := IntWalk.i64_in _ (by omega)
              have hP := hF11.set (f' := ⟨ps ++ [(num, first)], RL ++ [(ri, d)], ri + 1, ga, true, rest⟩) ((Kp.refl (fun j => j = pf) w11).setCell (p := ⟨pf, 2, none⟩) (fun _ => rfl) (.int .i64 ((ri : Int) + 1))) ((heap_set_cell hb11).trans (by unfold fndC; simp)) rfl rfl rfl
              clear hF11 hb11 kB
              go_upto_region 22 with fail
              clear y0 y1 y2 y3 y4 y5 yf yf2
              generalize w11.setCell ⟨pf, 2, none⟩ (.int .i64 ((ri : Int) + 1)) = w12 at *
              obtain ⟨hF12, st12⟩ := hP
              have stA := (stq.trans st11).trans st12
              have hszq : w12.cell? ⟨z0, zoff + (q + 1), none⟩ = some (.int .i64 (gb : Int)) := by
                obtain ⟨g2, o2, hgo, -, -, hc2, -⟩ := (HSZz.out.stp stA).at (k := q + 1) (by simp [sizesV]; omega)
                cases hgo
                rw [hc2, ← HGA.out.2]
                simp [sizesV, HTD.out]
              have hb12 := hF12.box
              unfold fndC at hb12
              simp only [] at hb12
              obtain ⟨⟨y0, y1, y2, y3, y4, y5⟩, yf⟩ := cells_6f hb12
              have yf3 := yf 3
              have hbd := ((Kp.refl Noone w12).drew).heap hb12 id
              have kd : Kp (fun j => j = pf) w12 w12.drew := (Kp.refl _ _).drew
              have hwq : IntKind.i64.wrap ((q : Int) + 1) = (q : Int) + 1 := IntWalk.i64_in _ (by omega)
              have hwg : IntKind.i64.wrap ((ga : Int) + (gb : Int)) = (ga : Int) + (gb : Int) := IntWalk.i64_in _ (by omega)
              have hqm : (q : Int) + 1 < (m1 : Int) := by omega
              have HSTA := Lib.hid stA
              clear stA st11 st12 stq
              apply wp_region_zero (G := fun wz' => wz'.heap[pf]? = some (.cells (fndC po2 pc2 ro3 rc3 so sc ⟨ps ++ [(num, first)], RL ++ [(ri, d)], ri + 1, ga + gb, true, rest⟩) 127 (0, 0)) ∧ Kp (fun j => j = pf) w12 wz')
              case h =>
                go_region
                all_goals (
                  refine NoPanic.normal ⟨rfl, rfl, ?_⟩
                  exact ⟨(heap_set_cell hbd).trans (by unfold fndC; simp), kd.setCell (fun _ => rfl) _⟩)
              case k =>
                intro w13 hG
                obtain ⟨hb13, k13⟩ := hG
                have hP := hF12.set (f' := ⟨ps ++ [(num, first)], RL ++ [(ri, d)], ri + 1, ga + gb, true, rest⟩) k13 hb13 rfl rfl rfl
                have e1 : rs ++ numbered first (T.take (q + 1)) = RL ++ [(ri, d)] := by rw [HN1.out, ← List.append_assoc, hRL.out, hri.out]
                have e2 : first + (q + 1) = ri + 1 := by have := hri.out; omega
                have R : Hid (InR pf pf col9 wz first h0 T (ps ++ [(num, first)]) rs rest po2 pc2 so sc (.int .i64 ((q + 1 : Nat) : Int)) w13) := Lib.hid ⟨⟨q + 1, col11, ro3, rc3, _, by rfl, by omega, by rw [e1, e2, HL1.out]; exact hP.1, HSTA.out.trans hP.2⟩⟩
                clear hP e1 e2 hF12 hb12 hbd kd hb13 k13 y0 y1 y2 y3 y4 y5 yf yf3 hszq
                go_wp2_with fail
                go_roundw
                case rel => exact R.out
                case measure => simp [intOf]; omega)

end Go.Proofs.YtgbgbokcohfnpaaGreat
