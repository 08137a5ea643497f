/-
  THE WALK of the document's Send.
-/
import Derived.Test.YtlpdoefbjhlegaaRunsRef
namespace Go.Proofs.Ytlpdoefbjhlegaa
open Go.RowKit

theorem info_heldR : (Try.prog.info? 62).map (fun i => (i.zero, i.size, i.bytes)) = some (some (.agg #[.int .i64 0, .slice none 0 0, .bool false, .int .i64 0]), 4, 48) := by kernel_rfl
theorem fullR_nil (m : RL) (h : m.out.length = 0) : fullR m = false := by
  unfold fullR
  rw [List.eq_nil_of_length_eq_zero h]
theorem fullR_at (m : RL) (h : 0 < m.out.length) : fullR m = decide ((m.out[0]'h).num + 32 ≤ m.next) := by
  unfold fullR
  revert h
  cases m.out with
  | nil => intro h; simp at h
  | cons a r => intro h; rfl
theorem Row.at4 {w : World} {ao : Option Addr} {xs : List Value} (h : Row w ao xs) {k : Nat} {v : Value} (hk : xs[k]? = some v) : ∃ b off, ao = some ⟨b, off, none⟩ ∧ w.cell? ⟨b, off + k, none⟩ = some v := by
  obtain ⟨hl, he⟩ := List.getElem?_eq_some_iff.1 hk
  rcases h with rfl | ⟨b, off, rfl, hr⟩
  · simp at hl
  · exact ⟨b, off, rfl, by rw [hr k hl, he]⟩

/-- The box and the place of the answer, made at the start. -/
theorem two_new (w : World) (m : RL) (r : RR) (Z : Array Value) (T : Nat) : Kp Noone w ((w.alloc (.cells (linkC m r) T)).alloc (.cells Z T)) ∧ ((w.alloc (.cells (linkC m r) T)).alloc (.cells Z T)).heap[w.heap.size]? = some (.cells (linkC m r) T (0, 0)) ∧
    ((w.alloc (.cells (linkC m r) T)).alloc (.cells Z T)).heap[w.heap.size + 1]? = some (.cells Z T (0, 0)) :=
  ⟨((Kp.refl _ _).alloc _).alloc _, ((Kp.refl Noone (w.alloc (.cells (linkC m r) T))).alloc _).heap (heap_alloc_new w _) id, heap_alloc2_new w _ _⟩

theorem link_load (w : World) (g : Nat) (cs : Array Value) (h : w.heap[g]? = some (.cells cs 29 (0, 0))) (h8 : cs.size = 8) : (loadVar 29 ⟨g, 0, none⟩).run Try.prog w = .ok (.agg cs) w :=
  run_loadVar_row w g 29 29 cs (0, 0) _ h Try.underlying29 rfl (by rw [info_link, h8])
theorem results_row_tmp {fn : Func} {p u : Tmp} (h : fn.results = #[.cell p 29, .tmp u]) (tmps : Array Value) (w : World) (g : Nat) (cs : Array Value)
    (hp : tmps.getD p undef = .pointer (some ⟨g, 0, none⟩)) (hg : w.heap[g]? = some (.cells cs 29 (0, 0))) (h8 : cs.size = 8) :
    (results fn tmps).run Try.prog w = .ok (.tuple #[.agg cs, tmps.getD u undef]) w := by
  have hp' : tmps[p]?.getD undef = .pointer (some ⟨g, 0, none⟩) := by simpa using hp
  simp [results, h, hp', asAddr, link_load w g cs hg h8]
theorem set8_heap {w : World} {g e : Nat} {a0 a1 a2 a3 a4 a5 a6 a7 : Value} (h : w.heap[g]? = some (.cells #[a0, a1, a2, a3, a4, a5, a6, a7] e (0, 0))) (c0 c1 c2 c3 c4 c5 c6 c7 : Value) :
    ((((((((w.setCell ⟨g, 0, none⟩ c0).setCell ⟨g, 1, none⟩ c1).setCell ⟨g, 2, none⟩ c2).setCell ⟨g, 3, none⟩ c3).setCell ⟨g, 4, none⟩ c4).setCell ⟨g, 5, none⟩ c5).setCell ⟨g, 6, none⟩ c6).setCell ⟨g, 7, none⟩ c7).heap[g]? = some (.cells #[c0, c1, c2, c3, c4, c5, c6, c7] e (0, 0)) :=
  (heap_set_cell (heap_set_cell (heap_set_cell (heap_set_cell (heap_set_cell (heap_set_cell (heap_set_cell (heap_set_cell h)))))))).trans (by simp)
theorem set8_kp {w w1 : World} {g : Nat} (k : Kp Noone w w1) (hg : w.heap.size ≤ g) (c0 c1 c2 c3 c4 c5 c6 c7 : Value) :
    Kp Noone w ((((((((w1.setCell ⟨g, 0, none⟩ c0).setCell ⟨g, 1, none⟩ c1).setCell ⟨g, 2, none⟩ c2).setCell ⟨g, 3, none⟩ c3).setCell ⟨g, 4, none⟩ c4).setCell ⟨g, 5, none⟩ c5).setCell ⟨g, 6, none⟩ c6).setCell ⟨g, 7, none⟩ c7) :=
  kp_new (kp_new (kp_new (kp_new (kp_new (kp_new (kp_new (kp_new k hg _ _) hg _ _) hg _ _) hg _ _) hg _ _) hg _ _) hg _ _) hg _ _

theorem set8_kpS {S : Nat → Prop} {w w1 : World} {g : Nat} (k : Kp S w w1) (hg : S g) (c0 c1 c2 c3 c4 c5 c6 c7 : Value) :
    Kp S w ((((((((w1.setCell ⟨g, 0, none⟩ c0).setCell ⟨g, 1, none⟩ c1).setCell ⟨g, 2, none⟩ c2).setCell ⟨g, 3, none⟩ c3).setCell ⟨g, 4, none⟩ c4).setCell ⟨g, 5, none⟩ c5).setCell ⟨g, 6, none⟩ c6).setCell ⟨g, 7, none⟩ c7) :=
  (((((((k.setCell (fun _ => hg) _).setCell (fun _ => hg) _).setCell (fun _ => hg) _).setCell (fun _ => hg) _).setCell (fun _ => hg) _).setCell (fun _ => hg) _).setCell (fun _ => hg) _).setCell (fun _ => hg) _

set_option maxHeartbeats 2000000 in
set_option maxRecDepth 100000 in
theorem sendR_any (P : Nat → Prop) (m : RL) (r : RR) (fo : Option Addr) (n cap : Nat) (d : List UInt8) (w : World) (h : RefAt P w m r) (hok : RefOk m) (hb : BS w fo n cap d) (hn : n ≤ 140737488355328) :
    Calls Try.prog 12 #[linkV m r, .slice fo n cap] w fun e w' => ∃ r', e = .returned (.tuple #[linkV (sendR m d).1 r', .int .i64 ((sendR m d).2 : Int)]) ∧ RefTo P w (sendR m d).1 r' w' := by
  obtain ⟨i0, hi, hz0, hz1, hz2⟩ := info_parts info_heldR
  obtain ⟨k2, hB, hR⟩ := two_new w m r #[.int .i64 0, .int .i64 0, .int .i64 0, .slice none 0 0, .slice none 0 0, .int .i64 0, .int .i64 0, .slice none 0 0] 29
  have hlen := hb.len
  have H := Lib.hid h
  have HO := Lib.hid hok
  have hsame : ∀ w', Kp Noone w w' → RefTo P w m r w' := fun w' k => ⟨k, (h.kp k (fun _ _ c => c)).mono (fun _ _ c => Or.inl c)⟩
  have HSA := Lib.hid hsame
  have hol := hok.outL
  have hnx := hok.next
  have HH := Lib.hid h.hlen
  obtain ⟨M, hM⟩ : ∃ M, Hid (sendR m d = M) := ⟨_, Lib.hid rfl⟩
  rw [hM.out]
  clear h hok hsame
  unfold linkV
  unfold linkC at *
  go_enter Try.func12, Try.ntmps12
  by_cases c1 : 65472 < n
  · have hE : Hid (M = (m, 12)) := Lib.hid (by rw [← hM.out]; unfold sendR; rw [if_pos (by omega)])
    go_wp2_with fail
    rw [hE.out]
    refine bodyPost_ret (v := .tuple #[linkV m r, .int .i64 12]) (by rw [results_cell_tmp rfl]; go_simp; rfl) rfl ⟨r, rfl, HSA.out _ (((Kp.refl _ _).alloc _).alloc _)⟩
  · have hE2 : Hid (M = if fullR m = true then (m, 64) else ({ m with out := m.out ++ [⟨m.next, d, false, 0⟩], next := m.next + 1 }, 0)) := Lib.hid (by rw [← hM.out]; unfold sendR; rw [if_neg (by omega)])
    go_upto_region 3 with fail
    generalize (w.alloc _).alloc _ = wB at *
    obtain ⟨⟨q0, q1, q2, q3⟩, ⟨q4, q5, q6, q7⟩, qf⟩ := cells_eight hB
    go_cut [25] from 7 (fun v wx => v = .bool (fullR m) ∧ Kp Noone wB wx)
    case first =>
      by_cases hl : m.out.length = 0
      · have HF := Lib.hid (fullR_nil m hl)
        go_quiet (fail)
        go_wp2_with fail
        go_meet
        case rel => exact ⟨by rw [HF.out], (Kp.refl _ _).drewN _⟩
      · have hlt : 0 < m.out.length := by omega
        obtain ⟨n1, n2, n3, n4⟩ := outC_get m.out r.hs 0 hlt (by rw [HH.out]; exact hlt)
        have hrow := (H.out.outs.kp k2 (fun _ _ c => c)).row
        obtain ⟨g, off, hao, hcg⟩ := hrow.at4 n1
        simp only [Nat.zero_mul, Nat.add_zero] at hcg
        have HF := Lib.hid (fullR_at m hlt)
        have hnum := (HO.out.outN _ (List.getElem_mem hlt))
        rw [hao] at q3
        clear n1 n2 n3 n4 hrow hao
        generalize m.out[0].num = y at *
        have hw1 : IntKind.i64.wrap (y + 32) = y + 32 := IntWalk.i64_in _ (by omega)
        by_cases hc2 : y + 32 ≤ m.next
        · go_quiet (fail)
          go_wp2_with fail
          go_meet
          case rel => exact ⟨by rw [HF.out, decide_eq_true hc2], (Kp.refl _ _).drewN _⟩
        · have hc3 := Lib.hid hc2
          go_quiet (fail)
          go_wp2_with fail
          go_meet
          case rel => exact ⟨by rw [HF.out, decide_eq_false (show ¬ (y + 32 ≤ m.next) by have := hc3.out; omega)], (Kp.refl _ _).drewN _⟩
    case rest =>
    obtain ⟨rfl, kx⟩ := hcut
    have k2x := k2.trans kx
    have hBx := kx.heap hB id
    have hRx := kx.heap hR id
    clear q0 q1 q2 q3 q4 q5 q6 q7 qf
    cases hf : fullR m with
    | true =>
      have hE : Hid (M = (m, 64)) := Lib.hid (by rw [hE2.out, if_pos hf])
      obtain ⟨⟨q0, q1, q2, q3⟩, ⟨q4, q5, q6, q7⟩, qf⟩ := cells_eight hBx
      obtain ⟨⟨p0, p1, p2, p3⟩, ⟨p4, p5, p6, p7⟩, pf⟩ := cells_eight hRx
      clear hf hE2
      go_wp2_with fail
      rw [hE.out]
      refine bodyPost_ret (v := .tuple #[linkV m r, .int .i64 64]) (by rw [results_row_tmp rfl _ _ (w.heap.size + 1) _ rfl (set8_heap hRx _ _ _ _ _ _ _ _) rfl]; rfl) rfl ⟨r, rfl, HSA.out _ (set8_kp k2x (by omega) _ _ _ _ _ _ _ _)⟩
    | false =>
      have hE : Hid (M = ({ m with out := m.out ++ [⟨m.next, d, false, 0⟩], next := m.next + 1 }, 0)) := Lib.hid (by rw [hE2.out, if_neg (by rw [hf]; simp)])
      obtain ⟨⟨q0, q1, q2, q3⟩, ⟨q4, q5, q6, q7⟩, qf⟩ := cells_eight hBx
      have hrow := (H.out.outs.kp k2x (fun _ _ c => c)).row
      have hlc : (outC m.out r.hs).length = m.out.length * 4 := outC_length m.out r.hs HH.out
      clear hf hE2
      have kA : Kp Noone wc (wc.alloc (.cells #[] 62)) := (Kp.refl _ _).alloc _
      have hrowA := hrow.keep kA
      have qA3 := kA.cell q3 id
      go_wp2_with (at_builtin; refine wpList_append_gen _ rfl (.tmp 27) (.tmp 29) 26 rfl 62 i0 (.agg #[.int .i64 0, .slice none 0 0, .bool false, .int .i64 0]) 4 48 Try.underlying26 hi hz0 hz1 hz2 rfl (some ⟨wc.heap.size, 0, none⟩) 0 0 rfl r.oo m.out.length r.oc rfl Noone [] (Own.nil _ _ _ _ _) (outC m.out r.hs) hlc hrowA (outC_one _ _) (by omega) (by unfold maxLen; omega) ?_)
      intro ao' cap' w3 ho k3
      have k23 := (k2x.trans kA).trans k3
      have h3B := k3.heap (kA.heap hBx id) id
      have h3R := k3.heap (kA.heap hRx id) id
      have hb3 := hb.keep k23
      have ho3 := ho.mono (G := fun j => w.heap.size + 2 ≤ j ∧ j < w3.heap.size) (fun j hj c => by
        have h1 := (Ex.none c).1
        have h2 := kA.size
        have h3 := kx.size
        have h4 := (Array.getElem?_eq_some_iff.1 hR).1
        omega)
      have hsz : w.heap.size + 2 ≤ w3.heap.size := by
        have h2 := kA.size
        have h3 := kx.size
        have h4 := (Array.getElem?_eq_some_iff.1 hR).1
        have h5 := k3.size
        omega
      clear q0 q1 q2 q3 q4 q5 q6 q7 qf qA3 hrowA hrow ho kA k3 k2x hBx hRx hB hR kx k2
      obtain ⟨⟨q0, q1, q2, q3⟩, ⟨q4, q5, q6, q7⟩, qf⟩ := cells_eight h3B
      generalize hg : w.heap.size = g at *
      have HO3 := Lib.hid ho3
      have hgl : g + 2 ≤ w3.heap.size := hsz
      go_upto_region 6 with fail
      have kD : Kp Noone w3 w3.drew := (Kp.refl _ _).drew
      have d0 := kD.cell q2 id
      have dh := kD.heap h3B id
      have hb4 := hb3.keep kD
      clear q0 q1 q2 q3 q4 q5 q6 q7 qf
      go_region_held3 (fun w' => w'.cell? ⟨g, 2, none⟩ = some (.int .i64 m.next))
        (first | assumption | exact hgB0 _ | exact hset _)
        (first
          | (go_at_call 11; refine (copy_exact fo n cap d _ hb4 (by omega)).mono ?_; rintro e w' ⟨rfl, hw'⟩; obtain ⟨hbc, kw⟩ := copied2 hw' hlen (by unfold maxLen; omega); have hcp : w'.heap[w3.heap.size]? = _ := (congrArg (fun x => x.heap[w3.heap.size]?) hw').trans (heap_alloc_new w3.drew _); clear hw'; have d0 := kw.cell d0 id; have dh := kw.heap dh id; have k4 := kD.trans kw; have hgB0 := fun o : Obj => ((Kp.refl Noone w').alloc o).cell d0 id)
          | (refine step_append_gen rfl (.tmp 31) (.tmp 37) 26 (by dsimp only) 62 i0 (.agg #[.int .i64 0, .slice none 0 0, .bool false, .int .i64 0]) 4 48 Try.underlying26 hi hz0 hz1 hz2 rfl ao' m.out.length cap' (by rfl) (some ⟨w'.heap.size, 0, none⟩) 1 1 (by rfl) _ _ (HO3.out.keep (k4.alloc _)) [.int .i64 m.next, .slice (some ⟨w3.drew.heap.size, 0, none⟩) n n, .bool false, .int .i64 0] rfl (Row.ofHeap (heap_alloc_new w' _)) (by intro u hu; simp at hu; rcases hu with rfl | rfl | rfl | rfl <;> rfl) (by omega) (by unfold maxLen; omega) ?_; intro bo' bcap' w7 ho7 k7; have dh := k7.heap (((Kp.refl Noone w').alloc _).heap dh id) (fun c => Nat.not_le.2 (Nat.lt_add_of_pos_right (by decide : 0 < 2)) c.1); obtain ⟨⟨-, -, d0, d3⟩, -, df⟩ := cells_eight dh; have df3 := df 3; have hset : ∀ v : Value, (w7.setCell ⟨g, 3, none⟩ v).cell? ⟨g, 2, none⟩ = some (.int .i64 m.next) := fun v => by rw [World.cell?_setCell_other (h := fun c => by cases c)]; exact d0))
      have hR7 := k7.heap ((k4.alloc _).heap h3R id) (fun c => by have h := c.1; omega)
      have dh8 := heap_set_cell (n := 3) (u := .slice bo' (m.out.length + 1) bcap') dh
      have hR8 := set_off hR7 (show g ≠ g + 1 by omega) 3 (.slice bo' (m.out.length + 1) bcap')
      have K7 : Kp Noone w w7 := (k23.trans (k4.alloc _)).fin k7 (fun j c => Or.inr (by have h := c.1; omega))
      have K8 := kp_new (g := g) K7 (by omega) 3 (.slice bo' (m.out.length + 1) bcap')
      have e8 : (w7.setCell ⟨g, 3, none⟩ (.slice bo' (m.out.length + 1) bcap')).heap.size = w7.heap.size := by simp
      have sB : w'.heap.size ≤ w7.heap.size := Nat.le_trans ((Kp.refl Noone w').alloc _).size k7.size
      have s3 : w3.heap.size < w'.heap.size := by
        obtain ⟨b, hb1, hb2⟩ : ∃ b, w3.heap.size = b ∧ b < w'.heap.size := by
          have := (Array.getElem?_eq_some_iff.1 hcp).1
          exact ⟨_, rfl, this⟩
        omega
      have hcd : DataAt (fun j => g + 2 ≤ j) w7 (some ⟨w3.heap.size, 0, none⟩, n, n) d := by
        have h1 : DataAt (fun j => j = w3.heap.size) w' (some ⟨w3.heap.size, 0, none⟩, n, n) d := ⟨hbc, fun _ a ha => by cases ha; rfl⟩
        have h2 := (h1.kp ((Kp.refl Noone w').alloc _) (fun _ _ c => c)).kp k7 (fun j c e => by have h := e.2; omega)
        exact h2.mono (fun j _ c => by omega)
      have hout : RowP (fun j => g + 2 ≤ j) w7 bo' (m.out.length + 1) bcap' (outC (m.out ++ [⟨m.next, d, false, 0⟩]) (r.hs ++ [(some ⟨w3.heap.size, 0, none⟩, n, n)])) := by
        rw [outC_append _ _ _ _ HH.out]
        exact ho7.rowP.mono (fun j _ c => by
          rcases c with c | c
          · omega
          · have := Nat.le_trans ((Kp.refl Noone w').alloc _).size c.1
            omega)
      have HRA : Hid (RefAt (fun j => (P j ∧ j < w.heap.size) ∨ g + 2 ≤ j) w7 { m with out := m.out ++ [⟨m.next, d, false, 0⟩], next := m.next + 1 } ⟨bo', bcap', r.ko, r.kc, r.co, r.cc, r.hs ++ [(some ⟨w3.heap.size, 0, none⟩, n, n)]⟩) := Lib.hid (by
        have h7 := (H.out.mono (Q := fun j => P j ∧ j < w.heap.size) (fun j a b => ⟨b, a⟩)).kp K7 (fun _ _ c => c)
        refine ⟨?_, by simp [HH.out], fun j h1 h2 => ?_, h7.acks.mono (fun _ _ c => Or.inl c), h7.came.mono (fun _ _ c => Or.inl c)⟩
        · have : (m.out ++ [(⟨m.next, d, false, 0⟩ : OutH)]).length = m.out.length + 1 := by simp
          show RowP _ w7 bo' (m.out ++ [(⟨m.next, d, false, 0⟩ : OutH)]).length bcap' _
          rw [this]
          exact hout.mono (fun _ _ c => Or.inr c)
        · show DataAt _ w7 ((r.hs ++ [(some ⟨w3.heap.size, 0, none⟩, n, n)])[j]'h1) ((m.out ++ [(⟨m.next, d, false, 0⟩ : OutH)])[j]'h2).data
          have hh := HH.out
          by_cases hj : j < r.hs.length
          · rw [List.getElem_append_left hj, List.getElem_append_left (by omega)]
            exact (h7.data j hj (by omega)).mono (fun _ _ c => Or.inl c)
          · have ej : j = r.hs.length := by simp at h1; omega
            subst ej
            rw [List.getElem_append_right (by omega), List.getElem_append_right (by omega)]
            simp only [Nat.sub_self, hh, List.getElem_singleton]
            exact hcd.mono (fun _ _ c => Or.inr c))
      have K8H := Lib.hid K8
      have DH8 : Hid ((w7.setCell ⟨g, 3, none⟩ (.slice bo' (m.out.length + 1) bcap')).heap[g]? = some (.cells #[.int .i64 m.boot, .int .i64 m.retry, .int .i64 m.next, .slice bo' (m.out.length + 1) bcap', .slice r.ko (m.acks.length * 2) r.kc, .int .i64 m.peer, .int .i64 m.below, .slice r.co m.came.length r.cc] 29 (0, 0))) := Lib.hid (dh8.trans (by simp))
      have HRA8 : Hid (∀ w', Kp (fun j => j = g ∨ j = g + 1) w7 w' → RefTo P w { m with out := m.out ++ [⟨m.next, d, false, 0⟩], next := m.next + 1 } ⟨bo', bcap', r.ko, r.kc, r.co, r.cc, r.hs ++ [(some ⟨w3.heap.size, 0, none⟩, n, n)]⟩ w') := Lib.hid (fun w' k => by
        refine ⟨K7.fin k (fun j c => Or.inr (by omega)), ?_⟩
        exact (HRA.out.kp k (fun j c e => by rcases c with c | c <;> omega)).mono (fun j hj c => by
          rcases c with c | c
          · exact Or.inl c.1
          · exact Or.inr ⟨by omega, hj⟩))
      have k78 : Kp (fun j => j = g ∨ j = g + 1) w7 (w7.setCell ⟨g, 3, none⟩ (.slice bo' (m.out.length + 1) bcap')) := Kp.setCell (Kp.refl _ _) (fun _ => Or.inl rfl) _
      generalize w7.setCell ⟨g, 3, none⟩ (.slice bo' (m.out.length + 1) bcap') = w8 at *
      clear dh8 hcd hout HRA K8 K7 ho7 k7 d0 d3 df df3 hset hgB0 dh
      have dh8 := DH8.out
      obtain ⟨⟨q0, q1, q2, q3⟩, ⟨q4, q5, q6, q7⟩, qf⟩ := cells_eight dh8
      obtain ⟨⟨p0, p1, p2, p3⟩, ⟨p4, p5, p6, p7⟩, pf⟩ := cells_eight hR8
      have hw1 : IntKind.i64.wrap (m.next + 1) = m.next + 1 := IntWalk.i64_in _ (by omega)
      go_wp2_with fail
      rw [hE.out]
      have hR9 := set_off hR8 (show g ≠ g + 1 by omega) 2 (.int .i64 (m.next + 1))
      have k89 : Kp (fun j => j = g ∨ j = g + 1) w7 (w8.setCell ⟨g, 2, none⟩ (.int .i64 (m.next + 1))) := k78.setCell (fun _ => Or.inl rfl) _
      have H8 := set8_heap hR9 (.int .i64 m.boot) (.int .i64 m.retry) (.int .i64 (m.next + 1)) (.slice bo' (m.out.length + 1) bcap') (.slice r.ko (m.acks.length * 2) r.kc) (.int .i64 m.peer) (.int .i64 m.below) (.slice r.co m.came.length r.cc)
      have HV : linkV { m with out := m.out ++ [⟨m.next, d, false, 0⟩], next := m.next + 1 } ⟨bo', bcap', r.ko, r.kc, r.co, r.cc, r.hs ++ [(some ⟨w3.heap.size, 0, none⟩, n, n)]⟩ = .agg #[.int .i64 m.boot, .int .i64 m.retry, .int .i64 (m.next + 1), .slice bo' (m.out.length + 1) bcap', .slice r.ko (m.acks.length * 2) r.kc, .int .i64 m.peer, .int .i64 m.below, .slice r.co m.came.length r.cc] := by simp [linkV]
      refine bodyPost_ret (v := .tuple #[linkV { m with out := m.out ++ [⟨m.next, d, false, 0⟩], next := m.next + 1 } ⟨bo', bcap', r.ko, r.kc, r.co, r.cc, r.hs ++ [(some ⟨w3.heap.size, 0, none⟩, n, n)]⟩, .int .i64 0]) ?_ rfl ⟨_, rfl, HRA8.out _ (set8_kpS k89 (Or.inr rfl) _ _ _ _ _ _ _ _)⟩
      rw [HV]
      refine (results_row_tmp (fn := Try.f12) (p := 4) (u := 5) rfl _ _ (g + 1) _ ?_ H8 rfl).trans ?_
      · rfl
      · rfl

end Go.Proofs.Ytlpdoefbjhlegaa
