/-
  THE WALK of Send.
-/
import Derived.Test.YtlpdoefbjhlegaaLinkNew
namespace Go.Proofs.Ytlpdoefbjhlegaa
open Go.RowKit

/-- Other colours on new blocks. -/
theorem LinkAt.recol {col col' : Nat → Nat} {i p : Nat} {s : LS} {r : LR} {w : World} (h : LinkAt col i w p s r) (he : ∀ j, j < w.heap.size → col' j = col j) : LinkAt col' i w p s r := by
  have hplt : p < w.heap.size := (Array.getElem?_eq_some_iff.1 h.head).1
  have hm : ∀ (c : Nat) (j : Nat), j < w.heap.size → Col col c j → Col col' c j := fun c j hj hcj => by unfold Col at *; rw [he j hj]; exact hcj
  exact ⟨by rw [he p hplt]; exact h.own, h.head, ⟨h.outs.own.mono (hm _), h.outs.hlen, fun j h1 h2 => (h.outs.data j h1 h2).mono (hm _)⟩, h.acks.mono (hm _), by rw [he _ h.map.lt]; exact h.mapc, h.map, h.seen⟩
theorem LinkAt.setNext {col : Nat → Nat} {i p : Nat} {s : LS} {r : LR} {w : World} (h : LinkAt col i w p s r) (x : Int) : LinkAt col i (w.setCell ⟨p, 2, none⟩ (.int .i64 x)) p { s with next := x } r := by
  have k : Kp (fun j => j = p) w (w.setCell ⟨p, 2, none⟩ (.int .i64 x)) := Kp.setCell (S := fun j => j = p) (p := ⟨p, 2, none⟩) (Kp.refl _ _) (fun _ => rfl) _
  have hP := h.own
  have hM := h.mapc
  exact ⟨hP, by rw [heap_set_cell h.head]; rfl, h.outs.kp k (fun j c => by subst c; omega), h.acks.kp k (fun j c d => by subst d; unfold Col at c; omega), hM, h.map.kp k (fun c => by have : r.b = p := c; rw [this] at hM; omega), h.seen⟩

def sentLS (s : LS) (d : List UInt8) : LS := { s with out := s.out ++ [⟨s.next, d, false, 0⟩], next := s.next + 1 }
/-- Is the queue full? -/
def full (s : LS) : Bool := match s.out with
  | [] => false
  | h :: _ => decide (32 ≤ s.next - h.num)
theorem full_nil (s : LS) (h : s.out.length = 0) : full s = false := by
  unfold full
  rw [List.eq_nil_of_length_eq_zero h]
theorem full_at (s : LS) (h : 0 < s.out.length) : full s = decide ((32 : Int) ≤ s.next - (s.out[0]'h).num) := by
  obtain ⟨boot, retry, next, out, acks, peer, low, seen⟩ := s
  cases out with
  | nil => simp at h
  | cons a r => rfl
def sendF (s : LS) (d : List UInt8) : LS × Nat := if 65472 < d.length then (s, 12) else if full s = true then (s, 64) else (sentLS s d, 0)

theorem sentOut {B : Nat} {col : Nat → Nat} {i p : Nat} {s : LS} {r : LR} {w w1 w2 w3 w4 : World} (h : LinkAt col i w p s r) (hc : Cols B w col) (hB : B ≤ w.heap.size) (k1 : Kp Noone w w1)
    {d : List UInt8} {n : Nat} {da : Option Addr} {dc : Nat} (hd : Own (Ex Noone w1 w2) w2 5 1 da n dc (bv d)) (k2 : Kp Noone w1 w2) (k3 : Kp Noone w2 w3)
    {ao' : Option Addr} {cap' : Nat} (ho : Own (Ex (Col col (i + 2)) w3 w4) w4 64 4 ao' (s.out.length + 1) cap' (outC s.out r.hs ++ [.int .i64 s.next, .slice da n dc, .bool false, .int .i64 0])) (k4 : Kp (Col col (i + 2)) w3 w4) :
    LkTo B col i w p { s with out := s.out ++ [⟨s.next, d, false, 0⟩] } (w4.setCell ⟨p, 3, none⟩ (.slice ao' (s.out.length + 1) cap')) := by
  have s1 := k1.size
  have s2 := k2.size
  have s3 := k3.size
  have hcolz : ∀ j, w.heap.size ≤ j → col j = 0 := fun j hj => Classical.byContradiction fun c => by have := hc j c; omega
  have hp1 : ∀ j, j < w1.heap.size → paint col w1 w2 (i + 5) j = col j := fun j hj => by unfold Proofs.Ytlpdoefbjhlegaa.paint; rw [if_neg (by omega)]
  have eC : Col (paint col w1 w2 (i + 5)) (i + 2) = Col col (i + 2) := by
    funext j
    unfold Col Proofs.Ytlpdoefbjhlegaa.paint
    split
    · rename_i c
      have := hcolz j (by omega)
      simp only [this]
      exact propext ⟨fun c => by omega, fun c => by omega⟩
    · rfl
  have h1 : LinkAt (paint col w1 w2 (i + 5)) i w3 p s r := ((h.recol (col' := paint col w1 w2 (i + 5)) (fun j hj => hp1 j (by omega))).keep (k1.trans (k2.trans k3)))
  have hc1 : Cols B w3 (paint col w1 w2 (i + 5)) := (((hc.keep k1.size).paint (by omega) s2 (i + 5)).keep s3)
  rw [← eC] at ho k4
  have hlen : (r.hs ++ [(da, n, dc)]).length = (s.out ++ [(⟨s.next, d, false, 0⟩ : OutH)]).length := by simp [h.outs.hlen]
  have eO : outC s.out r.hs ++ [.int .i64 s.next, .slice da n dc, .bool false, .int .i64 0] = outC (s.out ++ [⟨s.next, d, false, 0⟩]) (r.hs ++ [(da, n, dc)]) := by
    rw [outC_append _ _ _ _ h.outs.hlen]; rfl
  rw [eO] at ho
  obtain ⟨f1, f2, f3⟩ := h1.out hc1 (by omega) (n' := s.out.length + 1) (by simp) ho k4 hlen (fun j h2 h3 => by
    by_cases hj : j < r.hs.length
    · have hj2 : j < s.out.length := by have := h.outs.hlen; omega
      rw [List.getElem_append_left hj, List.getElem_append_left hj2]
      exact h1.outs.data j hj hj2
    · have ej : j = r.hs.length := by simp at h2; omega
      subst ej
      have el := h.outs.hlen
      rw [List.getElem_append_right (by omega), List.getElem_append_right (by omega)]
      simp only [Nat.sub_self, el, List.getElem_singleton]
      refine ⟨(hd.bs.keep k3), fun hne a ha => ?_⟩
      rcases hd with ⟨e1, e2, e3, e4⟩
      rcases e4 with rfl | ⟨g, off, cur, rfl, hg, e5⟩
      · exfalso
        apply hne
        rw [length_bv] at e1
        exact List.eq_nil_of_length_eq_zero (by omega)
      · cases ha
        exact paint_new hg)
  have sz := k4.size
  refine ⟨_, _, f2, fun j hj => ?_, fun j hj hn => ?_, ((k1.trans (k2.trans k3)).none).trans' f3 (fun j hj c => by rw [hp1 j (by omega)] at c; exact c), f1⟩
  · show paint (paint col w1 w2 (i + 5)) w3 w4 (i + 2) j = col j
    rw [← hp1 j (by omega)]
    exact if_neg (by omega)
  · have hz := hcolz j hj
    change paint (paint col w1 w2 (i + 5)) w3 w4 (i + 2) j ≠ 0 at hn
    show i < paint (paint col w1 w2 (i + 5)) w3 w4 (i + 2) j ∧ paint (paint col w1 w2 (i + 5)) w3 w4 (i + 2) j ≤ i + 5
    unfold Proofs.Ytlpdoefbjhlegaa.paint at hn ⊢
    split
    · omega
    · split
      · omega
      · rename_i c1 c2
        rw [if_neg c1, if_neg c2] at hn
        omega

set_option maxHeartbeats 8000000 in
set_option maxRecDepth 100000 in
theorem send_at (B : Nat) (col : Nat → Nat) (i p : Nat) (s : LS) (r : LR) (fo : Option Addr) (n cap : Nat) (d : List UInt8) (w : World) (h : LinkAt col i w p s r) (hc : Cols B w col) (hok : LinkOk s) (hBw : B ≤ w.heap.size) (hb : BS w fo n cap d)
    (s' : LS) (er : Nat) (hR : sendF s d = (s', er)) :
    Calls Try.prog 13 #[.pointer (some ⟨p, 0, none⟩), .slice fo n cap] w fun e w' => e = .returned (.int .i64 (er : Int)) ∧ LkTo B col i w p s' w' := by
  obtain ⟨i0, hi, hz0, hz1, hz2⟩ := info_parts info_held
  obtain ⟨j0, hj, hj0, hj1, hj2⟩ := info_parts info_u8
  have hsame : Hid (∀ w', Kp Noone w w' → LkTo B col i w p s w') := Lib.hid (fun w' k =>
    ⟨col, r, hc.keep k.size, fun _ _ => rfl, fun k' hk hn => by have := hc k' hn; omega, k.none, h.keep k⟩)
  obtain ⟨ao, ocap, ko, kcap, b, hs, sl⟩ := r
  have HR := Lib.hid hR
  have HL := Lib.hid h
  have HC := Lib.hid hc
  have hlen := hb.len
  have hhead := h.head
  simp only [] at hhead
  have hhl := h.outs.hlen
  have hol := hok.outL
  have hnx := hok.next
  obtain ⟨⟨q0, q1, q2, q3⟩, ⟨q4, q5, q6, q7⟩, qf⟩ := cells_eight hhead
  have hown := h.outs.own
  simp only [] at hhl hown
  clear hR h hc
  go_enter Try.func13, Try.ntmps13
  by_cases c1 : 65472 < n
  · have HE : Hid (s = s' ∧ 12 = er) := Lib.hid (by
      have e := HR.out
      unfold sendF at e
      rw [if_pos (by omega)] at e
      simpa using e)
    go_wp2_with fail
    go_ret
    obtain ⟨rfl, rfl⟩ := HE.out
    exact ⟨rfl, hsame.out _ (Kp.refl _ _)⟩
  · have HR2 : Hid ((if full s = true then (s, 64) else (sentLS s d, 0)) = (s', er)) := Lib.hid (by
      have e := HR.out
      unfold sendF at e
      rw [if_neg (by omega)] at e
      exact e)
    clear HR
    go_upto_region 5 with fail
    go_cut [12] from 13 (fun v wx => v = .bool (full s) ∧ Kp Noone w wx)
    case first =>
      by_cases hl : s.out.length = 0
      · have HF := Lib.hid (full_nil s hl)
        go_quiet (fail)
        go_wp2_with fail
        go_meet
        case rel => exact ⟨by rw [HF.out], (Kp.refl _ _).drewN _⟩
      · have hlt : 0 < s.out.length := by omega
        have hlc := outC_length s.out hs hhl
        obtain ⟨n1, n2, n3, n4⟩ := outC_get s.out hs 0 hlt (by omega)
        obtain ⟨hk', e1⟩ := List.getElem?_eq_some_iff.1 n1
        obtain ⟨g, off, hao, hF, hg, hcg, hfg⟩ := hown.at hk'
        rw [e1] at hcg
        simp only [Nat.zero_mul, Nat.add_zero] at hcg hfg
        subst hao
        have HF := Lib.hid (full_at s hlt)
        have hnum := (hok.outN _ (List.getElem_mem hlt))
        clear n1 n2 n3 n4 hlc hk' e1
        generalize s.out[0].num = y at *
        have hw1 : IntKind.i64.wrap (s.next - y) = s.next - y := IntWalk.i64_in _ (by omega)
        by_cases hc2 : 32 ≤ s.next - y
        · go_quiet (fail)
          go_wp2_with fail
          go_meet
          case rel => exact ⟨by rw [HF.out, decide_eq_true hc2], (Kp.refl _ _).drewN _⟩
        · have hc3 := Lib.hid hc2
          go_quiet (fail)
          go_wp2_with fail
          go_meet
          case rel => exact ⟨by rw [HF.out, decide_eq_false (by omega)], (Kp.refl _ _).drewN _⟩
    case rest =>
    obtain ⟨rfl, kx⟩ := hcut
    clear q0 q1 q2 q3 q4 q5 q6 q7 qf hown
    cases hf : full s with
    | true =>
      have HE : Hid (s = s' ∧ 64 = er) := Lib.hid (by simpa [hf] using HR2.out)
      clear hf
      go_wp2_with fail
      go_ret
      obtain ⟨rfl, rfl⟩ := HE.out
      exact ⟨rfl, hsame.out _ kx⟩
    | false =>
      have HE : Hid (sentLS s d = s' ∧ 0 = er) := Lib.hid (by simpa [hf] using HR2.out)
      clear hf HR2
      have hhx := kx.heap hhead id
      have hbx := hb.keep kx
      have hox := HL.out.outs.own.keep kx
      obtain ⟨⟨q0, q1, q2, q3⟩, ⟨q4, q5, q6, q7⟩, qf⟩ := cells_eight hhx
      have HO : Hid (∀ (W : World) (x y z : Value), Row (W.alloc (.cells #[x, y, z, .int .i64 0] 64)) (some ⟨W.heap.size, 0, none⟩) [x, y, z, .int .i64 0]) := Lib.hid (by
        intro W x y z
        refine Row.ofHeap (e := 64) (fr := (0, 0)) ?_
        rw [heap_alloc_new])
      have H1 : Hid (∀ (da : Option Addr) (dc : Nat), ∀ u ∈ [Value.int .i64 s.next, .slice da n dc, .bool false, .int .i64 0], u.oneCell' = true) := Lib.hid (by intro da dc u hu; simp at hu; rcases hu with rfl | rfl | rfl | rfl <;> rfl)
      have hnx2 := hok.next
      go_upto_region 7 with fail
      go_cut [] from 50 (fun wx => LkTo B col i w p { s with out := s.out ++ [⟨s.next, d, false, 0⟩] } wx)
      case first =>
        go_region_law (first
          | (refine step_append_gen rfl (.const (.slice none 0 0)) (.tmp 43) 31 (by dsimp only) 5 j0 (.int .u8 0) 1 1 Try.underlying31 hj hj0 hj1 hj2 rfl none 0 0 (by rfl) fo n cap (by rfl) Noone [] (Own.nil _ _ _ _ _) (bv d) (by rw [length_bv, hlen, Nat.mul_one]) (hbx.row.keep ((Kp.refl _ _).drew)) (bv_one _) (by omega) (by unfold maxLen; omega) ?_; intro da dc w2 hd2 k2; rw [Nat.zero_add] at hd2; have hh2 := k2.heap (((Kp.refl Noone wc).drew).heap hhx id) id; have hka := fun o : Obj => (cells_eight (((Kp.refl Noone w2).alloc o).heap hh2 id)).1.2.2.2; obtain ⟨⟨s0, s1, s2, s3⟩, ⟨s4, s5, s6, s7⟩, sf⟩ := cells_eight hh2)
          | (refine step_append_gen rfl (.tmp 38) (.tmp 46) 56 (by dsimp only) 64 i0 (.agg #[.int .i64 0, .slice none 0 0, .bool false, .int .i64 0]) 4 48 Try.underlying56 hi hz0 hz1 hz2 rfl ao s.out.length ocap (by rfl) (some ⟨w2.heap.size, 0, none⟩) 1 1 (by rfl) _ _ (((hox.keep ((Kp.refl _ _).drew)).keep k2).keep ((Kp.refl _ _).alloc _)) [.int .i64 s.next, .slice da n dc, .bool false, .int .i64 0] rfl (HO.out _ _ _ _) (H1.out da dc) (by omega) (by unfold maxLen; omega) ?_; intro ao' cap' w4 ho4 k4; have hp4 := k4.heap (((Kp.refl Noone w2).alloc _).heap hh2 id) (fun c => by unfold Col at c; have := HL.out.own; omega); obtain ⟨⟨r0, r1, r2, r3⟩, ⟨r4, r5, r6, r7⟩, rf⟩ := cells_eight hp4))
        all_goals (
          have hto := sentOut HL.out HC.out hBw ((kx).drew) hd2 k2 ((Kp.refl Noone w2).alloc _) ho4 k4
          clear HE HO H1 HL HC r0 r1 r2 r3 r4 r5 r6 r7 rf hp4 ho4 k4 hd2 k2 hh2 hka s0 s1 s2 s3 s4 s5 s6 s7 sf
          go_wp2_with fail
          go_meet
          case rel => exact hto)
      case rest =>
      obtain ⟨col', r', f1, f2, f3, f4, f5⟩ := hcut
      have hH := f5.head
      simp only [] at hH
      have F5 := Lib.hid f5
      clear q0 q1 q2 q3 q4 q5 q6 q7 qf hhx hbx hox HO H1
      obtain ⟨⟨q0, q1, q2, q3⟩, ⟨q4, q5, q6, q7⟩, qf⟩ := cells_eight hH
      have hw1 : IntKind.i64.wrap (s.next + 1) = s.next + 1 := IntWalk.i64_in _ (by omega)
      have hplt := (Array.getElem?_eq_some_iff.1 hH).1
      have hlow := (Array.getElem?_eq_some_iff.1 hhead).1
      go_wp2_with fail
      go_ret
      obtain ⟨rfl, rfl⟩ := HE.out
      have k5 : Kp (fun j => j = p) wc (wc.setCell ⟨p, 2, none⟩ (.int .i64 (s.next + 1))) := Kp.setCell (S := fun j => j = p) (p := ⟨p, 2, none⟩) (Kp.refl _ _) (fun _ => rfl) _
      exact ⟨rfl, col', r', f1.keep k5.size, f2, f3, f4.trans' k5 (fun j _ c => by subst c; have := F5.out.own; rw [f2 _ hlow] at this; omega), F5.out.setNext _⟩

end Go.Proofs.Ytlpdoefbjhlegaa
