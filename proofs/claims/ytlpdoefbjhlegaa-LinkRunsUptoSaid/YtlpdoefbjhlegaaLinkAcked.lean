/-
  THE WALK of acked.
-/
import Derived.Test.YtlpdoefbjhlegaaLinkFresh
namespace Go.Proofs.Ytlpdoefbjhlegaa
open Go.RowKit

abbrev Hs := List (Option Addr × Nat × Nat)

theorem outC_length : ∀ (out : List OutH) (hs : Hs), hs.length = out.length → (outC out hs).length = out.length * 4
  | [], [], _ => rfl
  | h :: r, s :: t, e => by
    have := outC_length r t (by simpa using e)
    simp [outC, heldC, this]; omega
  | [], _ :: _, e => by simp at e
  | _ :: _, [], e => by simp at e
theorem outC_append : ∀ (a b : List OutH) (x y : Hs), x.length = a.length → outC (a ++ b) (x ++ y) = outC a x ++ outC b y
  | [], b, [], y, _ => rfl
  | h :: r, b, s :: t, y, e => by
    have := outC_append r b t y (by simpa using e)
    simp [outC, this]
  | [], _, _ :: _, _, e => by simp at e
  | _ :: _, _, [], _, e => by simp at e
theorem outC_cut (out : List OutH) (hs : Hs) (hl : hs.length = out.length) (k : Nat) (hk : k ≤ out.length) :
    (outC out hs).take (k * 4) = outC (out.take k) (hs.take k) ∧ (outC out hs).drop (k * 4) = outC (out.drop k) (hs.drop k) := by
  have h1 : (outC (out.take k) (hs.take k)).length = k * 4 := by
    rw [outC_length _ _ (by simp; omega)]; simp; omega
  have h2 := outC_append (out.take k) (out.drop k) (hs.take k) (hs.drop k) (by simp; omega)
  rw [List.take_append_drop, List.take_append_drop] at h2
  rw [h2]
  constructor
  · rw [List.take_append_of_le_length (by omega), List.take_of_length_le (by omega)]
  · rw [List.drop_append_of_le_length (by omega), List.drop_of_length_le (by omega)]; rfl
theorem outC_get : ∀ (out : List OutH) (hs : Hs) (k : Nat) (h1 : k < out.length) (h2 : k < hs.length),
    (outC out hs)[k * 4]? = some (.int .i64 out[k].num) ∧ (outC out hs)[k * 4 + 1]? = some (.slice hs[k].1 hs[k].2.1 hs[k].2.2) ∧ (outC out hs)[k * 4 + 2]? = some (.bool out[k].sent) ∧ (outC out hs)[k * 4 + 3]? = some (.int .i64 out[k].time)
  | h :: r, s :: t, 0, _, _ => by simp [outC, heldC]
  | h :: r, s :: t, k + 1, h1, h2 => by
    have ih := outC_get r t k (by simpa using h1) (by simpa using h2)
    rw [show (k + 1) * 4 = k * 4 + 4 by omega]
    simpa [outC, heldC, Nat.add_assoc, List.getElem?_append_right] using ih

theorem Own.prefix {F : Nat → Prop} {w : World} {e sz : Nat} {ao : Option Addr} {n cap : Nat} {xs : List Value} (h : Own F w e sz ao n cap xs) {k : Nat} (hk : k ≤ n) : Own F w e sz ao k k (xs.take (k * sz)) := by
  obtain ⟨h1, h2, h3, h4⟩ := h
  have hkn : k * sz ≤ n * sz := Nat.mul_le_mul_right _ hk
  have hkc : k * sz ≤ cap * sz := Nat.mul_le_mul_right _ (Nat.le_trans hk h2)
  refine ⟨by rw [List.length_take, h1]; omega, Nat.le_refl _, by omega, ?_⟩
  rcases h4 with rfl | ⟨g, off, cur, ha, hg, hh, hb, hr⟩
  · left; omega
  · refine Or.inr ⟨g, off, cur, ha, hg, hh, by omega, fun i hi => ?_⟩
    have hi' : i < xs.length := by rw [List.length_take] at hi; omega
    rw [hr i hi', List.getElem_take]
theorem Row.drop {w : World} {g off : Nat} {xs : List Value} (h : Row w (some ⟨g, off, none⟩) xs) (j : Nat) : Row w (some ⟨g, off + j, none⟩) (xs.drop j) := by
  rcases h with rfl | ⟨b, o, hb, h⟩
  · rw [List.drop_nil]; exact Row.nil _ _
  · simp only [Option.some.injEq, Addr.mk.injEq] at hb
    obtain ⟨rfl, rfl, _⟩ := hb
    refine Or.inr ⟨g, off + j, rfl, fun i hi => ?_⟩
    rw [List.length_drop] at hi
    rw [show off + j + i = off + (j + i) by omega, h (j + i) (by omega), List.getElem_drop]
theorem outC_one : ∀ (out : List OutH) (hs : Hs), ∀ u ∈ outC out hs, u.oneCell' = true
  | [], hs, u, hu => by simp [outC] at hu
  | h :: r, [], u, hu => by simp [outC] at hu
  | h :: r, s :: t, u, hu => by
    simp [outC, heldC] at hu
    rcases hu with rfl | rfl | rfl | rfl | hu
    · rfl
    · rfl
    · rfl
    · rfl
    · exact outC_one r t u hu

/-- The messages without the first of a number. -/
def dropNum (mn : Int) : List OutH → List OutH
  | [] => []
  | h :: r => if h.num = mn then r else h :: dropNum mn r
def ackedF (s : LS) (mb mn : Int) : LS := if mb = s.boot then { s with out := dropNum mn s.out } else s
theorem dropNum_at (mn : Int) : ∀ (out : List OutH) (k : Nat) (hk : k < out.length), (∀ j (h : j < out.length), j < k → out[j].num ≠ mn) → out[k].num = mn → dropNum mn out = out.take k ++ out.drop (k + 1)
  | h :: r, 0, _, _, e => by unfold dropNum; rw [if_pos (by simpa using e)]; rfl
  | h :: r, k + 1, hk, ha, e => by
    unfold dropNum
    rw [if_neg (show ¬ h.num = mn from ha 0 (by simp) (by omega)), dropNum_at mn r k (by simpa using hk) (fun j h1 h2 => by have := ha (j + 1) (by simpa using h1) (by omega); simpa using this) (by simpa using e)]
    rfl
theorem dropNum_none (mn : Int) : ∀ (out : List OutH), (∀ j (h : j < out.length), out[j].num ≠ mn) → dropNum mn out = out
  | [], _ => rfl
  | h :: r, ha => by
    unfold dropNum
    rw [if_neg (show ¬ h.num = mn from ha 0 (by simp)), dropNum_none mn r (fun j h1 => by have := ha (j + 1) (by simpa using h1); simpa using this)]

theorem info_held : (Try.prog.info? 64).map (fun i => (i.zero, i.size, i.bytes)) = some (some (.agg #[.int .i64 0, .slice none 0 0, .bool false, .int .i64 0]), 4, 48) := by kernel_rfl

theorem LinkAt.keep {col : Nat → Nat} {i p : Nat} {s : LS} {r : LR} {w w' : World} (h : LinkAt col i w p s r) (k : Kp Noone w w') : LinkAt col i w' p s r :=
  ⟨h.own, k.heap h.head id, h.outs.kp k (fun _j c => c.elim), h.acks.keep k, h.mapc, h.map.kp k id, h.seen⟩
/-- Another slice of waiting messages. -/
theorem LinkAt.out {B : Nat} {col : Nat → Nat} {i p : Nat} {s : LS} {r : LR} {w w4 : World} (h : LinkAt col i w p s r) (hc : Cols B w col) (hB : B ≤ w.heap.size) {ao' : Option Addr} {cap' n' : Nat} {out' : List OutH} {hs' : Hs} (hn : n' = out'.length)
    (ho : Own (Ex (Col col (i + 2)) w w4) w4 64 4 ao' n' cap' (outC out' hs')) (k4 : Kp (Col col (i + 2)) w w4) (hhs : hs'.length = out'.length)
    (hd : ∀ j (h1 : j < hs'.length) (h2 : j < out'.length), DataAt (Col col (i + 5)) w hs'[j] out'[j].data) :
    LinkAt (paint col w w4 (i + 2)) i (w4.setCell ⟨p, 3, none⟩ (.slice ao' n' cap')) p { s with out := out' } { r with ao := ao', cap := cap', hs := hs' } ∧ Cols B (w4.setCell ⟨p, 3, none⟩ (.slice ao' n' cap')) (paint col w w4 (i + 2)) ∧
      Kp (fun j => i < col j ∧ col j ≤ i + 5) w (w4.setCell ⟨p, 3, none⟩ (.slice ao' n' cap')) := by
  subst hn
  have hc4 := hc.paint hB k4.size (i + 2)
  have hplt : p < w.heap.size := (Array.getElem?_eq_some_iff.1 h.head).1
  have hblt := h.map.lt
  have hP := h.own
  have hM := h.mapc
  have hp4 := k4.heap h.head (fun c => by unfold Col at c; omega)
  have k5 : Kp (fun j => j = p) w4 (w4.setCell ⟨p, 3, none⟩ (.slice ao' out'.length cap')) := Kp.setCell (S := fun j => j = p) (p := ⟨p, 3, none⟩) (Kp.refl _ _) (fun _ => rfl) _
  have hold : ∀ j, j < w.heap.size → paint col w w4 (i + 2) j = col j := fun j hj => by unfold Proofs.Ytlpdoefbjhlegaa.paint; rw [if_neg (by omega)]
  have hpn := hold p hplt
  refine ⟨⟨by rw [hpn]; exact hP, by rw [heap_set_cell hp4]; rfl, ?_, ?_, by rw [hold _ hblt]; exact hM, (h.map.kp k4 (fun c => by unfold Col at c; omega)).kp k5 (fun c => by have : r.b = p := c; rw [this] at hM; omega), h.seen⟩, hc4.keep k5.size, ?_⟩
  · refine ⟨ho.painted.kp k5 (fun j c d => by subst d; unfold Col at c; omega), hhs, fun j h1 h2 => ?_⟩
    have d1 := (hd j h1 h2).kp k4 (fun a c d => by unfold Col at c d; omega)
    exact (d1.mono (E := Col (paint col w w4 (i + 2)) (i + 5)) (fun a _ c => paint_old (Col.lt hc (by omega) c).2 c)).kp k5 (fun a c d => by subst d; unfold Col at c; omega)
  · exact ((h.acks.kp k4 (fun j c d => by unfold Col at c d; omega)).mono (G := Col (paint col w w4 (i + 2)) (i + 3)) (fun a _ c => paint_old (Col.lt hc (by omega) c).2 c)).kp k5 (fun j c d => by subst d; unfold Col at c; omega)
  · exact ((Kp.refl _ w).trans' k4 (fun j _ c => by unfold Col at c; omega)).trans' k5 (fun j _ c => by subst c; omega)

set_option maxHeartbeats 2000000 in
set_option maxRecDepth 100000 in
theorem acked_at (B : Nat) (col : Nat → Nat) (i p : Nat) (s : LS) (r : LR) (mb mn : Int) (w : World) (h : LinkAt col i w p s r) (hc : Cols B w col) (hok : LinkOk s) (hBw : B ≤ w.heap.size) :
    Calls Try.prog 39 #[.pointer (some ⟨p, 0, none⟩), .agg #[.int .i64 mb, .int .i64 mn]] w fun e w' => e = .returned (.tuple #[]) ∧ LkTo B col i w p (ackedF s mb mn) w' := by
  obtain ⟨i0, hi, hz0, hz1, hz2⟩ := info_parts info_held
  have hsame : ∀ w', Kp Noone w w' → LkTo B col i w p s w' := fun w' k =>
    ⟨col, r, hc.keep k.size, fun _ _ => rfl, fun k' hk hn => by have := hc k' hn; omega, k.none, ⟨h.own, k.heap h.head id, h.outs.kp k (fun j c => c.elim), h.acks.keep k, h.mapc, h.map.kp k id, h.seen⟩⟩
  have HSAME := Lib.hid hsame
  obtain ⟨ao, cap, ko, kcap, b, hs, sl⟩ := r
  have HL := Lib.hid h
  obtain ⟨hown, hhead, houts, hacks, hmapc, hmap, hseen⟩ := h
  simp only [] at hown hhead houts hacks hmapc hmap hseen
  have HP := Lib.hid hown
  have HB := Lib.hid hmapc
  have HC := Lib.hid hc
  have hplt := (Array.getElem?_eq_some_iff.1 hhead).1
  have hk1 : Kp Noone w (w.alloc (.cells #[.int .i64 mb, .int .i64 mn] 68)) := (Kp.refl _ _).alloc _
  obtain ⟨⟨q0, q1, q2, q3⟩, ⟨q4, q5, q6, q7⟩, qf⟩ := cells_eight (hk1.heap hhead id)
  obtain ⟨g0, g1, -, -⟩ := cells_two (heap_alloc_new w (.cells #[.int .i64 mb, .int .i64 mn] 68))
  have hgm := heap_alloc_new w (.cells #[.int .i64 mb, .int .i64 mn] 68)
  have hhead1 := hk1.heap hhead id
  have houts1 := houts.kp hk1 (fun j c => c.elim)
  clear hown hhead houts hmapc hc hseen hacks hmap hsame
  go_enter Try.func39, Try.ntmps39
  go_wp2_with fail
  generalize w.alloc (.cells #[.int .i64 mb, .int .i64 mn] 68) = wA at *
  by_cases c1 : mb = s.boot
  · have HE : Hid (ackedF s mb mn = { s with out := dropNum mn s.out }) := Lib.hid (by unfold ackedF; rw [if_pos c1])
    have c1' : (mb != s.boot) = false := by simp [c1]
    go_quiet (fail)
    have hk2 := hk1.drewN nq
    have hh2 := ((Kp.refl Noone wA).drewN nq).heap hhead1 id
    have hgm2 := ((Kp.refl Noone wA).drewN nq).heap hgm id
    have ho2 := houts1.kp ((Kp.refl Noone wA).drewN nq) (fun j c => c.elim)
    generalize wA.drewN nq = wB at *
    clear q0 q1 q2 q3 q4 q5 q6 q7 qf g0 g1 hgm hhead1 houts1 hk1 c1' c1
    obtain ⟨⟨q0, q1, q2, q3⟩, ⟨q4, q5, q6, q7⟩, qf⟩ := cells_eight hh2
    go_wp2_with fail
    clear q0 q1 q2 q3 q4 q5 q6 q7 qf
    have hol := hok.outL
    have hhl := ho2.hlen
    go_loopw [17] (fun i wr => ∃ k : Nat, i = .int .i64 (k : Int) ∧ k ≤ s.out.length ∧ Hid (∀ j (h : j < s.out.length), j < k → s.out[j].num ≠ mn) ∧ Kp Noone wB wr) (fun i _ => s.out.length - (intOf i).toNat)
    case atStart => exact ⟨0, rfl, Nat.zero_le _, Lib.hid (fun j h c => by omega), Kp.refl _ _⟩
    case round =>
      obtain ⟨k, rfl, hkn, hall, kr⟩ := hrel
      have hhr := kr.heap hh2 id
      have hgr := kr.heap hgm2 id
      have hor := ho2.kp kr (fun j c => c.elim)
      obtain ⟨⟨q0, q1, q2, q3⟩, ⟨q4, q5, q6, q7⟩, qf⟩ := cells_eight hhr
      obtain ⟨g0, g1, -, -⟩ := cells_two hgr
      by_cases hlt : k < s.out.length
      · have hlc := outC_length s.out hs hhl
        obtain ⟨n1, n2, n3, n4⟩ := outC_get s.out hs k hlt (by omega)
        obtain ⟨hk', e1⟩ := List.getElem?_eq_some_iff.1 n1
        obtain ⟨g, off, hao, hF, hg, hcg, hfg⟩ := hor.own.at hk'
        rw [e1] at hcg
        subst hao
        have hw1 : IntKind.i64.wrap ((k : Int) + 1) = (k : Int) + 1 := IntWalk.i64_in _ (by omega)
        have hw2 : ((k : Int) + 1).toNat = k + 1 := by omega
        clear n1 n2 n3 n4 hlc hk' e1
        have hcap := hor.own.2.1
        have hcm := hor.own.2.2.1
        unfold maxLen at hcm
        by_cases hnum : s.out[k].num = mn
        · have HE2 : Hid (ackedF s mb mn = { s with out := s.out.take k ++ s.out.drop (k + 1) }) := Lib.hid (by
            rw [HE.out, dropNum_at mn s.out k hlt hall.out hnum])
          have hbn : (s.out[k].num == mn) = true := by simp [hnum]
          clear hall
          go_wp2_with fail
          go_quiet (fail)
          have kq := hk2.trans (kr.drewN nq)
          have hhq := ((Kp.refl Noone wr).drewN nq).heap hhr id
          have hoq := hor.kp ((Kp.refl Noone wr).drewN nq) (fun j c => c.elim)
          generalize wr.drewN nq = wq at *
          clear q0 q1 q2 q3 q4 q5 q6 q7 qf g0 g1 hcg hfg hbn hnum
          obtain ⟨⟨q0, q1, q2, q3⟩, ⟨q4, q5, q6, q7⟩, qf⟩ := cells_eight hhq
          have hpre := (hoq.own.prefix (k := k) (by omega)).keep ((Kp.refl Noone wq).drew)
          have hrest : Row wq.drew (if cap = k + 1 then some ⟨g, off, none⟩ else some ⟨g, off + (k + 1) * 4, none⟩) ((outC s.out hs).drop ((k + 1) * 4)) := by
            split
            · rw [List.drop_of_length_le (by rw [outC_length _ _ hhl]; omega)]; exact Row.nil _ _
            · exact (hoq.own.row.drop ((k + 1) * 4)).keep ((Kp.refl Noone wq).drew)
          have hkc : k ≤ cap := by omega
          have hkc1 : k + 1 ≤ cap := by omega
          have hkn1 : (0 : Int) ≤ (k : Int) + 1 := by omega
          have hkn2 : (k : Int) + 1 ≤ (s.out.length : Int) := by omega
          rw [(outC_cut s.out hs hhl k (by omega)).1] at hpre
          rw [(outC_cut s.out hs hhl (k + 1) (by omega)).2] at hrest
          have hone := outC_one (s.out.drop (k + 1)) (hs.drop (k + 1))
          have hlen2 : (outC (s.out.drop (k + 1)) (hs.drop (k + 1))).length = (s.out.length - (k + 1)) * 4 := by rw [outC_length _ _ (by simp; omega)]; simp
          have HP6 := Lib.hid hpre
          have HR6 := Lib.hid hrest
          have HO6 := Lib.hid hone
          have HL6 := Lib.hid hlen2
          clear hpre hrest hone hlen2
          go_wp2_with fail
          go_region_law (refine step_append_gen rfl (.tmp 38) (.tmp 45) 56 rfl 64 i0 (.agg #[.int .i64 0, .slice none 0 0, .bool false, .int .i64 0]) 4 48 Try.underlying56 hi hz0 hz1 hz2 rfl (some ⟨g, off, none⟩) k k rfl (if cap = k + 1 then some ⟨g, off, none⟩ else some ⟨g, off + (k + 1) * 4, none⟩) (s.out.length - (k + 1)) (cap - (k + 1)) rfl _ _ HP6.out (outC (s.out.drop (k + 1)) (hs.drop (k + 1))) HL6.out HR6.out HO6.out (by omega) (by unfold maxLen; omega) ?_; intro ao' cap' w4 ho4 k4; have hp4 := k4.heap (((Kp.refl Noone wq).drew).heap hhq id) (fun c => by unfold Col at c; have := HP.out; omega); obtain ⟨⟨r0, r1, r2, r3⟩, ⟨r4, r5, r6, r7⟩, rf⟩ := cells_eight hp4)
          all_goals (
            have hlk := ((HL.out.keep kq).keep ((Kp.refl Noone wq).drew))
            rw [← outC_append _ _ _ _ (by simp; omega)] at ho4
            obtain ⟨hf1, hf2, hf3⟩ := hlk.out (HC.out.keep (kq.trans ((Kp.refl Noone wq).drew)).size) (Nat.le_trans hBw (kq.trans ((Kp.refl Noone wq).drew)).size) (by simp; omega) ho4 k4 (by simp; omega) (fun j h1 h2 => by
              have hda : ∀ j (h1 : j < hs.length) (h2 : j < s.out.length), DataAt (Col col (i + 5)) wq.drew hs[j] s.out[j].data := (HL.out.outs.kp (kq.trans ((Kp.refl Noone wq).drew)) (fun j c => c.elim)).data
              rw [List.length_append, List.length_take, List.length_drop] at h1 h2
              by_cases hj : j < k
              · have := hda j (by omega) (by omega)
                rw [List.getElem_append_left (by simp; omega), List.getElem_append_left (by simp; omega), List.getElem_take, List.getElem_take]
                exact this
              · have := hda (j + 1) (by omega) (by omega)
                rw [List.getElem_append_right (by simp; omega), List.getElem_append_right (by simp; omega), List.getElem_drop, List.getElem_drop]
                simp only [List.length_take]
                have e1 : k + 1 + (j - min k hs.length) = j + 1 := by omega
                have e2 : k + 1 + (j - min k s.out.length) = j + 1 := by omega
                simp only [e1, e2]
                exact this)
            have hto : LkTo B col i w p (ackedF s mb mn) (w4.setCell ⟨p, 3, none⟩ (.slice ao' (k + (s.out.length - (k + 1))) cap')) := by
              rw [HE2.out]
              have kqd := kq.trans ((Kp.refl Noone wq).drew)
              have hs1 := kqd.size
              refine ⟨_, _, hf2, fun j hj => by unfold Proofs.Ytlpdoefbjhlegaa.paint; rw [if_neg (by omega)], fun j hj hn => ?_, kqd.none.trans hf3, hf1⟩
              unfold Proofs.Ytlpdoefbjhlegaa.paint at hn ⊢
              split at hn
              · rename_i hc'; rw [if_pos hc']; omega
              · rename_i hc'; have := HC.out j hn; omega
            clear ho4 k4 hp4 r0 r1 r2 r3 r4 r5 r6 r7 rf hf1 hf2 hf3 hlk HP6 HR6 HO6 HL6
            go_wp2_with fail
            all_goals (
              (try simp only [Exit.inBlock, Exit.then])
              refine bodyPost_ret (results_none rfl _ _ _) rfl ?_
              exact ⟨rfl, hto⟩))
        · have hbn : (s.out[k].num == mn) = false := by simp [hnum]
          have hall2 : Hid (∀ j (h : j < s.out.length), j < k + 1 → s.out[j].num ≠ mn) := Lib.hid (fun j h1 h2 => by
            by_cases hj : j = k
            · subst hj; exact hnum
            · exact hall.out j h1 (by omega))
          clear hall
          go_wp2_with fail
          go_quiet (fail)
          go_wp2_with fail
          exact ⟨⟨k + 1, by rfl, by omega, hall2, kr.drewN _⟩, by simp [intOf]; omega⟩
      · have hkk : k = s.out.length := by omega
        have HE2 : Hid (ackedF s mb mn = s) := Lib.hid (by
          rw [HE.out, dropNum_none mn s.out (fun j h => hall.out j h (by omega))])
        go_wp2_with fail
        go_end0
        refine ⟨rfl, ?_⟩
        rw [HE2.out]
        exact HSAME.out _ (hk2.trans kr)
  · have HE : Hid (ackedF s mb mn = s) := Lib.hid (by unfold ackedF; rw [if_neg c1])
    have c1' : (mb != s.boot) = true := by simp [c1]
    go_quiet (fail)
    go_wp2_with fail
    (try simp only [Exit.inBlock, Exit.then]); refine bodyPost_ret (results_none rfl _ _ _) rfl ?_
    refine ⟨rfl, ?_⟩
    rw [HE.out]
    exact HSAME.out _ (hk1.drewN _)

end Go.Proofs.Ytlpdoefbjhlegaa
