/-
  THE WALK of a disk's Image.
-/
import Derived.Test.YtmmdojnjognccaaDiskHead
namespace Go.Proofs.Ytmmdojnjognccaa
open Go.RowKit

abbrev Hs := List (Option Addr × Nat × Nat)
abbrev Img := List (ByteArray × AreaP)
def imgC : Img → Hs → List Value
  | x :: r, h :: t => .string x.1 :: .slice h.1 h.2.1 h.2.2 :: .int .i64 x.2.safe :: imgC r t
  | _, _ => []
theorem imgC_length : ∀ (L : Img) (hs : Hs), hs.length = L.length → (imgC L hs).length = L.length * 3
  | [], [], _ => rfl
  | x :: r, h :: t, e => by
    have := imgC_length r t (by simpa using e)
    simp [imgC, this]; omega
  | [], _ :: _, e => by simp at e
  | _ :: _, [], e => by simp at e
theorem imgC_snoc : ∀ (L : Img) (hs : Hs) (x : ByteArray × AreaP) (h : Option Addr × Nat × Nat), hs.length = L.length → imgC (L ++ [x]) (hs ++ [h]) = imgC L hs ++ [.string x.1, .slice h.1 h.2.1 h.2.2, .int .i64 x.2.safe]
  | [], [], _, _, _ => rfl
  | y :: r, g :: t, x, h, e => by
    have := imgC_snoc r t x h (by simpa using e)
    simp [imgC, this]
  | [], _ :: _, _, _, e => by simp at e
  | _ :: _, [], _, _, e => by simp at e
theorem imgC_get : ∀ (L : Img) (hs : Hs) (k : Nat) (h1 : k < L.length) (h2 : k < hs.length), (imgC L hs)[k * 3]? = some (.string L[k].1) ∧ (imgC L hs)[k * 3 + 1]? = some (.slice hs[k].1 hs[k].2.1 hs[k].2.2) ∧ (imgC L hs)[k * 3 + 2]? = some (.int .i64 L[k].2.safe)
  | x :: r, h :: t, 0, _, _ => by simp [imgC]
  | x :: r, h :: t, k + 1, h1, h2 => by
    have := imgC_get r t k (by simpa using h1) (by simpa using h2)
    have e1 : (k + 1) * 3 = k * 3 + 1 + 1 + 1 := by omega
    rw [e1]
    simpa [imgC] using this

/-- An image in new memory: its row in blocks A, the bytes of each area in blocks of their own. -/
structure ImgP (z : Nat) (w : World) (ao : Option Addr) (n cap : Nat) (L : Img) (hs : Hs) (A : Nat → Prop) (G : Nat → Nat → Prop) : Prop where
  base : ∀ k, A k → z ≤ k
  data0 : ∀ j k, G j k → z ≤ k ∧ ¬ A k
  inj : ∀ i j k, G i k → G j k → i = j
  len : L.length = n
  hlen : hs.length = n
  own : Own A w 46 3 ao n cap (imgC L hs)
  data : ∀ j (h1 : j < hs.length) (h2 : j < L.length), Own (G j) w 5 1 hs[j].1 hs[j].2.1 hs[j].2.2 (bv L[j].2.data)
def ImgAt (z : Nat) (w : World) (ao : Option Addr) (n cap : Nat) (L : Img) : Prop := ∃ hs A G, ImgP z w ao n cap L hs A G
theorem ImgAt.nil (z : Nat) (w : World) (ao : Option Addr) : ImgAt z w ao 0 0 [] :=
  ⟨[], Noone, fun _ _ => False, fun _ c => c.elim, fun _ _ c => c.elim, fun _ _ _ c => c.elim, rfl, rfl, Own.nil _ _ _ _ _, fun j h => by simp at h⟩
theorem ImgP.kp {z : Nat} {w w' : World} {ao : Option Addr} {n cap : Nat} {L : Img} {hs : Hs} {A : Nat → Prop} {G : Nat → Nat → Prop} {S : Nat → Prop} (h : ImgP z w ao n cap L hs A G) (k : Kp S w w') (hS : ∀ j, z ≤ j → j < w.heap.size → ¬ S j) : ImgP z w' ao n cap L hs A G := by
  have k2 : Kp (fun j => S j ∧ j < w.heap.size) w w' := k.mono (fun j hj c => ⟨c, hj⟩)
  exact ⟨h.base, h.data0, h.inj, h.len, h.hlen, h.own.kp k2 (fun j c d => hS j (h.base j c) d.2 d.1), fun j a b => (h.data j a b).kp k2 (fun i c d => hS i (h.data0 j i c).1 d.2 d.1)⟩
theorem ImgAt.kp {z : Nat} {w w' : World} {ao : Option Addr} {n cap : Nat} {L : Img} {S : Nat → Prop} (h : ImgAt z w ao n cap L) (k : Kp S w w') (hS : ∀ j, z ≤ j → j < w.heap.size → ¬ S j) : ImgAt z w' ao n cap L := by
  obtain ⟨hs, A, G, h⟩ := h
  exact ⟨hs, A, G, h.kp k hS⟩
theorem ImgAt.keep {z : Nat} {w w' : World} {ao : Option Addr} {n cap : Nat} {L : Img} (h : ImgAt z w ao n cap L) (k : Kp Noone w w') : ImgAt z w' ao n cap L := h.kp k (fun _ _ _ c => c)
theorem ImgAt.low {z z' : Nat} {w : World} {ao : Option Addr} {n cap : Nat} {L : Img} (h : ImgAt z w ao n cap L) (hz : z' ≤ z) : ImgAt z' w ao n cap L := by
  obtain ⟨hs, A, G, h⟩ := h
  exact ⟨hs, A, G, fun k c => Nat.le_trans hz (h.base k c), fun j k c => ⟨Nat.le_trans hz (h.data0 j k c).1, (h.data0 j k c).2⟩, h.inj, h.len, h.hlen, h.own, h.data⟩
/-- One area more. -/
theorem ImgP.snoc {z : Nat} {w1 w4 w5 w6 w7 : World} {A : Nat → Prop} {G : Nat → Nat → Prop} {hs : Hs} {n : Nat} {L : Img} {ao : Option Addr} {cap : Nat} {k : ByteArray} {a : AreaP} {xo : Option Addr} {xc : Nat} {ao' : Option Addr} {cap' : Nat}
    (h : ImgP z w1 ao n cap L hs A G) (hz : z ≤ w1.heap.size) (hAlt : ∀ k, A k → k < w1.heap.size) (k14 : Kp Noone w1 w4) (hx : Own (fun j => w4.heap.size ≤ j) w5 5 1 xo a.data.length xc (bv a.data)) (k45 : Kp Noone w4 w5) (k56 : Kp Noone w5 w6)
    (ho : Own (Ex A w6 w7) w7 46 3 ao' (n + 1) cap' (imgC L hs ++ [.string k, .slice xo a.data.length xc, .int .i64 a.safe])) (k67 : Kp A w6 w7) : ImgAt z w7 ao' (n + 1) cap' (L ++ [(k, a)]) := by
  have s14 := k14.size
  have s45 := k45.size
  have s56 := k56.size
  have s67 := k67.size
  have hl := h.len
  have hhs := h.hlen
  refine ⟨hs ++ [(xo, a.data.length, xc)], fun k => A k ∨ (w6.heap.size ≤ k ∧ k < w7.heap.size), fun j k => if j = hs.length then w4.heap.size ≤ k ∧ k < w5.heap.size else G j k ∧ k < w1.heap.size, fun k c => ?_, fun j k c => ?_, fun i j k c d => ?_, by simp [hl], by simp [hhs], ?_, fun j h1 h2 => ?_⟩
  · rcases c with c | c
    · exact h.base k c
    · omega
  · split at c
    · exact ⟨by omega, fun d => by rcases d with d | d; have := hAlt k d; omega; omega⟩
    · refine ⟨(h.data0 j k c.1).1, fun d => ?_⟩
      rcases d with d | d
      · exact (h.data0 j k c.1).2 d
      · omega
  · split at c <;> split at d
    · omega
    · omega
    · omega
    · exact h.inj i j k c.1 d.1
  · rw [imgC_snoc L hs (k, a) _ (by omega)]
    exact ho
  · by_cases hj : j < hs.length
    · have hj2 : j < L.length := by omega
      rw [List.getElem_append_left hj, List.getElem_append_left hj2]
      simp only [if_neg (show ¬ j = hs.length by omega)]
      have d1 := (h.data j hj hj2).mono (G := fun k => G j k ∧ k < w1.heap.size) (fun a ha hb => ⟨hb, ha⟩)
      exact (d1.kp (k14.trans (k45.trans k56)) (fun _ _ c => c)).kp k67 (fun a c e => (h.data0 j a c.1).2 e)
    · have ej : j = hs.length := by simp at h1; omega
      subst ej
      rw [List.getElem_append_right (by omega), List.getElem_append_right (by omega)]
      simp only [if_true]
      have e0 : hs.length - L.length = 0 := by omega
      simp only [Nat.sub_self, e0, List.getElem_singleton]
      have hdx : Own (fun k => w4.heap.size ≤ k ∧ k < w5.heap.size) w5 5 1 xo a.data.length xc (bv a.data) := hx.mono (fun k hk c => ⟨c, hk⟩)
      exact (hdx.kp k56 (fun _ _ c => c)).kp k67 (fun a c e => by have := hAlt a e; omega)

theorem info_area : (Try.prog.info? 46).map (fun i => (i.zero, i.size, i.bytes)) = some (some (.agg #[.string ByteArray.empty, .slice none 0 0, .int .i64 0]), 3, 48) := by kernel_rfl

set_option maxHeartbeats 2000000 in
set_option maxRecDepth 100000 in
theorem image_dk (col : Nat → Nat) (i p : Nat) (s : DS) (w : World) (h : Dk col i w p s) :
    Calls Try.prog 18 #[.pointer (some ⟨p, 0, none⟩)] w fun e w' => ∃ ao cap, e = .returned (.slice ao (imageF s).length cap) ∧ ImgAt w.heap.size w' ao (imageF s).length cap (imageF s) ∧ Kp Noone w w' := by
  obtain ⟨i0, hi, hz0, hz1, hz2⟩ := info_parts info_area
  obtain ⟨⟨r, hr⟩, hok⟩ := h
  have hnl : (namesF s).length ≤ 64 := by unfold namesF; rw [sortN_length, List.length_map]; exact hok.len
  have HR := Lib.hid hr
  have HOK := Lib.hid hok
  unfold imageF
  rw [List.length_map]
  obtain ⟨ns, hNS⟩ : ∃ x, Hid (namesF s = x) := ⟨_, Lib.hid rfl⟩
  rw [hNS.out] at hnl ⊢
  obtain ⟨N, HN⟩ : ∃ x, Hid (ns.length = x) := ⟨_, Lib.hid rfl⟩
  rw [HN.out] at hnl ⊢
  clear hr hok
  go_enter Try.func18, Try.ntmps18
  go_wp2_with fail
  refine (names_at _ i p s r w HR.out HOK.out).mono ?_
  rw [hNS.out, HN.out]
  rintro e w1 ⟨no, ncap, rfl, hns, k1⟩
  have HN1 := Lib.hid hns
  have HR1 := Lib.hid (HR.out.keep k1)
  have HK1 := Lib.hid k1
  clear hns k1
  have hs1 : w.heap.size ≤ w1.heap.size := HK1.out.size
  go_wp2_with fail
  go_loopw [12, 3] (fun v ov wr => ∃ (j : Nat) (ao : Option Addr) (cap : Nat), v = .int .i64 (j : Int) ∧ j ≤ N ∧ ov = .slice ao j cap ∧ ImgAt w1.heap.size wr ao j cap ((ns.take j).map fun k => (k, get0 k s.areas)) ∧ Kp Noone w1 wr) (fun v _ _ => N - (intOf v).toNat)
  case atStart => exact ⟨0, none, 0, by rfl, Nat.zero_le _, rfl, by rw [List.take_zero]; exact ImgAt.nil _ _ _, Kp.refl _ _⟩
  case round =>
    obtain ⟨j, ao, cap, rfl, hjN, rfl, himg, kr⟩ := hrel
    by_cases hlt : j < N
    · have hjl : j < ns.length := by have := HN.out; omega
      have hwj : IntKind.i64.wrap ((j : Int) + 1) = (j : Int) + 1 := IntWalk.i64_in _ (by omega)
      have hnr := HN1.out.keep kr
      obtain ⟨nb, noff, rfl, -, hnbl, hnc, -⟩ := hnr.at (k := j) (by rw [List.length_map]; exact hjl)
      rw [List.getElem_map] at hnc
      have hr := HR1.out.keep kr
      have hne : Hid ((ns.take (j + 1)).map (fun k => (k, get0 k s.areas)) = (ns.take j).map (fun k => (k, get0 k s.areas)) ++ [(ns[j], get0 ns[j] s.areas)]) := Lib.hid (by rw [List.take_succ_eq_append_getElem hjl, List.map_append]; rfl)
      generalize ns[j] = nm at *
      obtain ⟨bo, c0, hown, hlk⟩ := hr.lookup nm false
      simp only [Bool.false_eq_true, if_false] at hlk
      obtain ⟨⟨q0, -, -, -, -⟩, -⟩ := cells_five hr.box
      have hgk := HOK.out.get nm
      generalize get0 nm s.areas = a at *
      obtain ⟨ad, sf⟩ := a
      simp only [] at hown hlk hgk
      have hIL : ((ns.take j).map fun k => (k, get0 k s.areas)).length = j := by rw [List.length_map, List.length_take]; omega
      generalize (ns.take j).map (fun k => (k, get0 k s.areas)) = L at *
      have kA : Kp Noone wr (wr.alloc (.cells #[.slice bo ad.length c0, .int .i64 sf] 69)) := (Kp.refl _ _).alloc _
      have hAb := heap_alloc_new wr (.cells #[.slice bo ad.length c0, .int .i64 sf] 69)
      obtain ⟨hs, A0, G, hI⟩ := himg
      have hAlt0 : Hid (∀ k, (A0 k ∧ k < wr.heap.size) → k < wr.heap.size) := Lib.hid (fun k c => c.2)
      have hI2 : ImgP w1.heap.size wr ao j cap L hs (fun k => A0 k ∧ k < wr.heap.size) G := ⟨fun k c => hI.base k c.1, fun i k c => ⟨(hI.data0 i k c).1, fun d => (hI.data0 i k c).2 d.1⟩, hI.inj, hI.len, hI.hlen, hI.own.mono (fun k hk c => ⟨c, hk⟩), hI.data⟩
      have hbs := (hown.keep kA).bs
      have HI := Lib.hid hI2
      have HKA := Lib.hid kA
      have HKR := Lib.hid kr
      have hcl := fun (W' : World) (k' : Kp Noone (wr.alloc (.cells #[.slice bo ad.length c0, .int .i64 sf] 69)) W') => clone_any bo ad.length c0 ad W' (hbs.keep k') hgk.2.2
      have hS : ∀ w', Kp Noone (wr.alloc (.cells #[.slice bo ad.length c0, .int .i64 sf] 69)) w' → w'.cell? ⟨wr.heap.size, 0, none⟩ = some (.slice bo ad.length c0) ∧ w'.cell? ⟨wr.heap.size, 1, none⟩ = some (.int .i64 sf) := fun w' kk => keep_cells hAb kk
      have hoA : Own (fun k => A0 k ∧ k < wr.heap.size) (wr.alloc (.cells #[.slice bo ad.length c0, .int .i64 sf] 69)) 46 3 ao j cap (imgC L hs) := hI2.own.keep kA
      have HOA := Lib.hid hoA
      have hgA : Hid (¬ (A0 wr.heap.size ∧ wr.heap.size < wr.heap.size)) := Lib.hid (fun c => by omega)
      have HAB := Lib.hid hAb
      clear hI hI2 kr kA hr hown hbs hoA hAb
      go_upto_region 8 with fail
      generalize wr.alloc (.cells #[.slice bo ad.length c0, .int .i64 sf] 69) = wA at *
      clear q0 hlk hnc hnr
      go_region_held3 (fun w' => w'.cell? ⟨wr.heap.size, 0, none⟩ = some (.slice bo ad.length c0) ∧ w'.cell? ⟨wr.heap.size, 1, none⟩ = some (.int .i64 sf))
        (first | exact hS _ ((Kp.refl Noone wA).drew) | exact hS _ (((Kp.refl Noone wA).drew).trans k') | exact hS _ ((((Kp.refl Noone wA).drew).trans k').alloc _) | exact hc7 | assumption)
        (first
          | (go_at_call 36; refine (hcl _ ((Kp.refl Noone wA).drew)).mono ?_; rintro e w' ⟨xo, xc, rfl, hx, k'⟩)
          | (refine step_append_gen rfl (.tmp 22) (.tmp 30) 38 (by dsimp only) 46 i0 (.agg #[.string ByteArray.empty, .slice none 0 0, .int .i64 0]) 3 48 Try.underlying38 hi hz0 hz1 hz2 rfl ao j cap (by rfl) (some ⟨w'.heap.size, 0, none⟩) 1 1 (by rfl) _ _ (HOA.out.keep ((((Kp.refl Noone wA).drew).trans k').alloc _)) [.string nm, .slice xo ad.length xc, .int .i64 sf] rfl (Row.ofHeap (heap_alloc_new w' _)) (by intro u hu; simp at hu; rcases hu with rfl | rfl | rfl <;> rfl) (by omega) (by unfold maxLen; omega) ?_; intro ao' cap' w7 ho7 k7; have hc7 : w7.cell? ⟨wr.heap.size, 0, none⟩ = some (.slice bo ad.length c0) ∧ w7.cell? ⟨wr.heap.size, 1, none⟩ = some (.int .i64 sf) := ⟨k7.cell (hS _ ((((Kp.refl Noone wA).drew).trans k').alloc _)).1 hgA.out, k7.cell (hS _ ((((Kp.refl Noone wA).drew).trans k').alloc _)).2 hgA.out⟩))
      have k6 : Kp Noone w' (w'.alloc (.cells #[.string nm, .slice xo ad.length xc, .int .i64 sf] 46)) := (Kp.refl _ _).alloc _
      have RI := HI.out.snoc (k := nm) (a := ⟨ad, sf⟩) HKR.out.size hAlt0.out (HKA.out.drew) hx k' k6 ho7 k7
      have K7 : Kp Noone w1 w7 := (((HKR.out.trans HKA.out).trans ((Kp.refl Noone wA).drew)).trans (k'.trans k6)).fin k7 (fun k c => Or.inr (HI.out.base k c))
      rw [← hne.out] at RI
      have HRI := Lib.hid RI
      have HK7 := Lib.hid K7
      clear RI K7 k6 k7 ho7 hx k' hcl hS hc7
      go_wp2_with fail
      go_roundw
      case rel => exact ⟨j + 1, ao', cap', by rfl, by omega, rfl, HRI.out, HK7.out⟩
      case measure => simp [intOf]; omega
    · obtain rfl : j = N := by omega
      have he : ns.take j = ns := by rw [← HN.out]; exact List.take_length
      rw [he] at himg
      have HI := Lib.hid (himg.low (z' := w.heap.size) hs1)
      have HKR := Lib.hid (HK1.out.trans kr)
      clear himg he kr
      go_wp2_with fail
      go_ret
      exact ⟨ao, cap, rfl, HI.out, HKR.out⟩

end Go.Proofs.Ytmmdojnjognccaa
