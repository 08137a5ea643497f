/-
  WalRefK, WalRefL in one text.
-/
import Derived.Test.YtigdhdclfdojgaaGreatWalRefHI
/-
  THE WALK of the document's log: Recs.
-/
namespace Go.Proofs.YtigdhdclfdojgaaGreat
open Go.RowKit

/-- A slice of records in blocks of one kind. -/
def RSP (P : Nat → Prop) (w : World) (ro : Option Addr) (rc : Nat) (recs : Recs) : Prop := ∃ rh, Own P w 118 2 ro recs.length rc (recsV rh) ∧ RecsAt P w rh recs
/-- What Recs answers. -/
structure RcsTo (P : Nat → Prop) (w : World) (recs : Recs) (e : Ending) (w' : World) : Prop where
  ex : ∃ ro rc, e = .returned (.slice ro recs.length rc) ∧ RSP P w' ro rc recs ∧ Kp Noone w w'
/-- Between two records. -/
structure RcR (P : Nat → Prop) (m0 mA : Nat) (wA : World) (recs : Recs) (vo : Value) (wr : World) : Prop where
  ex : ∃ ro rc rh, vo = .slice ro recs.length rc ∧ Own (fun j => mA ≤ j) wr 118 2 ro recs.length rc (recsV rh) ∧ RecsAt (fun j => P j ∧ j < m0) wr rh recs ∧ Kp Noone wA wr
theorem recsOf_len (B : Nat) : ∀ (ps : List PcS), (∀ p ∈ ps, p.recs.length ≤ B) → (recsOf ps).length ≤ ps.length * B
  | [], _ => by simp [recsOf]
  | a :: r, h => by
    have h1 := recsOf_len B r (fun p hp => h p (List.mem_cons_of_mem _ hp))
    have h2 := h a (List.mem_cons_self ..)
    show (numbered a.first a.recs ++ recsOf r).length ≤ (r.length + 1) * B
    rw [List.length_append, numbered_len, Nat.add_mul, Nat.one_mul]
    omega
theorem take_one9 {α : Type} {l : List α} {k : Nat} (h : k < l.length) : l.take (k + 1) = l.take k ++ [l[k]] := by simp
set_option maxHeartbeats 8000000 in
set_option maxRecDepth 100000 in
theorem recs_ref (P : Nat → Prop) (ao : Option Addr) (cap : Nat) (po : Option Addr) (pc : Nat) (m : RLog) (w : World) (hps : RPs P w po m.ps.length pc m.ps) (hP : ∀ j, w.heap.size ≤ j → P j) (hlen : m.ps.length ≤ 100000) (hnr : ∀ p ∈ m.ps, p.recs.length ≤ 28147497) (hfr : ∀ p ∈ m.ps, p.first + p.recs.length ≤ 4611686018427387904) :
    Calls Tryz.prog 60 #[rlV ao cap po pc m] w fun e w' => RcsTo P w (recsOf m.ps) e w' := by
  obtain ⟨i0, hi, hz0, hz1, hz2⟩ := info_parts info_rec
  obtain ⟨recs, hrecs⟩ : ∃ x, Hid (recsOf m.ps = x) := ⟨_, Lib.hid rfl⟩
  rw [hrecs.out]
  have hx := heap_alloc_new w (.cells (rlC ao cap po pc m) 37)
  have kA : Kp Noone w (w.alloc (.cells (rlC ao cap po pc m) 37)) := (Kp.refl _ _).alloc _
  have eA := alloc_size w (.cells (rlC ao cap po pc m) 37)
  conv => unfold rlV
  simp only [rlC] at hx kA eA ⊢
  go_enter Tryz.func60, Tryz.ntmps60
  go_upto_region 1 with fail
  generalize w.alloc (.cells #[.slice ao m.d.L.length cap, .int .i64 m.d.room, .int .i64 m.d.steps, .int .i64 m.d.fuse, .bool m.d.down, .int .i64 (m.lim : Int), .slice po m.ps.length pc, .bool m.shut] 37) = wA at *
  generalize hgx : w.heap.size = gx at *
  have hps1 := Lib.hid ((hps.mono (Q := fun j => P j ∧ j < gx) (fun j hj c => ⟨c, by omega⟩)).keep kA)
  have HFIN : Hid (∀ wr vo, RcR P gx (gx + 1) wA (recsOf m.ps) vo wr → RcsTo P w recs (.returned vo) wr) := Lib.hid (fun wr vo R => by
    obtain ⟨ro, rc, rh, rfl, ho, hr, k⟩ := R.ex
    rw [hrecs.out] at *
    exact ⟨⟨ro, rc, rfl, ⟨rh, ho.mono (fun j _ c => hP j (by omega)), hr.mono (fun j _ c => c.1)⟩, kA.trans k⟩⟩)
  have hlr := Lib.hid (recsOf_len 28147497 m.ps hnr)
  have HKA := Lib.hid kA
  have HN := Lib.hid (And.intro hnr hfr)
  have kB : Kp Noone wA (wA.alloc (.cells #[] 118)) := (Kp.refl _ _).alloc _
  have R0 : Hid (RcR P gx (gx + 1) wA (recsOf (m.ps.take 0)) (.slice (some ⟨wA.heap.size, 0, none⟩) 0 0) (wA.alloc (.cells #[] 118))) := Lib.hid ⟨⟨some ⟨wA.heap.size, 0, none⟩, 0, [], rfl, Own.fresh (xs := []) (by omega) (heap_alloc_new wA (.cells #[] 118)) rfl (by simp [maxLen, recsOf]), RecsAt.nil _ _, kB⟩⟩
  rw [eA] at R0
  obtain ⟨-, ⟨-, -, y6, -⟩, -⟩ := cells_8 (kB.heap hx id)
  clear kA kB hnr hfr hP hps
  go_wp2_with fail
  clear y6
  go_loopw [3, 10] (fun vo vi wr => ∃ k : Nat, vi = .int .i64 (k : Int) ∧ k ≤ m.ps.length ∧ RcR P gx (gx + 1) wA (recsOf (m.ps.take k)) vo wr) (fun _ vi _ => m.ps.length - (intOf vi).toNat)
  case atStart => exact ⟨0, rfl, Nat.zero_le _, R0.out⟩
  case round =>
    clear R0
    obtain ⟨k, rfl, hk, R⟩ := hrel
    have HR := Lib.hid R
    by_cases hlt : k < m.ps.length
    case neg =>
      obtain rfl : k = m.ps.length := by omega
      have F := Lib.hid (HFIN.out wr _ (by have := HR.out; rwa [List.take_length] at this))
      clear HR R
      go_wp2_with fail
      go_ret
      exact F.out
    obtain ⟨ro0, rc0, rh0, rfl, -, -, kr0⟩ := R.ex
    have HK0 := Lib.hid kr0
    obtain ⟨b, off, ro, rc, hpo, hbl, hbP, c0, c1, c2, hrr⟩ := (hps1.out.keep kr0).get k hlt
    subst hpo
    have hfi := HN.out.2 _ (List.getElem_mem hlt)
    have hni := HN.out.1 _ (List.getElem_mem hlt)
    have htk := take_one9 hlt
    have HTK : Hid (∀ vo wr, RcR P gx (gx + 1) wA (recsOf (m.ps.take k) ++ numbered m.ps[k].first (m.ps[k].recs.take m.ps[k].recs.length)) vo wr → RcR P gx (gx + 1) wA (recsOf (m.ps.take (k + 1))) vo wr) := Lib.hid (fun vo wr h => by
      rw [htk, recsOf_snoc]
      rwa [List.take_length] at h)
    have hlk := recsOf_len 28147497 (m.ps.take k) (fun p hp => HN.out.1 p (List.mem_of_mem_take hp))
    rw [List.length_take, Nat.min_eq_left (by omega)] at hlk
    have R1 : Hid (RcR P gx (gx + 1) wA (recsOf (m.ps.take k) ++ numbered m.ps[k].first (m.ps[k].recs.take 0)) (.slice ro0 (recsOf (m.ps.take k)).length rc0) wr) := Lib.hid (by
      have h := HR.out
      simpa [numbered] using h)
    have HRR := Lib.hid (hrr.mono (Q := fun j => P j ∧ j < gx) (fun j _ c => c))
    have hbg : b < gx := hbP.2
    have HC : Hid (∀ W, Kp (fun j => gx + 1 ≤ j) wr W → W.cell? ⟨b, off + k * 3 + 1, none⟩ = some (.int .i64 (m.ps[k].first : Int)) ∧ W.cell? ⟨b, off + k * 3 + 2, none⟩ = some (.slice ro m.ps[k].recs.length rc)) := Lib.hid (fun W kw => ⟨kw.cell c1 (by show ¬ (gx + 1 ≤ b); omega), kw.cell c2 (by show ¬ (gx + 1 ≤ b); omega)⟩)
    have hx1 := kr0.heap hx id
    obtain ⟨-, ⟨-, -, y6, -⟩, -⟩ := cells_8 hx1
    clear htk hrr kr0 c0 c1 R HR
    generalize hq : m.ps[k] = p at *
    obtain ⟨wo, rfl⟩ : ∃ wo : World, wo = wr := ⟨_, rfl⟩
    generalize hbr : recsOf (m.ps.take k) = br at *
    have hki : (k : Int) < (m.ps.length : Int) := by omega
    clear hq hbr
    go_wp2_with fail
    clear y6 c2
    go_loopw [3, 20] (fun vo vj wr => ∃ j : Nat, vj = .int .i64 (j : Int) ∧ j ≤ p.recs.length ∧ RcR P gx (gx + 1) wA (br ++ numbered p.first (p.recs.take j)) vo wr ∧ Kp (fun j => gx + 1 ≤ j) wo wr) (fun _ vj _ => p.recs.length - (intOf vj).toNat)
    case atStart => exact ⟨0, rfl, Nat.zero_le _, R1.out, Kp.refl _ _⟩
    case round =>
      clear R1
      obtain ⟨j, rfl, hj, R, ko⟩ := hrel
      by_cases hjl : j < p.recs.length
      case neg =>
        obtain rfl : j = p.recs.length := by omega
        have F := Lib.hid (HTK.out _ _ R)
        clear R
        go_wp2_with fail
        go_roundw
        case rel => exact ⟨k + 1, rfl, by omega, F.out⟩
        case measure => simp [intOf]; omega
      obtain ⟨ro2, rc2, rh2, rfl, hown, hrec, kr⟩ := R.ex
      have hrr := HRR.out.kp ko (fun j a c e => by have h1 := c.2; have h2 : gx + 1 ≤ j := e; omega)
      obtain ⟨b2, off2, bo, bm, bc, hro, -, hbP2, e0, hdat⟩ := hrr.get j hjl
      subst hro
      have hx2 := ko.heap hx1 (by show ¬ (gx + 1 ≤ gx); omega)
      have HD := Lib.hid hdat
      have hl9 : (br ++ numbered p.first (p.recs.take j)).length = br.length + j := by rw [List.length_append, numbered_len, List.length_take, Nat.min_eq_left (by omega)]
      have hnx : (br ++ numbered p.first (p.recs.take j)) ++ [(p.first + j, p.recs[j])] = br ++ numbered p.first (p.recs.take (j + 1)) := by rw [take_one9 hjl, numbered_snoc, List.length_take, Nat.min_eq_left (by omega), List.append_assoc]
      have HNX := Lib.hid hnx
      have hrl : (rh2).length = (br ++ numbered p.first (p.recs.take j)).length := hrec.len
      generalize p.recs[j] = d at *
      generalize br ++ numbered p.first (p.recs.take j) = cur at *
      have HL9 := Lib.hid hl9
      have hnmax : cur.length + 1 ≤ 2814749700001 := by omega
      have HOWN := Lib.hid hown
      have HREC := Lib.hid hrec
      have HKR := Lib.hid kr
      have HKO := Lib.hid ko
      have hw : IntKind.i64.wrap ((p.first : Int) + (j : Int)) = ((p.first + j : Nat) : Int) := by rw [IntWalk.i64_in _ (by omega)]; omega
      have kd : ∀ o : Obj, Kp Noone wr (wr.alloc o).drew := fun o => ((Kp.refl _ _).alloc o).drew
      have HKD := Lib.hid kd
      have hjr : (j : Int) < (p.recs.length : Int) := by omega
      have HR4 : Hid (∀ W : World, Row (W.alloc (.cells #[.int .i64 ((p.first + j : Nat) : Int), .slice bo bm bc] 118)) (some ⟨W.heap.size, 0, none⟩) [.int .i64 ((p.first + j : Nat) : Int), .slice bo bm bc]) := Lib.hid (by
        intro W
        refine Row.ofHeap (e := 118) (fr := (0, 0)) ?_
        rw [heap_alloc_new])
      have HONE : Hid (∀ u ∈ [Value.int .i64 ((p.first + j : Nat) : Int), Value.slice bo bm bc], u.oneCell' = true) := Lib.hid (by intro u hu; simp at hu; rcases hu with rfl | rfl <;> rfl)
      have q0 : Kp Noone wr wr.drew := (Kp.refl _ _).drew
      obtain ⟨-, ⟨-, -, x6, -⟩, -⟩ := cells_8 (q0.heap hx2 id)
      obtain ⟨d1, d2⟩ := HC.out wr.drew (ko.drew)
      have d3 := q0.cell e0 id
      clear hl9 hnx hown hrec kr ko kd hdat hrr R
      go_wp2_with fail
      go_region_law (refine step_append_gen rfl (.tmp 23) (.tmp 42) 61 rfl 118 i0 (.agg #[.int .i64 0, .slice none 0 0]) 2 32 Tryz.underlying61 hi hz0 hz1 hz2 rfl ro2 cur.length rc2 rfl (some ⟨wr.heap.size, 0, none⟩) 1 1 rfl (fun j => gx + 1 ≤ j) (recsV rh2) (HOWN.out.keep (HKD.out _)) [.int .i64 ((p.first + j : Nat) : Int), .slice bo bm bc] rfl ((HR4.out _).keep ((Kp.refl _ _).drew)) HONE.out (by omega) (by unfold maxLen; omega) ?_; intro zo zc w4 ho4 k4)
      all_goals (
        have R5 : Hid (RcR P gx (gx + 1) wA (br ++ numbered p.first (p.recs.take (j + 1))) (.slice zo (cur.length + 1) zc) w4) := Lib.hid (by
          rw [← HNX.out]
          refine ⟨zo, zc, rh2 ++ [(p.first + j, bo, bm, bc)], by rw [List.length_append]; rfl, ?_, ?_, ?_⟩
          · rw [← recsV_snoc, List.length_append]
            exact ho4.mono (fun j _ c => c.elim id (fun c => by have h1 := Nat.le_trans (HKD.out _).size c.1; have h3 := HKR.out.size; omega))
          · exact ((HREC.out.snoc HD.out).keep (HKD.out _)).kp k4 (fun j _ c e => by have h1 := c.2; have h2 : gx + 1 ≤ j := e; omega)
          · exact (HKR.out.trans (HKD.out _)).fin k4 (fun j c => Or.inr (by have h2 : gx + 1 ≤ j := c; omega)))
        have K5 : Hid (Kp (fun j => gx + 1 ≤ j) wo w4) := Lib.hid ((HKO.out.trans (Kp.none (HKD.out _))).trans k4)
        clear ho4 k4
        go_simp
        rename_i hkk
        refine hkk _ _ ?_
        clear hkk
        go_wp2_with fail
        go_roundw
        case rel => exact ⟨j + 1, rfl, by omega, R5.out, K5.out⟩
        case measure => simp [intOf]; omega)

end Go.Proofs.YtigdhdclfdojgaaGreat

/-
  What the document finds: bounds; THE WALK of the document's log: Open.
-/
namespace Go.Proofs.YtigdhdclfdojgaaGreat
open Go.RowKit

structure FOkR (g : FndR) : Prop where
  ps : ∀ p ∈ g.ps, p.num ≤ 999999 ∧ p.first ≤ 1099511627776 ∧ p.recs.length ≤ 4194304 ∧ (pieceD p).length ≤ 4194304
  strays : ∀ x ∈ g.strays, x ≤ 999999
theorem fnd1_ok {g : FndR} (h : FOkR g) (k : ByteArray) (b : List UInt8) (hb : b.length ≤ 4194304) : FOkR (fnd1 g k b) := by
  have hn := numberN_le k
  have hh := headOf_le (splitL b) (numberN k)
  have h1 := split_len b
  have h2 := split_count b
  unfold fnd1
  split
  · exact h
  · split
    · refine ⟨h.ps, fun x hx => ?_⟩
      rcases List.mem_append.1 hx with hx | hx
      · exact h.strays x hx
      · rw [List.mem_singleton.1 hx]; exact hn
    · rename_i hs
      refine ⟨fun p hp => ?_, h.strays⟩
      rcases List.mem_append.1 hp with hp | hp
      · exact h.ps p hp
      · rw [List.mem_singleton.1 hp]
        have hz : (headOf (splitL b) (numberN k)).2 = true := by
          cases hx : (headOf (splitL b) (numberN k)).2 with
          | true => rfl
          | false => exact absurd (Or.inr (Or.inl hx)) hs
        obtain ⟨d, r, e⟩ : ∃ d r, splitL b = d :: r := by
          cases hx : splitL b with
          | nil => rw [hx] at hz; cases hz
          | cons d r => exact ⟨d, r, rfl⟩
        refine ⟨hn, hh, by simp only [List.length_tail]; omega, ?_⟩
        rw [pieceD_frames]
        rw [e] at hz h1 ⊢
        have hf := begins_form hz
        simp only [List.tail_cons]
        have e2 : numL (numberN k) ++ numL (headOf (d :: r) (numberN k)).1 = d := hf.symm
        rw [e2]
        omega
theorem fold_ok : ∀ (L : Dat) (g : FndR) (j : Nat), FOkR g → FBdR j g → (∀ x ∈ L, x.2.length ≤ 4194304) → FOkR (L.foldl (fun g x => fnd1 g x.1 x.2) g) ∧ FBdR (j + L.length) (L.foldl (fun g x => fnd1 g x.1 x.2) g)
  | [], _, _, h, hb, _ => ⟨h, hb⟩
  | x :: r, g, j, h, hb, hx => by
    have h1 := fold_ok r (fnd1 g x.1 x.2) (j + 1) (fnd1_ok h x.1 x.2 (hx x (List.mem_cons_self ..))) (fnd1_bd hb x.1 x.2 (hx x (List.mem_cons_self ..))) (fun y hy => hx y (List.mem_cons_of_mem _ hy))
    rw [List.length_cons, show j + (r.length + 1) = j + 1 + r.length by omega]
    exact h1
theorem foundR_ok {L : Img} (hL : L.length ≤ 64) (hD : ∀ x ∈ L, x.2.data.length ≤ 4194304) : FOkR (foundR (datL L)) ∧ FBdR 64 (foundR (datL L)) := by
  have h := fold_ok (datL L) fnd0 0 ⟨fun p hp => (by cases hp), fun p hp => (by cases hp)⟩ ⟨by simp [fnd0], by simp [fnd0], by simp [fnd0], by simp [fnd0]⟩ (fun x hx => by
    obtain ⟨y, hy, rfl⟩ := List.mem_map.1 hx
    exact hD y hy)
  have hl : (datL L).length = L.length := by simp [datL]
  have h2 := h.2
  rw [hl] at h2
  exact ⟨h.1, ⟨by have := h2.ps; exact Nat.le_trans this (by omega), by have := h2.strays; exact Nat.le_trans this (by omega), h2.next, h2.good⟩⟩
theorem restV_get {l : List Nat} {i : Nat} (h : i < l.length) (h2 : i < (restV l).length) : (restV l)[i] = .int .i64 (l[i] : Int) := by simp [restV]
theorem take_back {l : List Nat} {i : Nat} (h : i < l.length) : (l.take (i + 1)).reverse = l[i] :: (l.take i).reverse := by
  rw [take_one9 h, List.reverse_append]
  rfl
theorem strayR_cons (n : Nat) (r : List Nat) (l : RLog) : strayR (n :: r) l = if (stepR l (oDrop (walName n))).2 ≠ 0 then stepR l (oDrop (walName n)) else strayR r (stepR l (oDrop (walName n))).1 := rfl
theorem op_cut {k : ByteArray} {n : Nat} (hk : k.size ≤ maxLen) (hn : n ≤ 4194304) : OpOk (oCut k (n : Int)) 1048576 := ⟨by simp [oCut], hk, by simp [oCut], ⟨by simp only [oCut]; omega, by simp only [oCut]; omega⟩, by simp [oCut], by simp [oCut]⟩
/-- What Open answers. -/
structure OpnTo (P : Nat → Prop) (w : World) (R : OpenD) (e : Ending) (w' : World) : Prop where
  ex : ∃ ao cap po pc ro rc, e = .returned (.tuple #[rlV ao cap po pc R.1, .slice ro R.2.1.length rc, .int .i64 (R.2.2 : Int)]) ∧ RA P w' ao R.1.d.L.length cap R.1.d.L ∧ RPs P w' po R.1.ps.length pc R.1.ps ∧ RSP P w' ro rc R.2.1 ∧ Kp Noone w w'
theorem RSP.nil (P : Nat → Prop) (w : World) : RSP P w none 0 [] := ⟨[], Own.nil _ _ _ _ _, RecsAt.nil _ _⟩

end Go.Proofs.YtigdhdclfdojgaaGreat

