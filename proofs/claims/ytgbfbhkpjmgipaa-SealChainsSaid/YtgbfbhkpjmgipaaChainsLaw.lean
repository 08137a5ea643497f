/-
  SealChains: for every input the law returns true, and nothing that was there has changed.
-/
import Derived.Test.YtgbfbhkpjmgipaaTell
import Derived.Test.YtgbfbhkpjmgipaaRead
namespace Go.Proofs.Ytgbfbhkpjmgipaa
open Go.RowKit Go.WideShapes

theorem BSS.two {w : World} {g : Nat} {bo bo' : Option Addr} {m c m' c' : Nat} {l l' : List UInt8} (hc : w.cell? ⟨g, 0, none⟩ = some (.slice bo m c)) (hc' : w.cell? ⟨g, 1, none⟩ = some (.slice bo' m' c')) (hb : BS w bo m c l) (hb' : BS w bo' m' c' l') :
    BSS w (some ⟨g, 0, none⟩) 2 2 [l, l'] := by
  refine ⟨rfl, Nat.le_refl _, by simp [maxLen], [(bo, m, c), (bo', m', c')], rfl, Or.inr ⟨g, 0, rfl, fun i hi => ?_⟩, fun i h1 h2 => ?_⟩
  · simp at hi
    have h : i = 0 ∨ i = 1 := by omega
    rcases h with rfl | rfl
    · simpa using hc
    · simpa using hc'
  · simp at h1
    have h : i = 0 ∨ i = 1 := by omega
    rcases h with rfl | rfl
    · simpa using hb
    · simpa using hb'

theorem BS.drop {w : World} {ao : Option Addr} {n cap : Nat} {l : List UInt8} (h : BS w ao n cap l) {m : Nat} (hm : m ≤ n) : BS w (if cap = m then ao else ao.map (·.add m)) (n - m) (cap - m) (l.drop m) := by
  have h1 := h.le
  have h2 := h.max
  refine ⟨by rw [List.length_drop, h.len], by omega, by omega, ?_⟩
  exact h.row.sub m cap (by rw [length_bv, h.len]; exact h1) _ (by unfold bv; rw [List.map_drop]; exact List.prefix_rfl)

theorem copied {w w' : World} {n : Nat} {l : List UInt8} (h : w' = w.alloc (.cells (bv l).toArray 5)) (hl : l.length = n) (hn : n ≤ maxLen) : BS w' (some ⟨w.heap.size, 0, none⟩) n n l ∧ Kp Noone w w' := by
  subst h
  exact ⟨BS.ofHeap (fr := (0, 0)) (e := 5) (heap_alloc_new w _) hl hn, (Kp.refl _ _).alloc _⟩

theorem cell_aside {w : World} {a : Addr} {v : Value} (h : w.cell? a = some v) : ∀ o : Obj, (w.alloc o).cell? a = some v := fun o => ((Kp.refl Noone w).alloc o).cell h id

theorem sums_eq (l : List UInt8) {k : Nat} (hk : k < l.length) (c : UInt8) : (((sumN (l.set k c) : Nat) : Int) == ((sumN l : Nat) : Int)) = (l[k] == c) := by
  rw [Bool.eq_iff_iff, beq_iff_eq, beq_iff_eq]
  constructor
  · intro h; exact (sum_set hk c).1 (Int.ofNat.inj h)
  · intro h; rw [(sum_set hk c).2 h]

set_option maxHeartbeats 2000000 in
theorem sealChains_A0 (ao : Option Addr) (n cap : Nat) (l : List UInt8) (at' : Int) (c : UInt8) (W : World) (hb : BS W ao n cap l) (hn : n ≤ 140737488351232)
    (j : Nat) (hj : j ≤ n) (hcj : j = cap) (b3 : -9223372036854775808 ≤ at') (b4 : at' ≤ 9223372036854775807) :
    Calls Try.prog 4 #[.slice ao n cap, .int .i64 (j : Int), .int .i64 at', .int .u8 (c.toNat : Int)] W fun e w' => e = .returned (.bool true) ∧ Kp Noone W w' := by
  have HL := Lib.hid hb.len
  have hle := hb.le
  have tok1 : True := trivial
  have tok2 : True := trivial
  have tok3 : True := trivial
  have tok4 : True := trivial
  have tok5 : True := trivial
  have tok6 : True := trivial
  have tok7 : True := trivial
  have tok8 : True := trivial
  have hat : (∃ k : Nat, k < n ∧ at' = k) ∨ at' < 0 ∨ (n : Int) ≤ at' := by
    by_cases h : 0 ≤ at'
    · by_cases h2 : at' < n
      · exact Or.inl ⟨at'.toNat, by omega, by omega⟩
      · exact Or.inr (Or.inr (by omega))
    · exact Or.inr (Or.inl (by omega))
  subst hcj
  obtain rfl : j = n := by omega
  go_enter Try.func4, Try.ntmps4
  go_wp2_with fail
  refine (head2_any _).mono ?_
  rintro e w1 ⟨rfl, k01⟩
  have hb1 := hb.keep k01
  have hbt := hb1
  have hbd : BS w1 ao 0 0 [] := ⟨rfl, Nat.le_refl _, by simp [maxLen], Row.nil _ _⟩
  have c1 : (j : Int) ≤ (j : Int) := by omega
  have c2 : (j : Int) ≤ (j : Int) := by omega
  go_wp2_with fail
  go_region_law (first
    | (go_simp; go_at_call 15; have _t := tok1; refine (copy_exact _ _ _ _ _ (hbt.keep ((Kp.refl _ _).drew)) (by omega)).mono ?_; rintro e w2 ⟨rfl, hw2⟩; clear tok1; obtain ⟨hB2, k12⟩ := copied hw2 (hbt.len) (by unfold maxLen; omega); clear hw2)
    | (go_simp; go_at_call 15; have _t := tok2; refine (copy_exact _ _ _ _ _ (hbd.keep (((Kp.refl _ _).drew).trans k12)) (by omega)).mono ?_; rintro e w3 ⟨rfl, hw3⟩; clear tok2; obtain ⟨hB3, k23⟩ := copied hw3 (hbd.len) (by unfold maxLen; omega); clear hw3)
    | (go_simp; go_at_call 16; have _t := tok3; refine (sum_any _ _ _ [l, []] _ (BSS.two (bo := some ⟨_, 0, none⟩) (bo' := some ⟨_, 0, none⟩) (by go_simp) (by go_simp) ((hB2.keep k23).keep ((Kp.refl _ _).alloc _)) (hB3.keep ((Kp.refl _ _).alloc _)))).mono ?_; rintro e w' ⟨rfl, rfl⟩; clear tok3; rw [show [l, []].flatten = l from by simp])
    | (go_simp; go_at_call 15; have _t := tok4; refine (copy_exact _ _ _ l _ (hb1.keep (((((Kp.refl _ _).drew).trans k12).trans k23).alloc _)) (by omega)).mono ?_; rintro e w4 ⟨rfl, hw4⟩; clear tok4; obtain ⟨hB4, k34⟩ := copied hw4 hb1.len (by unfold maxLen; omega); clear hw4)
    | (go_simp; go_at_call 16; have _t := tok5; refine (sum_any _ _ _ [l] _ (BSS.one (bo := some ⟨_, 0, none⟩) (by go_simp) (hB4.keep ((Kp.refl _ _).alloc _)))).mono ?_; rintro e w' ⟨rfl, rfl⟩; clear tok5; rw [show [l].flatten = l from by simp]))
  have k04 : Kp Noone W w4 := (((((k01.drew).trans k12).trans k23).alloc _).trans k34)
  clear hB2 hB3 hB4 k12 k23 k34 hbt hbd c1 c2 hb1 k01
  generalize hw5 : w4.alloc _ = w5
  have k05 : Kp Noone W w5 := by rw [← hw5]; exact k04.alloc _
  clear hw5 k04
  rcases hat with ⟨k, hk, rfl⟩ | ha | ha
  · obtain ⟨b, off, hkl, rfl, _, hckW⟩ := hb.at hk
    have hck5 := k05.cell hckW id
    have HS := Lib.hid (sums_eq l hkl c)
    have HU := Lib.hid (u8_beq l[k] c)
    have hb5 := hb.keep k05
    generalize l[k] = x at *
    go_wp2_with fail
    refine (copy_exact _ _ _ l _ hb5 (by omega)).mono ?_
    rintro e w6 ⟨rfl, hw6⟩
    have k56 : Kp Noone w5 w6 := by rw [hw6]; exact (Kp.refl _ _).alloc _
    have hcopy : Own (Ex Noone w5 w6) w6 5 1 (some ⟨w5.heap.size, 0, none⟩) j j (bv l) :=
      Own.fresh (Or.inr ⟨Nat.le_refl _, by rw [hw6]; simp⟩) (by rw [hw6]; exact heap_alloc_new w5 _) (by rw [length_bv, HL.out, Nat.mul_one]) (by unfold maxLen; omega)
    clear hw6
    obtain ⟨g, go', _, hgo, hF, hg, hcc, hcf, hset⟩ := hcopy.byte hk
    simp only [Option.some.injEq, Addr.mk.injEq] at hgo
    obtain ⟨rfl, rfl, _⟩ := hgo
    have hset' := hset c
    simp only [Nat.zero_add] at hcc hcf hset'
    have k6 : Kp Noone w5 (w6.setCell ⟨w5.heap.size, k, none⟩ (U8 c)) := k56.setCell (fun h => absurd h (by simp)) _
    have hbs' := hset'.bs
    clear hset hcopy hF
    go_wp2_with fail
    change Code.wp _ _ _ _ (w6.setCell ⟨w5.heap.size, k, none⟩ (U8 c))
    generalize w6.setCell ⟨w5.heap.size, k, none⟩ (U8 c) = w7 at *
    have k07 := k05.trans k6
    have hb7 := hb.keep k07
    have c1 : (k : Int) < (j : Int) := by omega
    have hck7 := k6.cell hck5 id
    have hckd : w7.drew.cell? ⟨b, off + k, none⟩ = some (.int .u8 (x.toNat : Int)) := hck7
    have hca := cell_aside hck7
    clear hcc hcf hck5 hckW hg k56 k6 hb5
    go_region_law (first
      | (go_simp; go_at_call 16; have _t := tok6; refine (sum_any _ _ _ [l.set k c] _ (BSS.one (bo := some ⟨_, 0, none⟩) (by go_simp) (hbs'.keep (((Kp.refl _ _).alloc _).drew)))).mono ?_; rintro e w' ⟨rfl, rfl⟩; clear tok6; rw [show [l.set k c].flatten = l.set k c from by simp])
      | (go_simp; go_at_call 15; have _t := tok7; refine (copy_exact _ _ _ l _ (hb7.keep (((Kp.refl _ _).alloc _).drew)) (by omega)).mono ?_; rintro e w8 ⟨rfl, hw8⟩; clear tok7; obtain ⟨hB8, k78⟩ := copied hw8 HL.out (by unfold maxLen; omega); clear hw8; have hc8 := k78.cell (hca _) id; have hca8 := cell_aside hc8)
      | (go_simp; go_at_call 16; have _t := tok8; refine (sum_any _ _ _ [l] _ (BSS.one (bo := some ⟨_, 0, none⟩) (by go_simp) (hB8.keep ((Kp.refl _ _).alloc _)))).mono ?_; rintro e w' ⟨rfl, rfl⟩; clear tok8; rw [show [l].flatten = l from by simp]))
    all_goals
      go_wp2
      go_ret
      refine ⟨ret_eq ?_, (((k07.alloc _).drew).trans k78).alloc _⟩
      show Value.bool ((((sumN (l.set k c) : Nat) : Int) == ((sumN l : Nat) : Int)) == ((x.toNat : Int) == (c.toNat : Int))) = _
      rw [HS.out, HU.out]
      simp
  · go_wp2
    go_ret
    exact ⟨rfl, k05⟩
  · go_wp2
    go_ret
    exact ⟨rfl, k05⟩

set_option maxHeartbeats 2000000 in
theorem sealChains_A1 (ao : Option Addr) (n cap : Nat) (l : List UInt8) (at' : Int) (c : UInt8) (W : World) (hb : BS W ao n cap l) (hn : n ≤ 140737488351232)
    (j : Nat) (hj : j ≤ n) (hcj : ¬ cap = j) (b3 : -9223372036854775808 ≤ at') (b4 : at' ≤ 9223372036854775807) :
    Calls Try.prog 4 #[.slice ao n cap, .int .i64 (j : Int), .int .i64 at', .int .u8 (c.toNat : Int)] W fun e w' => e = .returned (.bool true) ∧ Kp Noone W w' := by
  have HL := Lib.hid hb.len
  have hle := hb.le
  have tok1 : True := trivial
  have tok2 : True := trivial
  have tok3 : True := trivial
  have tok4 : True := trivial
  have tok5 : True := trivial
  have tok6 : True := trivial
  have tok7 : True := trivial
  have tok8 : True := trivial
  have hat : (∃ k : Nat, k < n ∧ at' = k) ∨ at' < 0 ∨ (n : Int) ≤ at' := by
    by_cases h : 0 ≤ at'
    · by_cases h2 : at' < n
      · exact Or.inl ⟨at'.toNat, by omega, by omega⟩
      · exact Or.inr (Or.inr (by omega))
    · exact Or.inr (Or.inl (by omega))
  go_enter Try.func4, Try.ntmps4
  go_wp2_with fail
  refine (head2_any _).mono ?_
  rintro e w1 ⟨rfl, k01⟩
  have hb1 := hb.keep k01
  have hbt := hb1.take hj
  have hbd := hb1.drop hj
  rw [if_neg hcj] at hbd
  have c1 : (j : Int) ≤ (n : Int) := by omega
  have c2 : (j : Int) ≤ (cap : Int) := by omega
  go_wp2_with fail
  go_region_law (first
    | (go_simp; go_at_call 15; have _t := tok1; refine (copy_exact _ _ _ _ _ (hbt.keep ((Kp.refl _ _).drew)) (by omega)).mono ?_; rintro e w2 ⟨rfl, hw2⟩; clear tok1; obtain ⟨hB2, k12⟩ := copied hw2 (hbt.len) (by unfold maxLen; omega); clear hw2)
    | (go_simp; go_at_call 15; have _t := tok2; refine (copy_exact _ _ _ _ _ (hbd.keep (((Kp.refl _ _).drew).trans k12)) (by omega)).mono ?_; rintro e w3 ⟨rfl, hw3⟩; clear tok2; obtain ⟨hB3, k23⟩ := copied hw3 (hbd.len) (by unfold maxLen; omega); clear hw3)
    | (go_simp; go_at_call 16; have _t := tok3; refine (sum_any _ _ _ [l.take j, l.drop j] _ (BSS.two (bo := some ⟨_, 0, none⟩) (bo' := some ⟨_, 0, none⟩) (by go_simp) (by go_simp) ((hB2.keep k23).keep ((Kp.refl _ _).alloc _)) (hB3.keep ((Kp.refl _ _).alloc _)))).mono ?_; rintro e w' ⟨rfl, rfl⟩; clear tok3; rw [show [l.take j, l.drop j].flatten = l from by simp])
    | (go_simp; go_at_call 15; have _t := tok4; refine (copy_exact _ _ _ l _ (hb1.keep (((((Kp.refl _ _).drew).trans k12).trans k23).alloc _)) (by omega)).mono ?_; rintro e w4 ⟨rfl, hw4⟩; clear tok4; obtain ⟨hB4, k34⟩ := copied hw4 hb1.len (by unfold maxLen; omega); clear hw4)
    | (go_simp; go_at_call 16; have _t := tok5; refine (sum_any _ _ _ [l] _ (BSS.one (bo := some ⟨_, 0, none⟩) (by go_simp) (hB4.keep ((Kp.refl _ _).alloc _)))).mono ?_; rintro e w' ⟨rfl, rfl⟩; clear tok5; rw [show [l].flatten = l from by simp]))
  have k04 : Kp Noone W w4 := (((((k01.drew).trans k12).trans k23).alloc _).trans k34)
  clear hB2 hB3 hB4 k12 k23 k34 hbt hbd c1 c2 hb1 k01
  generalize hw5 : w4.alloc _ = w5
  have k05 : Kp Noone W w5 := by rw [← hw5]; exact k04.alloc _
  clear hw5 k04
  rcases hat with ⟨k, hk, rfl⟩ | ha | ha
  · obtain ⟨b, off, hkl, rfl, _, hckW⟩ := hb.at hk
    have hck5 := k05.cell hckW id
    have HS := Lib.hid (sums_eq l hkl c)
    have HU := Lib.hid (u8_beq l[k] c)
    have hb5 := hb.keep k05
    generalize l[k] = x at *
    go_wp2_with fail
    refine (copy_exact _ _ _ l _ hb5 (by omega)).mono ?_
    rintro e w6 ⟨rfl, hw6⟩
    have k56 : Kp Noone w5 w6 := by rw [hw6]; exact (Kp.refl _ _).alloc _
    have hcopy : Own (Ex Noone w5 w6) w6 5 1 (some ⟨w5.heap.size, 0, none⟩) n n (bv l) :=
      Own.fresh (Or.inr ⟨Nat.le_refl _, by rw [hw6]; simp⟩) (by rw [hw6]; exact heap_alloc_new w5 _) (by rw [length_bv, HL.out, Nat.mul_one]) (by unfold maxLen; omega)
    clear hw6
    obtain ⟨g, go', _, hgo, hF, hg, hcc, hcf, hset⟩ := hcopy.byte hk
    simp only [Option.some.injEq, Addr.mk.injEq] at hgo
    obtain ⟨rfl, rfl, _⟩ := hgo
    have hset' := hset c
    simp only [Nat.zero_add] at hcc hcf hset'
    have k6 : Kp Noone w5 (w6.setCell ⟨w5.heap.size, k, none⟩ (U8 c)) := k56.setCell (fun h => absurd h (by simp)) _
    have hbs' := hset'.bs
    clear hset hcopy hF
    go_wp2_with fail
    change Code.wp _ _ _ _ (w6.setCell ⟨w5.heap.size, k, none⟩ (U8 c))
    generalize w6.setCell ⟨w5.heap.size, k, none⟩ (U8 c) = w7 at *
    have k07 := k05.trans k6
    have hb7 := hb.keep k07
    have c1 : (k : Int) < (n : Int) := by omega
    have hck7 := k6.cell hck5 id
    have hckd : w7.drew.cell? ⟨b, off + k, none⟩ = some (.int .u8 (x.toNat : Int)) := hck7
    have hca := cell_aside hck7
    clear hcc hcf hck5 hckW hg k56 k6 hb5
    go_region_law (first
      | (go_simp; go_at_call 16; have _t := tok6; refine (sum_any _ _ _ [l.set k c] _ (BSS.one (bo := some ⟨_, 0, none⟩) (by go_simp) (hbs'.keep (((Kp.refl _ _).alloc _).drew)))).mono ?_; rintro e w' ⟨rfl, rfl⟩; clear tok6; rw [show [l.set k c].flatten = l.set k c from by simp])
      | (go_simp; go_at_call 15; have _t := tok7; refine (copy_exact _ _ _ l _ (hb7.keep (((Kp.refl _ _).alloc _).drew)) (by omega)).mono ?_; rintro e w8 ⟨rfl, hw8⟩; clear tok7; obtain ⟨hB8, k78⟩ := copied hw8 HL.out (by unfold maxLen; omega); clear hw8; have hc8 := k78.cell (hca _) id; have hca8 := cell_aside hc8)
      | (go_simp; go_at_call 16; have _t := tok8; refine (sum_any _ _ _ [l] _ (BSS.one (bo := some ⟨_, 0, none⟩) (by go_simp) (hB8.keep ((Kp.refl _ _).alloc _)))).mono ?_; rintro e w' ⟨rfl, rfl⟩; clear tok8; rw [show [l].flatten = l from by simp]))
    all_goals
      go_wp2
      go_ret
      refine ⟨ret_eq ?_, (((k07.alloc _).drew).trans k78).alloc _⟩
      show Value.bool ((((sumN (l.set k c) : Nat) : Int) == ((sumN l : Nat) : Int)) == ((x.toNat : Int) == (c.toNat : Int))) = _
      rw [HS.out, HU.out]
      simp
  · go_wp2
    go_ret
    exact ⟨rfl, k05⟩
  · go_wp2
    go_ret
    exact ⟨rfl, k05⟩

set_option maxHeartbeats 2000000 in
theorem sealChains_B0 (ao : Option Addr) (n cap : Nat) (l : List UInt8) (cut at' : Int) (c : UInt8) (W : World) (hb : BS W ao n cap l) (hn : n ≤ 140737488351232)
    (j : Nat) (hj : j ≤ n) (h : cut < 0) (_b1 : -9223372036854775808 ≤ cut) (_b2 : cut ≤ 9223372036854775807) (hj2 : j = n / 2) (hcj : j = cap) (b3 : -9223372036854775808 ≤ at') (b4 : at' ≤ 9223372036854775807) :
    Calls Try.prog 4 #[.slice ao n cap, .int .i64 cut, .int .i64 at', .int .u8 (c.toNat : Int)] W fun e w' => e = .returned (.bool true) ∧ Kp Noone W w' := by
  have HJ := Lib.hid hj2
  clear hj2
  have HL := Lib.hid hb.len
  have hle := hb.le
  have tok1 : True := trivial
  have tok2 : True := trivial
  have tok3 : True := trivial
  have tok4 : True := trivial
  have tok5 : True := trivial
  have tok6 : True := trivial
  have tok7 : True := trivial
  have tok8 : True := trivial
  have hat : (∃ k : Nat, k < n ∧ at' = k) ∨ at' < 0 ∨ (n : Int) ≤ at' := by
    by_cases h : 0 ≤ at'
    · by_cases h2 : at' < n
      · exact Or.inl ⟨at'.toNat, by omega, by omega⟩
      · exact Or.inr (Or.inr (by omega))
    · exact Or.inr (Or.inl (by omega))
  subst hcj
  obtain rfl : j = n := by omega
  go_enter Try.func4, Try.ntmps4
  go_wp2_with fail
  refine (head2_any _).mono ?_
  rintro e w1 ⟨rfl, k01⟩
  have hb1 := hb.keep k01
  have hbt := hb1
  have hbd : BS w1 ao 0 0 [] := ⟨rfl, Nat.le_refl _, by simp [maxLen], Row.nil _ _⟩
  have c1 : (j : Int) ≤ (j : Int) := by omega
  have c2 : (j : Int) ≤ (j : Int) := by omega
  go_wp2_with fail
  rw [show ((j : Int) / 2) = (j : Int) from by have := HJ.out; omega]
  go_region_law (first
    | (go_simp; go_at_call 15; have _t := tok1; refine (copy_exact _ _ _ _ _ (hbt.keep ((Kp.refl _ _).drew)) (by omega)).mono ?_; rintro e w2 ⟨rfl, hw2⟩; clear tok1; obtain ⟨hB2, k12⟩ := copied hw2 (hbt.len) (by unfold maxLen; omega); clear hw2)
    | (go_simp; go_at_call 15; have _t := tok2; refine (copy_exact _ _ _ _ _ (hbd.keep (((Kp.refl _ _).drew).trans k12)) (by omega)).mono ?_; rintro e w3 ⟨rfl, hw3⟩; clear tok2; obtain ⟨hB3, k23⟩ := copied hw3 (hbd.len) (by unfold maxLen; omega); clear hw3)
    | (go_simp; go_at_call 16; have _t := tok3; refine (sum_any _ _ _ [l, []] _ (BSS.two (bo := some ⟨_, 0, none⟩) (bo' := some ⟨_, 0, none⟩) (by go_simp) (by go_simp) ((hB2.keep k23).keep ((Kp.refl _ _).alloc _)) (hB3.keep ((Kp.refl _ _).alloc _)))).mono ?_; rintro e w' ⟨rfl, rfl⟩; clear tok3; rw [show [l, []].flatten = l from by simp])
    | (go_simp; go_at_call 15; have _t := tok4; refine (copy_exact _ _ _ l _ (hb1.keep (((((Kp.refl _ _).drew).trans k12).trans k23).alloc _)) (by omega)).mono ?_; rintro e w4 ⟨rfl, hw4⟩; clear tok4; obtain ⟨hB4, k34⟩ := copied hw4 hb1.len (by unfold maxLen; omega); clear hw4)
    | (go_simp; go_at_call 16; have _t := tok5; refine (sum_any _ _ _ [l] _ (BSS.one (bo := some ⟨_, 0, none⟩) (by go_simp) (hB4.keep ((Kp.refl _ _).alloc _)))).mono ?_; rintro e w' ⟨rfl, rfl⟩; clear tok5; rw [show [l].flatten = l from by simp]))
  have k04 : Kp Noone W w4 := (((((k01.drew).trans k12).trans k23).alloc _).trans k34)
  clear hB2 hB3 hB4 k12 k23 k34 hbt hbd c1 c2 hb1 k01
  generalize hw5 : w4.alloc _ = w5
  have k05 : Kp Noone W w5 := by rw [← hw5]; exact k04.alloc _
  clear hw5 k04
  rcases hat with ⟨k, hk, rfl⟩ | ha | ha
  · obtain ⟨b, off, hkl, rfl, _, hckW⟩ := hb.at hk
    have hck5 := k05.cell hckW id
    have HS := Lib.hid (sums_eq l hkl c)
    have HU := Lib.hid (u8_beq l[k] c)
    have hb5 := hb.keep k05
    generalize l[k] = x at *
    go_wp2_with fail
    refine (copy_exact _ _ _ l _ hb5 (by omega)).mono ?_
    rintro e w6 ⟨rfl, hw6⟩
    have k56 : Kp Noone w5 w6 := by rw [hw6]; exact (Kp.refl _ _).alloc _
    have hcopy : Own (Ex Noone w5 w6) w6 5 1 (some ⟨w5.heap.size, 0, none⟩) j j (bv l) :=
      Own.fresh (Or.inr ⟨Nat.le_refl _, by rw [hw6]; simp⟩) (by rw [hw6]; exact heap_alloc_new w5 _) (by rw [length_bv, HL.out, Nat.mul_one]) (by unfold maxLen; omega)
    clear hw6
    obtain ⟨g, go', _, hgo, hF, hg, hcc, hcf, hset⟩ := hcopy.byte hk
    simp only [Option.some.injEq, Addr.mk.injEq] at hgo
    obtain ⟨rfl, rfl, _⟩ := hgo
    have hset' := hset c
    simp only [Nat.zero_add] at hcc hcf hset'
    have k6 : Kp Noone w5 (w6.setCell ⟨w5.heap.size, k, none⟩ (U8 c)) := k56.setCell (fun h => absurd h (by simp)) _
    have hbs' := hset'.bs
    clear hset hcopy hF
    go_wp2_with fail
    change Code.wp _ _ _ _ (w6.setCell ⟨w5.heap.size, k, none⟩ (U8 c))
    generalize w6.setCell ⟨w5.heap.size, k, none⟩ (U8 c) = w7 at *
    have k07 := k05.trans k6
    have hb7 := hb.keep k07
    have c1 : (k : Int) < (j : Int) := by omega
    have hck7 := k6.cell hck5 id
    have hckd : w7.drew.cell? ⟨b, off + k, none⟩ = some (.int .u8 (x.toNat : Int)) := hck7
    have hca := cell_aside hck7
    clear hcc hcf hck5 hckW hg k56 k6 hb5
    go_region_law (first
      | (go_simp; go_at_call 16; have _t := tok6; refine (sum_any _ _ _ [l.set k c] _ (BSS.one (bo := some ⟨_, 0, none⟩) (by go_simp) (hbs'.keep (((Kp.refl _ _).alloc _).drew)))).mono ?_; rintro e w' ⟨rfl, rfl⟩; clear tok6; rw [show [l.set k c].flatten = l.set k c from by simp])
      | (go_simp; go_at_call 15; have _t := tok7; refine (copy_exact _ _ _ l _ (hb7.keep (((Kp.refl _ _).alloc _).drew)) (by omega)).mono ?_; rintro e w8 ⟨rfl, hw8⟩; clear tok7; obtain ⟨hB8, k78⟩ := copied hw8 HL.out (by unfold maxLen; omega); clear hw8; have hc8 := k78.cell (hca _) id; have hca8 := cell_aside hc8)
      | (go_simp; go_at_call 16; have _t := tok8; refine (sum_any _ _ _ [l] _ (BSS.one (bo := some ⟨_, 0, none⟩) (by go_simp) (hB8.keep ((Kp.refl _ _).alloc _)))).mono ?_; rintro e w' ⟨rfl, rfl⟩; clear tok8; rw [show [l].flatten = l from by simp]))
    all_goals
      go_wp2
      go_ret
      refine ⟨ret_eq ?_, (((k07.alloc _).drew).trans k78).alloc _⟩
      show Value.bool ((((sumN (l.set k c) : Nat) : Int) == ((sumN l : Nat) : Int)) == ((x.toNat : Int) == (c.toNat : Int))) = _
      rw [HS.out, HU.out]
      simp
  · go_wp2
    go_ret
    exact ⟨rfl, k05⟩
  · go_wp2
    go_ret
    exact ⟨rfl, k05⟩

set_option maxHeartbeats 2000000 in
theorem sealChains_B1 (ao : Option Addr) (n cap : Nat) (l : List UInt8) (cut at' : Int) (c : UInt8) (W : World) (hb : BS W ao n cap l) (hn : n ≤ 140737488351232)
    (j : Nat) (hj : j ≤ n) (h : cut < 0) (_b1 : -9223372036854775808 ≤ cut) (_b2 : cut ≤ 9223372036854775807) (hj2 : j = n / 2) (hcj : ¬ cap = j) (b3 : -9223372036854775808 ≤ at') (b4 : at' ≤ 9223372036854775807) :
    Calls Try.prog 4 #[.slice ao n cap, .int .i64 cut, .int .i64 at', .int .u8 (c.toNat : Int)] W fun e w' => e = .returned (.bool true) ∧ Kp Noone W w' := by
  have HJ := Lib.hid hj2
  clear hj2
  have HL := Lib.hid hb.len
  have hle := hb.le
  have tok1 : True := trivial
  have tok2 : True := trivial
  have tok3 : True := trivial
  have tok4 : True := trivial
  have tok5 : True := trivial
  have tok6 : True := trivial
  have tok7 : True := trivial
  have tok8 : True := trivial
  have hat : (∃ k : Nat, k < n ∧ at' = k) ∨ at' < 0 ∨ (n : Int) ≤ at' := by
    by_cases h : 0 ≤ at'
    · by_cases h2 : at' < n
      · exact Or.inl ⟨at'.toNat, by omega, by omega⟩
      · exact Or.inr (Or.inr (by omega))
    · exact Or.inr (Or.inl (by omega))
  go_enter Try.func4, Try.ntmps4
  go_wp2_with fail
  refine (head2_any _).mono ?_
  rintro e w1 ⟨rfl, k01⟩
  have hb1 := hb.keep k01
  have hbt := hb1.take hj
  have hbd := hb1.drop hj
  rw [if_neg hcj] at hbd
  have c1 : (j : Int) ≤ (n : Int) := by omega
  have c2 : (j : Int) ≤ (cap : Int) := by omega
  go_wp2_with fail
  rw [show ((n : Int) / 2) = (j : Int) from by have := HJ.out; omega]
  go_region_law (first
    | (go_simp; go_at_call 15; have _t := tok1; refine (copy_exact _ _ _ _ _ (hbt.keep ((Kp.refl _ _).drew)) (by omega)).mono ?_; rintro e w2 ⟨rfl, hw2⟩; clear tok1; obtain ⟨hB2, k12⟩ := copied hw2 (hbt.len) (by unfold maxLen; omega); clear hw2)
    | (go_simp; go_at_call 15; have _t := tok2; refine (copy_exact _ _ _ _ _ (hbd.keep (((Kp.refl _ _).drew).trans k12)) (by omega)).mono ?_; rintro e w3 ⟨rfl, hw3⟩; clear tok2; obtain ⟨hB3, k23⟩ := copied hw3 (hbd.len) (by unfold maxLen; omega); clear hw3)
    | (go_simp; go_at_call 16; have _t := tok3; refine (sum_any _ _ _ [l.take j, l.drop j] _ (BSS.two (bo := some ⟨_, 0, none⟩) (bo' := some ⟨_, 0, none⟩) (by go_simp) (by go_simp) ((hB2.keep k23).keep ((Kp.refl _ _).alloc _)) (hB3.keep ((Kp.refl _ _).alloc _)))).mono ?_; rintro e w' ⟨rfl, rfl⟩; clear tok3; rw [show [l.take j, l.drop j].flatten = l from by simp])
    | (go_simp; go_at_call 15; have _t := tok4; refine (copy_exact _ _ _ l _ (hb1.keep (((((Kp.refl _ _).drew).trans k12).trans k23).alloc _)) (by omega)).mono ?_; rintro e w4 ⟨rfl, hw4⟩; clear tok4; obtain ⟨hB4, k34⟩ := copied hw4 hb1.len (by unfold maxLen; omega); clear hw4)
    | (go_simp; go_at_call 16; have _t := tok5; refine (sum_any _ _ _ [l] _ (BSS.one (bo := some ⟨_, 0, none⟩) (by go_simp) (hB4.keep ((Kp.refl _ _).alloc _)))).mono ?_; rintro e w' ⟨rfl, rfl⟩; clear tok5; rw [show [l].flatten = l from by simp]))
  have k04 : Kp Noone W w4 := (((((k01.drew).trans k12).trans k23).alloc _).trans k34)
  clear hB2 hB3 hB4 k12 k23 k34 hbt hbd c1 c2 hb1 k01
  generalize hw5 : w4.alloc _ = w5
  have k05 : Kp Noone W w5 := by rw [← hw5]; exact k04.alloc _
  clear hw5 k04
  rcases hat with ⟨k, hk, rfl⟩ | ha | ha
  · obtain ⟨b, off, hkl, rfl, _, hckW⟩ := hb.at hk
    have hck5 := k05.cell hckW id
    have HS := Lib.hid (sums_eq l hkl c)
    have HU := Lib.hid (u8_beq l[k] c)
    have hb5 := hb.keep k05
    generalize l[k] = x at *
    go_wp2_with fail
    refine (copy_exact _ _ _ l _ hb5 (by omega)).mono ?_
    rintro e w6 ⟨rfl, hw6⟩
    have k56 : Kp Noone w5 w6 := by rw [hw6]; exact (Kp.refl _ _).alloc _
    have hcopy : Own (Ex Noone w5 w6) w6 5 1 (some ⟨w5.heap.size, 0, none⟩) n n (bv l) :=
      Own.fresh (Or.inr ⟨Nat.le_refl _, by rw [hw6]; simp⟩) (by rw [hw6]; exact heap_alloc_new w5 _) (by rw [length_bv, HL.out, Nat.mul_one]) (by unfold maxLen; omega)
    clear hw6
    obtain ⟨g, go', _, hgo, hF, hg, hcc, hcf, hset⟩ := hcopy.byte hk
    simp only [Option.some.injEq, Addr.mk.injEq] at hgo
    obtain ⟨rfl, rfl, _⟩ := hgo
    have hset' := hset c
    simp only [Nat.zero_add] at hcc hcf hset'
    have k6 : Kp Noone w5 (w6.setCell ⟨w5.heap.size, k, none⟩ (U8 c)) := k56.setCell (fun h => absurd h (by simp)) _
    have hbs' := hset'.bs
    clear hset hcopy hF
    go_wp2_with fail
    change Code.wp _ _ _ _ (w6.setCell ⟨w5.heap.size, k, none⟩ (U8 c))
    generalize w6.setCell ⟨w5.heap.size, k, none⟩ (U8 c) = w7 at *
    have k07 := k05.trans k6
    have hb7 := hb.keep k07
    have c1 : (k : Int) < (n : Int) := by omega
    have hck7 := k6.cell hck5 id
    have hckd : w7.drew.cell? ⟨b, off + k, none⟩ = some (.int .u8 (x.toNat : Int)) := hck7
    have hca := cell_aside hck7
    clear hcc hcf hck5 hckW hg k56 k6 hb5
    go_region_law (first
      | (go_simp; go_at_call 16; have _t := tok6; refine (sum_any _ _ _ [l.set k c] _ (BSS.one (bo := some ⟨_, 0, none⟩) (by go_simp) (hbs'.keep (((Kp.refl _ _).alloc _).drew)))).mono ?_; rintro e w' ⟨rfl, rfl⟩; clear tok6; rw [show [l.set k c].flatten = l.set k c from by simp])
      | (go_simp; go_at_call 15; have _t := tok7; refine (copy_exact _ _ _ l _ (hb7.keep (((Kp.refl _ _).alloc _).drew)) (by omega)).mono ?_; rintro e w8 ⟨rfl, hw8⟩; clear tok7; obtain ⟨hB8, k78⟩ := copied hw8 HL.out (by unfold maxLen; omega); clear hw8; have hc8 := k78.cell (hca _) id; have hca8 := cell_aside hc8)
      | (go_simp; go_at_call 16; have _t := tok8; refine (sum_any _ _ _ [l] _ (BSS.one (bo := some ⟨_, 0, none⟩) (by go_simp) (hB8.keep ((Kp.refl _ _).alloc _)))).mono ?_; rintro e w' ⟨rfl, rfl⟩; clear tok8; rw [show [l].flatten = l from by simp]))
    all_goals
      go_wp2
      go_ret
      refine ⟨ret_eq ?_, (((k07.alloc _).drew).trans k78).alloc _⟩
      show Value.bool ((((sumN (l.set k c) : Nat) : Int) == ((sumN l : Nat) : Int)) == ((x.toNat : Int) == (c.toNat : Int))) = _
      rw [HS.out, HU.out]
      simp
  · go_wp2
    go_ret
    exact ⟨rfl, k05⟩
  · go_wp2
    go_ret
    exact ⟨rfl, k05⟩

set_option maxHeartbeats 2000000 in
theorem sealChains_C0 (ao : Option Addr) (n cap : Nat) (l : List UInt8) (cut at' : Int) (c : UInt8) (W : World) (hb : BS W ao n cap l) (hn : n ≤ 140737488351232)
    (j : Nat) (hj : j ≤ n) (h : (n : Int) < cut) (_b1 : -9223372036854775808 ≤ cut) (b2 : cut ≤ 9223372036854775807) (hj2 : j = n / 2) (hcj : j = cap) (b3 : -9223372036854775808 ≤ at') (b4 : at' ≤ 9223372036854775807) :
    Calls Try.prog 4 #[.slice ao n cap, .int .i64 cut, .int .i64 at', .int .u8 (c.toNat : Int)] W fun e w' => e = .returned (.bool true) ∧ Kp Noone W w' := by
  have HJ := Lib.hid hj2
  clear hj2
  have HL := Lib.hid hb.len
  have hle := hb.le
  have tok1 : True := trivial
  have tok2 : True := trivial
  have tok3 : True := trivial
  have tok4 : True := trivial
  have tok5 : True := trivial
  have tok6 : True := trivial
  have tok7 : True := trivial
  have tok8 : True := trivial
  have hat : (∃ k : Nat, k < n ∧ at' = k) ∨ at' < 0 ∨ (n : Int) ≤ at' := by
    by_cases h : 0 ≤ at'
    · by_cases h2 : at' < n
      · exact Or.inl ⟨at'.toNat, by omega, by omega⟩
      · exact Or.inr (Or.inr (by omega))
    · exact Or.inr (Or.inl (by omega))
  subst hcj
  obtain rfl : j = n := by omega
  go_enter Try.func4, Try.ntmps4
  go_wp2_with fail
  refine (head2_any _).mono ?_
  rintro e w1 ⟨rfl, k01⟩
  have hb1 := hb.keep k01
  have hbt := hb1
  have hbd : BS w1 ao 0 0 [] := ⟨rfl, Nat.le_refl _, by simp [maxLen], Row.nil _ _⟩
  have c1 : (j : Int) ≤ (j : Int) := by omega
  have c2 : (j : Int) ≤ (j : Int) := by omega
  go_wp2_with fail
  rw [show ((j : Int) / 2) = (j : Int) from by have := HJ.out; omega]
  go_region_law (first
    | (go_simp; go_at_call 15; have _t := tok1; refine (copy_exact _ _ _ _ _ (hbt.keep ((Kp.refl _ _).drew)) (by omega)).mono ?_; rintro e w2 ⟨rfl, hw2⟩; clear tok1; obtain ⟨hB2, k12⟩ := copied hw2 (hbt.len) (by unfold maxLen; omega); clear hw2)
    | (go_simp; go_at_call 15; have _t := tok2; refine (copy_exact _ _ _ _ _ (hbd.keep (((Kp.refl _ _).drew).trans k12)) (by omega)).mono ?_; rintro e w3 ⟨rfl, hw3⟩; clear tok2; obtain ⟨hB3, k23⟩ := copied hw3 (hbd.len) (by unfold maxLen; omega); clear hw3)
    | (go_simp; go_at_call 16; have _t := tok3; refine (sum_any _ _ _ [l, []] _ (BSS.two (bo := some ⟨_, 0, none⟩) (bo' := some ⟨_, 0, none⟩) (by go_simp) (by go_simp) ((hB2.keep k23).keep ((Kp.refl _ _).alloc _)) (hB3.keep ((Kp.refl _ _).alloc _)))).mono ?_; rintro e w' ⟨rfl, rfl⟩; clear tok3; rw [show [l, []].flatten = l from by simp])
    | (go_simp; go_at_call 15; have _t := tok4; refine (copy_exact _ _ _ l _ (hb1.keep (((((Kp.refl _ _).drew).trans k12).trans k23).alloc _)) (by omega)).mono ?_; rintro e w4 ⟨rfl, hw4⟩; clear tok4; obtain ⟨hB4, k34⟩ := copied hw4 hb1.len (by unfold maxLen; omega); clear hw4)
    | (go_simp; go_at_call 16; have _t := tok5; refine (sum_any _ _ _ [l] _ (BSS.one (bo := some ⟨_, 0, none⟩) (by go_simp) (hB4.keep ((Kp.refl _ _).alloc _)))).mono ?_; rintro e w' ⟨rfl, rfl⟩; clear tok5; rw [show [l].flatten = l from by simp]))
  have k04 : Kp Noone W w4 := (((((k01.drew).trans k12).trans k23).alloc _).trans k34)
  clear hB2 hB3 hB4 k12 k23 k34 hbt hbd c1 c2 hb1 k01
  generalize hw5 : w4.alloc _ = w5
  have k05 : Kp Noone W w5 := by rw [← hw5]; exact k04.alloc _
  clear hw5 k04
  rcases hat with ⟨k, hk, rfl⟩ | ha | ha
  · obtain ⟨b, off, hkl, rfl, _, hckW⟩ := hb.at hk
    have hck5 := k05.cell hckW id
    have HS := Lib.hid (sums_eq l hkl c)
    have HU := Lib.hid (u8_beq l[k] c)
    have hb5 := hb.keep k05
    generalize l[k] = x at *
    go_wp2_with fail
    refine (copy_exact _ _ _ l _ hb5 (by omega)).mono ?_
    rintro e w6 ⟨rfl, hw6⟩
    have k56 : Kp Noone w5 w6 := by rw [hw6]; exact (Kp.refl _ _).alloc _
    have hcopy : Own (Ex Noone w5 w6) w6 5 1 (some ⟨w5.heap.size, 0, none⟩) j j (bv l) :=
      Own.fresh (Or.inr ⟨Nat.le_refl _, by rw [hw6]; simp⟩) (by rw [hw6]; exact heap_alloc_new w5 _) (by rw [length_bv, HL.out, Nat.mul_one]) (by unfold maxLen; omega)
    clear hw6
    obtain ⟨g, go', _, hgo, hF, hg, hcc, hcf, hset⟩ := hcopy.byte hk
    simp only [Option.some.injEq, Addr.mk.injEq] at hgo
    obtain ⟨rfl, rfl, _⟩ := hgo
    have hset' := hset c
    simp only [Nat.zero_add] at hcc hcf hset'
    have k6 : Kp Noone w5 (w6.setCell ⟨w5.heap.size, k, none⟩ (U8 c)) := k56.setCell (fun h => absurd h (by simp)) _
    have hbs' := hset'.bs
    clear hset hcopy hF
    go_wp2_with fail
    change Code.wp _ _ _ _ (w6.setCell ⟨w5.heap.size, k, none⟩ (U8 c))
    generalize w6.setCell ⟨w5.heap.size, k, none⟩ (U8 c) = w7 at *
    have k07 := k05.trans k6
    have hb7 := hb.keep k07
    have c1 : (k : Int) < (j : Int) := by omega
    have hck7 := k6.cell hck5 id
    have hckd : w7.drew.cell? ⟨b, off + k, none⟩ = some (.int .u8 (x.toNat : Int)) := hck7
    have hca := cell_aside hck7
    clear hcc hcf hck5 hckW hg k56 k6 hb5
    go_region_law (first
      | (go_simp; go_at_call 16; have _t := tok6; refine (sum_any _ _ _ [l.set k c] _ (BSS.one (bo := some ⟨_, 0, none⟩) (by go_simp) (hbs'.keep (((Kp.refl _ _).alloc _).drew)))).mono ?_; rintro e w' ⟨rfl, rfl⟩; clear tok6; rw [show [l.set k c].flatten = l.set k c from by simp])
      | (go_simp; go_at_call 15; have _t := tok7; refine (copy_exact _ _ _ l _ (hb7.keep (((Kp.refl _ _).alloc _).drew)) (by omega)).mono ?_; rintro e w8 ⟨rfl, hw8⟩; clear tok7; obtain ⟨hB8, k78⟩ := copied hw8 HL.out (by unfold maxLen; omega); clear hw8; have hc8 := k78.cell (hca _) id; have hca8 := cell_aside hc8)
      | (go_simp; go_at_call 16; have _t := tok8; refine (sum_any _ _ _ [l] _ (BSS.one (bo := some ⟨_, 0, none⟩) (by go_simp) (hB8.keep ((Kp.refl _ _).alloc _)))).mono ?_; rintro e w' ⟨rfl, rfl⟩; clear tok8; rw [show [l].flatten = l from by simp]))
    all_goals
      go_wp2
      go_ret
      refine ⟨ret_eq ?_, (((k07.alloc _).drew).trans k78).alloc _⟩
      show Value.bool ((((sumN (l.set k c) : Nat) : Int) == ((sumN l : Nat) : Int)) == ((x.toNat : Int) == (c.toNat : Int))) = _
      rw [HS.out, HU.out]
      simp
  · go_wp2
    go_ret
    exact ⟨rfl, k05⟩
  · go_wp2
    go_ret
    exact ⟨rfl, k05⟩

set_option maxHeartbeats 2000000 in
theorem sealChains_C1 (ao : Option Addr) (n cap : Nat) (l : List UInt8) (cut at' : Int) (c : UInt8) (W : World) (hb : BS W ao n cap l) (hn : n ≤ 140737488351232)
    (j : Nat) (hj : j ≤ n) (h : (n : Int) < cut) (_b1 : -9223372036854775808 ≤ cut) (b2 : cut ≤ 9223372036854775807) (hj2 : j = n / 2) (hcj : ¬ cap = j) (b3 : -9223372036854775808 ≤ at') (b4 : at' ≤ 9223372036854775807) :
    Calls Try.prog 4 #[.slice ao n cap, .int .i64 cut, .int .i64 at', .int .u8 (c.toNat : Int)] W fun e w' => e = .returned (.bool true) ∧ Kp Noone W w' := by
  have HJ := Lib.hid hj2
  clear hj2
  have HL := Lib.hid hb.len
  have hle := hb.le
  have tok1 : True := trivial
  have tok2 : True := trivial
  have tok3 : True := trivial
  have tok4 : True := trivial
  have tok5 : True := trivial
  have tok6 : True := trivial
  have tok7 : True := trivial
  have tok8 : True := trivial
  have hat : (∃ k : Nat, k < n ∧ at' = k) ∨ at' < 0 ∨ (n : Int) ≤ at' := by
    by_cases h : 0 ≤ at'
    · by_cases h2 : at' < n
      · exact Or.inl ⟨at'.toNat, by omega, by omega⟩
      · exact Or.inr (Or.inr (by omega))
    · exact Or.inr (Or.inl (by omega))
  go_enter Try.func4, Try.ntmps4
  go_wp2_with fail
  refine (head2_any _).mono ?_
  rintro e w1 ⟨rfl, k01⟩
  have hb1 := hb.keep k01
  have hbt := hb1.take hj
  have hbd := hb1.drop hj
  rw [if_neg hcj] at hbd
  have c1 : (j : Int) ≤ (n : Int) := by omega
  have c2 : (j : Int) ≤ (cap : Int) := by omega
  go_wp2_with fail
  rw [show ((n : Int) / 2) = (j : Int) from by have := HJ.out; omega]
  go_region_law (first
    | (go_simp; go_at_call 15; have _t := tok1; refine (copy_exact _ _ _ _ _ (hbt.keep ((Kp.refl _ _).drew)) (by omega)).mono ?_; rintro e w2 ⟨rfl, hw2⟩; clear tok1; obtain ⟨hB2, k12⟩ := copied hw2 (hbt.len) (by unfold maxLen; omega); clear hw2)
    | (go_simp; go_at_call 15; have _t := tok2; refine (copy_exact _ _ _ _ _ (hbd.keep (((Kp.refl _ _).drew).trans k12)) (by omega)).mono ?_; rintro e w3 ⟨rfl, hw3⟩; clear tok2; obtain ⟨hB3, k23⟩ := copied hw3 (hbd.len) (by unfold maxLen; omega); clear hw3)
    | (go_simp; go_at_call 16; have _t := tok3; refine (sum_any _ _ _ [l.take j, l.drop j] _ (BSS.two (bo := some ⟨_, 0, none⟩) (bo' := some ⟨_, 0, none⟩) (by go_simp) (by go_simp) ((hB2.keep k23).keep ((Kp.refl _ _).alloc _)) (hB3.keep ((Kp.refl _ _).alloc _)))).mono ?_; rintro e w' ⟨rfl, rfl⟩; clear tok3; rw [show [l.take j, l.drop j].flatten = l from by simp])
    | (go_simp; go_at_call 15; have _t := tok4; refine (copy_exact _ _ _ l _ (hb1.keep (((((Kp.refl _ _).drew).trans k12).trans k23).alloc _)) (by omega)).mono ?_; rintro e w4 ⟨rfl, hw4⟩; clear tok4; obtain ⟨hB4, k34⟩ := copied hw4 hb1.len (by unfold maxLen; omega); clear hw4)
    | (go_simp; go_at_call 16; have _t := tok5; refine (sum_any _ _ _ [l] _ (BSS.one (bo := some ⟨_, 0, none⟩) (by go_simp) (hB4.keep ((Kp.refl _ _).alloc _)))).mono ?_; rintro e w' ⟨rfl, rfl⟩; clear tok5; rw [show [l].flatten = l from by simp]))
  have k04 : Kp Noone W w4 := (((((k01.drew).trans k12).trans k23).alloc _).trans k34)
  clear hB2 hB3 hB4 k12 k23 k34 hbt hbd c1 c2 hb1 k01
  generalize hw5 : w4.alloc _ = w5
  have k05 : Kp Noone W w5 := by rw [← hw5]; exact k04.alloc _
  clear hw5 k04
  rcases hat with ⟨k, hk, rfl⟩ | ha | ha
  · obtain ⟨b, off, hkl, rfl, _, hckW⟩ := hb.at hk
    have hck5 := k05.cell hckW id
    have HS := Lib.hid (sums_eq l hkl c)
    have HU := Lib.hid (u8_beq l[k] c)
    have hb5 := hb.keep k05
    generalize l[k] = x at *
    go_wp2_with fail
    refine (copy_exact _ _ _ l _ hb5 (by omega)).mono ?_
    rintro e w6 ⟨rfl, hw6⟩
    have k56 : Kp Noone w5 w6 := by rw [hw6]; exact (Kp.refl _ _).alloc _
    have hcopy : Own (Ex Noone w5 w6) w6 5 1 (some ⟨w5.heap.size, 0, none⟩) n n (bv l) :=
      Own.fresh (Or.inr ⟨Nat.le_refl _, by rw [hw6]; simp⟩) (by rw [hw6]; exact heap_alloc_new w5 _) (by rw [length_bv, HL.out, Nat.mul_one]) (by unfold maxLen; omega)
    clear hw6
    obtain ⟨g, go', _, hgo, hF, hg, hcc, hcf, hset⟩ := hcopy.byte hk
    simp only [Option.some.injEq, Addr.mk.injEq] at hgo
    obtain ⟨rfl, rfl, _⟩ := hgo
    have hset' := hset c
    simp only [Nat.zero_add] at hcc hcf hset'
    have k6 : Kp Noone w5 (w6.setCell ⟨w5.heap.size, k, none⟩ (U8 c)) := k56.setCell (fun h => absurd h (by simp)) _
    have hbs' := hset'.bs
    clear hset hcopy hF
    go_wp2_with fail
    change Code.wp _ _ _ _ (w6.setCell ⟨w5.heap.size, k, none⟩ (U8 c))
    generalize w6.setCell ⟨w5.heap.size, k, none⟩ (U8 c) = w7 at *
    have k07 := k05.trans k6
    have hb7 := hb.keep k07
    have c1 : (k : Int) < (n : Int) := by omega
    have hck7 := k6.cell hck5 id
    have hckd : w7.drew.cell? ⟨b, off + k, none⟩ = some (.int .u8 (x.toNat : Int)) := hck7
    have hca := cell_aside hck7
    clear hcc hcf hck5 hckW hg k56 k6 hb5
    go_region_law (first
      | (go_simp; go_at_call 16; have _t := tok6; refine (sum_any _ _ _ [l.set k c] _ (BSS.one (bo := some ⟨_, 0, none⟩) (by go_simp) (hbs'.keep (((Kp.refl _ _).alloc _).drew)))).mono ?_; rintro e w' ⟨rfl, rfl⟩; clear tok6; rw [show [l.set k c].flatten = l.set k c from by simp])
      | (go_simp; go_at_call 15; have _t := tok7; refine (copy_exact _ _ _ l _ (hb7.keep (((Kp.refl _ _).alloc _).drew)) (by omega)).mono ?_; rintro e w8 ⟨rfl, hw8⟩; clear tok7; obtain ⟨hB8, k78⟩ := copied hw8 HL.out (by unfold maxLen; omega); clear hw8; have hc8 := k78.cell (hca _) id; have hca8 := cell_aside hc8)
      | (go_simp; go_at_call 16; have _t := tok8; refine (sum_any _ _ _ [l] _ (BSS.one (bo := some ⟨_, 0, none⟩) (by go_simp) (hB8.keep ((Kp.refl _ _).alloc _)))).mono ?_; rintro e w' ⟨rfl, rfl⟩; clear tok8; rw [show [l].flatten = l from by simp]))
    all_goals
      go_wp2
      go_ret
      refine ⟨ret_eq ?_, (((k07.alloc _).drew).trans k78).alloc _⟩
      show Value.bool ((((sumN (l.set k c) : Nat) : Int) == ((sumN l : Nat) : Int)) == ((x.toNat : Int) == (c.toNat : Int))) = _
      rw [HS.out, HU.out]
      simp
  · go_wp2
    go_ret
    exact ⟨rfl, k05⟩
  · go_wp2
    go_ret
    exact ⟨rfl, k05⟩

theorem sealChains_walk (ao : Option Addr) (n cap : Nat) (l : List UInt8) (cut at' : Int) (c : UInt8) (W : World) (hb : BS W ao n cap l) (hn : n ≤ 140737488351232)
    (b1 : -9223372036854775808 ≤ cut) (b2 : cut ≤ 9223372036854775807) (b3 : -9223372036854775808 ≤ at') (b4 : at' ≤ 9223372036854775807) :
    Calls Try.prog 4 #[.slice ao n cap, .int .i64 cut, .int .i64 at', .int .u8 (c.toNat : Int)] W fun e w' => e = .returned (.bool true) ∧ Kp Noone W w' := by
  obtain ⟨j, hj, hcut⟩ : ∃ j : Nat, j ≤ n ∧ (cut = j ∨ ((cut < 0 ∨ (n : Int) < cut) ∧ j = n / 2)) := by
    by_cases h : 0 ≤ cut ∧ cut ≤ n
    · exact ⟨cut.toNat, by omega, Or.inl (by omega)⟩
    · exact ⟨n / 2, by omega, Or.inr ⟨by omega, rfl⟩⟩
  by_cases hcj : j = cap
  · rcases hcut with rfl | ⟨h | h, hj2⟩
    · exact sealChains_A0 ao n cap l at' c W hb hn j hj hcj b3 b4
    · exact sealChains_B0 ao n cap l cut at' c W hb hn j hj h b1 b2 hj2 hcj b3 b4
    · exact sealChains_C0 ao n cap l cut at' c W hb hn j hj h b1 b2 hj2 hcj b3 b4
  · rcases hcut with rfl | ⟨h | h, hj2⟩
    · exact sealChains_A1 ao n cap l at' c W hb hn j hj (fun h => hcj h.symm) b3 b4
    · exact sealChains_B1 ao n cap l cut at' c W hb hn j hj h b1 b2 hj2 (fun h => hcj h.symm) b3 b4
    · exact sealChains_C1 ao n cap l cut at' c W hb hn j hj h b1 b2 hj2 (fun h => hcj h.symm) b3 b4

theorem sealChains_core {H : Type} {enc : TypeId × Value → H} (W : World) (base : Nat) (v0 : Value) (d0 : DataW H) (p0 : List MemPlace) (v1 : Value) (d1 : DataW H) (p1 : List MemPlace) (v2 : Value) (d2 : DataW H) (p2 : List MemPlace) (v3 : Value) (d3 : DataW H) (p3 : List MemPlace)
    (h0 : DataW.Trod enc Try.prog W 0 (fun _ => true) true 24 v0 d0 p0) (h1 : DataW.Trod enc Try.prog W 0 (fun _ => true) true 3 v1 d1 p1) (h2 : DataW.Trod enc Try.prog W 0 (fun _ => true) true 3 v2 d2 p2) (h3 : DataW.Trod enc Try.prog W 0 (fun _ => true) true 5 v3 d3 p3)
    (g0 : Value.okWide Try.prog W .any base 24 v0) (g1 : Value.okWide Try.prog W .any base 3 v1) (g2 : Value.okWide Try.prog W .any base 3 v2) (g3 : Value.okWide Try.prog W .any base 5 v3)
    (w0 : ∀ n ∈ d0.weights Try.prog 24, n ≤ reachBytes) (_w1 : ∀ n ∈ d1.weights Try.prog 3, n ≤ reachBytes) (_w2 : ∀ n ∈ d2.weights Try.prog 3, n ≤ reachBytes) (_w3 : ∀ n ∈ d3.weights Try.prog 5, n ≤ reachBytes) :
    Calls Try.prog 4 #[v0, v1, v2, v3] W fun e w' => e = .returned (.bool true) ∧ Kp Noone W w' := by
  obtain ⟨ao, n, cap, l, rfl, hb, hc⟩ := arg_bytesR h0 g0 w0
  obtain ⟨k, rfl, hk⟩ := arg_int h1 g1
  obtain ⟨a, rfl, ha⟩ := arg_int h2 g2
  obtain ⟨c, rfl⟩ := arg_u8 h3 g3
  have := hb.le
  have hkb := bounds_i64 hk
  have hab := bounds_i64 ha
  exact sealChains_walk ao n cap l k a c W hb (by omega) (by omega) (by omega) (by omega) (by omega)

end Go.Proofs.Ytgbfbhkpjmgipaa
