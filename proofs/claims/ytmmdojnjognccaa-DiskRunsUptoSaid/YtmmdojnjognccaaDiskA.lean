/-
  THE WALK of a disk's Append.
-/
import Derived.Test.YtmmdojnjognccaaNames
import Derived.Test.YtmmdojnjognccaaExt
namespace Go.Proofs.Ytmmdojnjognccaa
open Go.RowKit

def Dk (col : Nat → Nat) (i : Nat) (w : World) (p : Nat) (s : DS) : Prop := (∃ r, DskAt col i w p s r) ∧ DOk s
theorem Dk.ext {B : Nat} {S : Nat → Prop} {col col' : Nat → Nat} {i p : Nat} {s : DS} {w w' : World} (h : Dk col i w p s) (hc : Cols B w col) (e : Ext B S col w col' w') (hd : ∀ c, S3 i c → ¬ S c) : Dk col' i w' p s := by
  obtain ⟨⟨r, hr⟩, hi⟩ := h
  exact ⟨⟨r, (hr.recol hc e.old).beside (S := fun c => S c) (e.kp.mono (fun j hj c => by rw [e.old j hj]; exact c)) hd⟩, hi⟩
theorem Dk.keep {col : Nat → Nat} {i p : Nat} {s : DS} {w w' : World} (h : Dk col i w p s) (k : Kp Noone w w') : Dk col i w' p s := by
  obtain ⟨⟨r, hr⟩, hi⟩ := h
  exact ⟨⟨r, hr.keep k⟩, hi⟩

/-! ### What holds of the plain disk behind a call -/

theorem barsF_zero {s : DS} {k : ByteArray} {t : Bool} (h : barsF s k t = 0) : s.down = false ∧ nameOk k = true ∧ (t = true → alGet k s.areas ≠ none) := by
  unfold barsF at h
  split at h
  · cases h
  · rename_i h1
    split at h
    · cases h
    · rename_i h2
      split at h
      · cases h
      · rename_i h3
        exact ⟨by simpa using h1, by simpa using h2, fun ht c => h3 ⟨ht, c⟩⟩
theorem DOk.put {s : DS} (h : DOk s) {k : ByteArray} {a : AreaP} (hk : nameOk k = true) (ha : 0 ≤ a.safe ∧ a.safe ≤ a.data.length ∧ a.data.length ≤ 140737488355328) (hl : alGet k s.areas = none → s.areas.length < 64) : DOk (putF s k a) := by
  refine ⟨h.room, alPut_keys k a s.areas h.keys, ?_, fun x hx => ?_, fun x hx => ?_, h.steps, h.fuse⟩
  · show (alPut k a s.areas).length ≤ 64
    by_cases c : alGet k s.areas = none
    · have := alPut_length k a s.areas; have := hl c; omega
    · rw [alPut_length' k a s.areas c]; exact h.len
  · rcases mem_alPut hx with rfl | hx
    · exact ha
    · exact h.each x hx
  · rcases mem_alPut hx with rfl | hx
    · exact hk
    · exact h.names x hx
theorem DOk.step {s : DS} (h : DOk s) (hn : s.steps < 4611686018427387904) : DOk (stepF s).1 := by
  unfold stepF
  split
  · exact ⟨h.room, h.keys, h.len, h.each, h.names, h.steps, by simp⟩
  · exact ⟨h.room, h.keys, h.len, h.each, h.names, by have := h.steps; simp only []; omega, by have := h.fuse; simp only []; omega⟩
theorem DOk.del {s : DS} (h : DOk s) (k : ByteArray) : DOk { s with areas := alDel k s.areas } :=
  ⟨h.room, alDel_keys k _ h.keys, by have := alDel_length k s.areas; have := h.len; show (alDel k s.areas).length ≤ 64; omega, fun x hx => h.each x (mem_alDel hx), fun x hx => h.names x (mem_alDel hx), h.steps, h.fuse⟩
theorem stepF_put (s : DS) (k : ByteArray) (a : AreaP) : stepF (putF s k a) = (putF (stepF s).1 k a, (stepF s).2) := by
  unfold stepF putF; simp only []; split <;> rfl
theorem stepF_areas (s : DS) : (stepF s).1.areas = s.areas := by unfold stepF; split <;> rfl
theorem appendF_ok {s : DS} (h : DOk s) (k : ByteArray) (d : List UInt8) (hn : s.steps < 4611686018427387904) : DOk (appendF s k d).1 := by
  unfold appendF
  split
  · exact h
  · rename_i h1
    split
    · exact h
    · rename_i h2
      split
      · exact h
      · rename_i h3
        obtain ⟨-, hk, -⟩ := barsF_zero (by omega : barsF s k false = 0)
        have hg := h.get k
        refine DOk.step (h.put hk ?_ (fun c => ?_)) hn
        · simp only [List.length_append]; omega
        · have := h.len
          by_cases c2 : s.areas.length < 64
          · exact c2
          · exact absurd ⟨c, by omega⟩ h2

set_option maxHeartbeats 1000000 in
set_option maxRecDepth 100000 in
theorem append_dk (B : Nat) (col : Nat → Nat) (i p : Nat) (s : DS) (k : ByteArray) (fo : Option Addr) (n cap : Nat) (d : List UInt8) (w : World) (h : Dk col i w p s) (hc : Cols B w col) (hBw : B ≤ w.heap.size) (hb : BS w fo n cap d) (hk : k.size ≤ 9223372036854775807) (hst : s.steps < 4611686018427387904) :
    Calls Try.prog 10 #[.pointer (some ⟨p, 0, none⟩), .string k, .slice fo n cap] w fun e w' => e = .returned (.int .i64 ((appendF s k d).2 : Int)) ∧ ∃ col', Ext B (S3 i) col w col' w' ∧ Dk col' i w' p (appendF s k d).1 := by
  obtain ⟨j0, hj, hj0, hj1, hj2⟩ := info_parts info_u8
  have hfin := appendF_ok h.2 k d hst
  obtain ⟨⟨r, hr⟩, hok⟩ := h
  obtain ⟨RES, hRES⟩ : ∃ x, Hid (appendF s k d = x) := ⟨_, Lib.hid rfl⟩
  have HFIN := Lib.hid hfin
  have hdn := hb.len
  rw [hRES.out] at HFIN ⊢
  have HR := hRES.out
  unfold appendF at HR
  have HOK := Lib.hid hok
  have hstp := hok.steps
  have hfus := hok.fuse
  clear hfin hRES hok
  go_enter Try.func10, Try.ntmps10
  go_wp2_with fail
  refine (bars_at col i p s r k false w hr hk).mono ?_
  rintro e w1 ⟨rfl, k1⟩
  have hr1 := hr.keep k1
  have hc1 := hc.keep k1.size
  have hb1 := hb.keep k1
  have hB1 := Nat.le_trans hBw k1.size
  have E1 := Ext.quiet (S := S3 i) hc k1
  clear hr hc hb k1
  by_cases hz : barsF s k false = 0
  · rw [if_neg (by omega)] at HR
    have e0 : (((barsF s k false : Nat) : Int) != 0) = false := by rw [hz]; rfl
    clear hz
    obtain ⟨ao, c0, hown, hlk⟩ := hr1.lookup k true
    simp only [if_true] at hlk
    obtain ⟨⟨q0, -, -, -, -⟩, -⟩ := cells_five hr1.box
    have qo := fun o : Obj => (cells_five (((Kp.refl Noone w1).alloc o).heap hr1.box id)).1.1
    have hmlen := fun (o : Obj) (ty : TypeId) => (hr1.map.kp ((Kp.refl Noone w1).alloc o) id).len (P := Try.prog) (m := 64) (t := 9) (e := 69) Try.underlying64 ty
    rw [hr1.length] at hmlen
    have hgk := HOK.out.get k
    have hlen := HOK.out.len
    have hno : (alGet k s.areas = none) ↔ (alGet k s.areas).isSome = false := by cases alGet k s.areas <;> simp
    simp only [hno] at HR
    have hputA := stepF_put s k ⟨(get0 k s.areas).data ++ d, (get0 k s.areas).safe⟩
    generalize (alGet k s.areas).isSome = has at *
    generalize s.areas.length = al at *
    generalize get0 k s.areas = a at *
    obtain ⟨ad, sf⟩ := a
    simp only [] at hown hlk HR hgk hputA
    have HPUT := Lib.hid hputA
    have hdl : (bv ad).length = ad.length * 1 := by rw [length_bv, Nat.mul_one]
    have hw1 : IntKind.i64.wrap (4194304 - (ad.length : Int)) = 4194304 - (ad.length : Int) := IntWalk.i64_in _ (by omega)
    have HR1 := Lib.hid hr1
    have HOWN := Lib.hid hown
    clear hno hr1 hown hputA
    by_cases c43 : has = false ∧ 64 ≤ al
    · rw [if_pos c43] at HR
      subst HR
      obtain ⟨rfl, c2⟩ := c43
      have c3 : (64 : Int) ≤ (al : Int) := by omega
      go_wp2_with fail
      go_ret
      have k2 := fun o : Obj => (Kp.refl Noone w1).alloc o
      exact ⟨rfl, col, E1.trans (Ext.quiet hc1 (k2 _)), ⟨r, HR1.out.keep (k2 _)⟩, HOK.out⟩
    · rw [if_neg c43] at HR
      have hcase : has = true ∨ (has = false ∧ ¬ (64 : Int) ≤ (al : Int)) := by
        cases has with
        | true => exact Or.inl rfl
        | false => exact Or.inr ⟨rfl, fun c => c43 ⟨rfl, by omega⟩⟩
      clear c43
      have HRR := Lib.hid HR
      clear HR
      rcases hcase with rfl | ⟨rfl, c2⟩
      all_goals (
        by_cases c12 : 4194304 - (ad.length : Int) < (d.length : Int)
        · have HR := HRR.out
          rw [if_pos c12] at HR
          subst HR
          rw [hdn] at c12
          have c13 : (n : Int) > 4194304 - (ad.length : Int) := c12
          go_wp2_with fail
          go_ret
          have k2 := fun o : Obj => (Kp.refl Noone w1).alloc o
          exact ⟨rfl, col, E1.trans (Ext.quiet hc1 (k2 _)), ⟨r, HR1.out.keep (k2 _)⟩, HOK.out⟩
        · have HR := HRR.out
          rw [if_neg c12] at HR
          have HE := Lib.hid HR
          clear HR HRR
          rw [hdn] at c12
          have kA : Kp Noone w1 (w1.alloc (.cells #[.slice ao ad.length c0, .int .i64 sf] 69)) := (Kp.refl _ _).alloc _
          have hAb := heap_alloc_new w1 (.cells #[.slice ao ad.length c0, .int .i64 sf] 69)
          have hrow := (hb1.keep kA).row
          have hln : (bv d).length = n * 1 := by rw [length_bv, hdn, Nat.mul_one]
          have sA := kA.size
          have hG1 : Hid (∀ j, r.G k j → j < w1.heap.size) := Lib.hid (fun j hj => (hc1 j (by have := HR1.out.gcol k j hj; omega)).2)
          go_wp2_with (at_builtin; refine wpList_append_gen _ rfl (.tmp 43) (.tmp 44) 22 rfl 5 j0 (.int .u8 0) 1 1 Try.underlying22 hj hj0 hj1 hj2 rfl ao ad.length c0 rfl fo n cap rfl _ (bv ad) (HOWN.out.keep kA) (bv d) hln hrow (bv_one _) (by omega) (by unfold maxLen; omega) ?_)
          intro ao' c0' w2 ho k2
          have hg8 : Hid (∀ j, Ex (r.G k) (w1.alloc (.cells #[.slice ao ad.length c0, .int .i64 sf] 69)) w2 j → j ≠ w1.heap.size) := Lib.hid (fun j hj c => by
            have h1 := (Array.getElem?_eq_some_iff.1 hAb).1
            rcases hj with hj | hj
            · have := hG1.out j hj; omega
            · omega)
          have h2b := k2.heap hAb (fun c => hg8.out _ (Or.inl c) rfl)
          obtain ⟨z0, z1, f0, -⟩ := cells_two h2b
          have h2p := k2.heap (kA.heap HR1.out.box id) (fun c => by have h1 := HR1.out.gcol k p c; have h2 := HR1.out.pc; omega)
          have hpw := HR1.out.lt
          have h3b : (w2.setCell ⟨w1.heap.size, 0, none⟩ (.slice ao' (ad.length + n) c0')).heap[w1.heap.size]? = some (.cells #[.slice ao' (ad.length + n) c0', .int .i64 sf] 69 (0, 0)) := (heap_set_cell h2b).trans (by simp)
          have kset : Kp (fun j => j = w1.heap.size) w2 (w2.setCell ⟨w1.heap.size, 0, none⟩ (.slice ao' (ad.length + n) c0')) := (Kp.refl (fun j => j = w1.heap.size) w2).setCell (fun _ => rfl) _
          have h3p := kset.heap h2p (fun c => by omega)
          have o3 := Own.kp ho kset (fun j c d => hg8.out j c d)
          have k13 : Kp (r.G k) w1 (w2.setCell ⟨w1.heap.size, 0, none⟩ (.slice ao' (ad.length + n) c0')) := ((kA.none (S := r.G k)).trans k2).fin kset (fun j c => Or.inr (by omega))
          have hF : Hid (∀ j, Ex (r.G k) (w1.alloc (.cells #[.slice ao ad.length c0, .int .i64 sf] 69)) w2 j → r.G k j ∨ (w1.heap.size ≤ j ∧ j < w2.heap.size)) := Lib.hid (fun j hj => hj.elim Or.inl (fun hj => Or.inr (by omega)))
          have s23 := kset.size
          have HH2 := Lib.hid h2b
          obtain ⟨y0, y1, -, -⟩ := cells_two h3b
          obtain ⟨⟨x0, -, -, -, -⟩, -⟩ := cells_five h3p
          have kd : Kp Noone (w2.setCell ⟨w1.heap.size, 0, none⟩ (.slice ao' (ad.length + n) c0')) (w2.setCell ⟨w1.heap.size, 0, none⟩ (.slice ao' (ad.length + n) c0')).drew := (Kp.refl _ _).drew
          have hM3 := (HR1.out.map.kp k13 (fun c => by have h1 := HR1.out.gcol k _ c; have h2 := HR1.out.bc; omega)).kp kd id
          have HO3 := Lib.hid (o3.keep kd)
          have HK3 := Lib.hid (k13.drew)
          have HS := Lib.hid s23
          clear kd ho k2 hAb kA hrow sA h2b h2p h3b kset h3p o3 k13 s23 hb1 qo hmlen hlk q0
          go_upto_region 10 with fail
          generalize w2.setCell ⟨w1.heap.size, 0, none⟩ (.slice ao' (ad.length + n) c0') = w3 at *
          obtain ⟨w4, hrun, hto⟩ := hM3.update (P := Try.prog) (t := 9) (m := 64) (e := 69) keyS Try.underlying64 k (.agg #[.slice ao' (ad.length + n) c0', .int .i64 sf])
          simp only [encS] at hrun
          have HTO := Lib.hid hto
          clear hM3 hto
          have hlen2 : (ad ++ d).length = ad.length + n := by rw [List.length_append, hdn]
          have hPut : ∃ col' r', DskAt col' i w4 p (putF s k ⟨ad ++ d, sf⟩) r' ∧ Cols B w4 col' ∧ (∀ j, j < w1.heap.size → col' j = col j) ∧ (∀ j, w1.heap.size ≤ j → col' j ≠ 0 → S3 i (col' j)) ∧ Kp (fun j => S3 i (col j)) w1 w4 := by
            refine HR1.out.put hc1 hB1 k ⟨ad ++ d, sf, ao', c0'⟩ HK3.out (F := Ex (r.G k) (w1.alloc (.cells #[.slice ao ad.length c0, .int .i64 sf] 69)) w2) ?_ ?_ ?_
            · show Own _ _ _ _ ao' (ad ++ d).length c0' (bv (ad ++ d))
              rw [hlen2, ← bv_append]
              exact HO3.out
            · intro j hj
              have h1 := hF.out j hj
              have h2 := HS.out
              rcases h1 with h1 | h1
              · exact Or.inl h1
              · exact Or.inr ⟨by omega, by show j < w3.heap.size; omega⟩
            · show MapTo encS _ _ _ (alPut k (.agg #[.slice ao' (ad ++ d).length c0', .int .i64 sf]) _)
              rw [hlen2]
              exact HTO.out
          obtain ⟨col4, r4, D4, hc4, old4, new4, k4⟩ := hPut
          have E4 := E1.trans (⟨hc4, old4, new4, k4⟩ : Ext B (S3 i) col w1 col4 w4)
          have HE4 := Lib.hid E4
          have HD4 := Lib.hid D4
          have hst4 : 0 ≤ (putF s k ⟨ad ++ d, sf⟩).steps ∧ (putF s k ⟨ad ++ d, sf⟩).steps < 4611686018427387904 := ⟨hstp.1, hst⟩
          have hfu4 : 0 ≤ (putF s k ⟨ad ++ d, sf⟩).fuse ∧ (putF s k ⟨ad ++ d, sf⟩).fuse ≤ 9223372036854775807 := hfus
          clear hlen2 D4 hc4 old4 new4 k4 E4 HTO HO3 HK3 HS
          go_region
          all_goals (
            go_wp2_with fail
            refine (done_at col4 i p _ r4 w4 HD4.out hfu4 hst4).mono ?_
            rintro e w5 ⟨rfl, D5, k5⟩
            have hx : (stepF (putF s k ⟨ad ++ d, sf⟩)).2 = (stepF s).2 := by rw [HPUT.out]
            have HX := Lib.hid hx
            have HD5 := Lib.hid D5
            have HK5 := Lib.hid k5
            clear hx D5 k5
            go_wp2_with fail
            go_ret
            have hE := HE.out
            subst hE
            have e5 : Ext B (S3 i) col4 w4 col4 w5 := ⟨HE4.out.cols.keep HK5.out.size, fun _ _ => rfl, fun j hj hn => by have := HE4.out.cols j hn; omega, HK5.out.mono (fun j _ c => by subst c; rw [HD4.out.pc]; unfold S3; omega)⟩
            exact ⟨by rw [HX.out]; rfl, col4, HE4.out.trans e5, ⟨r4, HD5.out⟩, HFIN.out⟩))
  · rw [if_pos hz] at HR
    have e0 : (((barsF s k false : Nat) : Int) != 0) = true := by
      have h : ((barsF s k false : Nat) : Int) ≠ 0 := by omega
      simpa using h
    subst HR
    have HZ := Lib.hid hz
    clear hz
    go_wp2_with fail
    go_ret
    exact ⟨rfl, col, E1, ⟨r, hr1⟩, HOK.out⟩

end Go.Proofs.Ytmmdojnjognccaa
