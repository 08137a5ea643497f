/-
  PackBack: for every script within the bound the law returns true, and nothing that was there has changed.
-/
import Derived.Test.YtgbfbhkpjmgipaaWritesLaw
namespace Go.Proofs.Ytgbfbhkpjmgipaa
open Go.RowKit

theorem ex_span {F : Nat → Prop} {B : Nat} {a w w' : World} (h : ∀ j, F j → B ≤ j ∧ j < a.heap.size) (s : B ≤ w.heap.size) (s1 : a.heap.size ≤ w'.heap.size) : ∀ j, Ex F w w' j → B ≤ j ∧ j < w'.heap.size := by
  intro j hj
  rcases hj with hj | hj
  · have := h j hj; omega
  · omega

set_option maxHeartbeats 4000000 in
set_option maxRecDepth 100000 in
theorem packBack_walk (ao : Option Addr) (n cap : Nat) (ps : List PutL) (W : World) (hb : PS W ao n cap ps) (hn : n ≤ 1048576) (hT : (ps.map (·.2.2)).flatten.length ≤ 1048576) :
    Calls Try.prog 12 #[.slice ao n cap] W fun e w' => e = .returned (.bool true) ∧ Kp Noone W w' := by
  have HL := Lib.hid hb.len
  have HO : Hid ((outL ps).length ≤ 10485760) := Lib.hid (by have := outL_len ps; have := hb.len; omega)
  go_enter Try.func12, Try.ntmps12
  go_wp2_with fail
  refine (head_any _).mono ?_
  rintro e w1 ⟨rfl, k01⟩
  go_wp2_with fail
  refine (newWriter_any _).mono ?_
  rintro e w2 ⟨p, rfl, hw2, k12, hp⟩
  have s1 := k01.size
  have k02 := k01.trans k12
  have hF2 : Hid (∀ j, Ex Noone w1 w2 j → W.heap.size ≤ j ∧ j < w2.heap.size) := Lib.hid (fun j h => ⟨Nat.le_trans s1 (Ex.none h).1, (Ex.none h).2⟩)
  generalize Ex Noone w1 w2 = F2 at *
  clear k12 k01 hp s1
  go_wp2_with fail
  go_loopw [14] (fun i wr => ∃ (k : Nat) (F : Nat → Prop), k ≤ n ∧ i = .int .i64 (k : Int) ∧ Wr F wr p (outL (ps.take k)) ∧ Kp Noone W wr ∧ Hid (∀ j, F j → W.heap.size ≤ j ∧ j < wr.heap.size)) (fun i _ => n - (intOf i).toNat)
  case atStart => exact ⟨0, F2, Nat.zero_le _, rfl, hw2, k02, hF2⟩
  case round =>
    obtain ⟨k, F, hk, rfl, hwr, k0r, hF⟩ := hrel
    clear hw2 hF2
    by_cases hlt : k < n
    · have hl : k < ps.length := by rw [HL.out]; exact hlt
      obtain ⟨i1, i2, b, off, bo, m, c, rfl, hblt, hq0W, hq1W, hq2W, hB⟩ := hb.get k hl
      have hq0 := k0r.cell hq0W id
      have hq1 := k0r.cell hq1W id
      have hq2 := k0r.cell hq2W id
      have hbr := (World.block_lt_of_cell? _ _ hq0)
      clear hq0W hq1W hq2W
      have hm1 := put_len_le ps k hl
      have hS := outL_snoc ps k hl
      have hL1 := outL_take_len ps k
      have HOo := HO.out
      have hmt := hB.len
      have HS := Lib.hid hS
      have hmb : m ≤ 1048576 := by omega
      have hLb : (outL (ps.take k)).length ≤ 10485760 := by omega
      clear hm1 hS hL1 HOo hmt hb
      generalize outL (ps.take k) = L at *
      generalize ps[k] = q at *
      obtain ⟨K, N, t⟩ := q
      simp only [] at i1 i2 hq0 hq1 hq2 hB
      obtain ⟨j1, j2⟩ := i2
      have s0r := k0r.size
      have hwrA := fun o : Obj => hwr.keep ((Kp.refl Noone wr).alloc o)
      have kA := fun o : Obj => k0r.alloc o
      have HM := Lib.hid hB.len
      clear hwr k0r
      rcases (show K = 0 ∨ K = 1 ∨ (K ≠ 0 ∧ K ≠ 1) by omega) with cK | cK | ⟨cK0, cK1⟩
      · subst cK
        have hu := uN_wrap N
        have hult := Lib.hid (uN_lt N)
        have hput : Hid (L ++ numL (uN N) = outL (ps.take (k + 1))) := Lib.hid (by rw [HS.out]; simp [putL])
        go_wp2_with fail
        refine (writerNum_any _ p L (uN N) _ (hwrA _) hult.out (by omega)).mono ?_
        rintro e w5 ⟨rfl, hwr5, k5⟩
        rw [hput.out] at hwr5
        have k05 := (kA _).fin k5 (fun j h => Or.inr (hF.out j h).1)
        go_wp2_with fail
        exact ⟨⟨k + 1, _, by omega, by go_num, hwr5, k05, Lib.hid (ex_span hF.out (kA _).size (Nat.le_trans ((Kp.refl Noone wr).alloc _).size k5.size))⟩, by simp [intOf]; omega⟩
      · subst cK
        have hput : Hid (L ++ numL (foldN N) = outL (ps.take (k + 1))) := Lib.hid (by rw [HS.out]; simp [putL])
        go_wp2_with fail
        refine (writerInt_any _ p L N _ (hwrA _) j1 j2 (by omega)).mono ?_
        rintro e w5 ⟨rfl, hwr5, k5⟩
        rw [hput.out] at hwr5
        have k05 := (kA _).fin k5 (fun j h => Or.inr (hF.out j h).1)
        go_wp2_with fail
        exact ⟨⟨k + 1, _, by omega, by go_num, hwr5, k05, Lib.hid (ex_span hF.out (kA _).size (Nat.le_trans ((Kp.refl Noone wr).alloc _).size k5.size))⟩, by simp [intOf]; omega⟩
      · have e0 : (K == 0) = false := by simpa using cK0
        have e1 : (K == 1) = false := by simpa using cK1
        have hput : Hid (L ++ numL m ++ t = outL (ps.take (k + 1))) := Lib.hid (by rw [HS.out]; simp [putL, cK0, cK1, HM.out])
        clear cK0 cK1
        have hwrB := hwrA (.cells #[.int .i64 K, .int .i64 N, .slice bo m c] 45)
        have kB := kA (.cells #[.int .i64 K, .int .i64 N, .slice bo m c] 45)
        have hsB : wr.heap.size ≤ (wr.alloc (.cells #[.int .i64 K, .int .i64 N, .slice bo m c] 45)).heap.size := ((Kp.refl Noone wr).alloc _).size
        clear hwrA kA
        go_wp2_with fail
        generalize wr.alloc (.cells #[.int .i64 K, .int .i64 N, .slice bo m c] 45) = wB at *
        refine (copy_exact bo m c t _ (hB.keep kB) (by omega)).mono ?_
        rintro e w4 ⟨rfl, hw4⟩
        obtain ⟨hb4, k4⟩ := copied2 hw4 hB.len (by unfold maxLen; omega)
        have hwr4 := hwrB.keep k4
        have k04 := kB.trans k4
        have hFo : Off F (some ⟨wB.heap.size, 0, none⟩) := fun a ha c => by cases ha; have c' := (hF.out _ c).2; simp at c'; omega
        have hs4 := Nat.le_trans hsB k4.size
        clear hw4 hwrB kB k4
        go_wp2_with fail
        refine (writerText_any _ p L _ m m t _ hwr4 hb4 hFo (by omega)).mono ?_
        rintro e w5 ⟨rfl, hwr5, k5⟩
        rw [hput.out] at hwr5
        have k05 := k04.fin k5 (fun j h => Or.inr (hF.out j h).1)
        go_wp2_with fail
        exact ⟨⟨k + 1, _, by omega, by go_num, hwr5, k05, Lib.hid (ex_span hF.out k04.size (Nat.le_trans hs4 k5.size))⟩, by simp [intOf]; omega⟩
    · obtain rfl : k = n := by omega
      have ht : ps.take k = ps := List.take_of_length_le (by rw [HL.out]; omega)
      rw [ht] at hwr
      have HOo := HO.out
      clear ht
      have hdr : Hid (outL ps = outL (ps.drop 0)) := Lib.hid (by rw [List.drop_zero])
      go_wp2_with fail
      refine (writerBytes_any _ p (outL ps) _ hwr (by omega)).mono ?_
      rintro e w9 ⟨bo9, c9, rfl, ho9, k9⟩
      have k09 := k0r.trans k9
      have hb9 := ho9.bs
      clear hwr k0r ho9
      go_wp2_with fail
      refine (newReader_any _ _ _ (outL ps) _ hb9 (by omega)).mono ?_
      rintro e w10 ⟨r, rfl, hr10, k10, hr⟩
      have k010 := k09.trans k10
      have hG : Hid (∀ j, Ex Noone w9 w10 j → W.heap.size ≤ j) := Lib.hid (fun j h => Nat.le_trans k09.size (Ex.none h).1)
      generalize Ex Noone w9 w10 = G at *
      have hrW : W.heap.size ≤ r := by have := k09.size; omega
      have hrlt := hr10.cells.2.2
      clear k09 k10 hb9
      go_wp2_with fail
      go_loopw [44] (fun i wr => ∃ (j : Nat), j ≤ k ∧ i = .int .i64 (j : Int) ∧ Rd G wr r (outL (ps.drop j)) 0 ∧ Kp Noone W wr ∧ r < wr.heap.size) (fun i _ => k - (intOf i).toNat)
      case atStart => exact ⟨0, Nat.zero_le _, rfl, by rw [← hdr.out]; exact hr10, k010, hrlt⟩
      case round =>
        obtain ⟨j, hj, rfl, hrd, k0r, hrr⟩ := hrel
        clear hr10 k010
        by_cases hlt : j < k
        · have hl : j < ps.length := by rw [HL.out]; exact hlt
          obtain ⟨i1, i2, b, off, bo, m, c, rfl, hblt, hq0W, hq1W, hq2W, hB⟩ := hb.get j hl
          have hq0 := k0r.cell hq0W id
          have hq1 := k0r.cell hq1W id
          have hq2 := k0r.cell hq2W id
          have hm1 := put_len_le ps j hl
          have hS := outL_drop ps j hl
          have HOo := HO.out
          obtain rfl := hB.len
          have HS := Lib.hid hS
          clear hq0W hq1W hq2W hb hS
          generalize hR : outL (ps.drop (j + 1)) = R at *
          have HR := Lib.hid hR
          clear hR
          generalize ps[j] = q at *
          obtain ⟨K, N, t⟩ := q
          simp only [] at i1 i2 hq0 hq1 hq2 hB hm1
          obtain ⟨j1, j2⟩ := i2
          have s0r := k0r.size
          have kA := fun o : Obj => k0r.alloc o
          have hrdA := fun o : Obj => hrd.keep ((Kp.refl Noone wr).alloc o)
          have hgr : Hid (wr.heap.size ≠ r) := Lib.hid (by omega)
          have HP := heap_alloc_new wr (.cells #[.int .i64 K, .int .i64 N, .slice bo t.length c] 45)
          obtain ⟨hp0, hp1, hp2, -⟩ := cells_three HP
          clear hrd k0r HP
          rcases (show K = 0 ∨ K = 1 ∨ (K ≠ 0 ∧ K ≠ 1) by omega) with cK | cK | ⟨cK0, cK1⟩
          · subst cK
            have hu := uN_wrap N
            have hult := Lib.hid (uN_lt N)
            have hput : Hid (outL (ps.drop j) = numL (uN N) ++ R) := Lib.hid (by rw [HS.out]; simp [putL])
            go_wp2_with fail
            have hrd5 := hrdA (.cells #[.int .i64 0, .int .i64 N, .slice bo t.length c] 45)
            have k05 := kA (.cells #[.int .i64 0, .int .i64 N, .slice bo t.length c] 45)
            have hr5 : r < (wr.alloc (.cells #[.int .i64 0, .int .i64 N, .slice bo t.length c] 45)).heap.size := by simp; omega
            rw [hput.out] at hrd5
            clear hrdA kA hp0 hp2 hq0 hq1 hq2
            generalize wr.alloc (.cells #[.int .i64 0, .int .i64 N, .slice bo t.length c] 45) = w5 at *
            generalize wr.heap.size = g at *
            have hc := readerNum_any r (numL (uN N) ++ R) 0 _ (hrd5.keep (Kp.refl _ _).drew)
            rw [rnum_numL _ hult.out] at hc
            go_region_held3 (fun w' => w'.cell? ⟨g, 1, none⟩ = some (.int .i64 N) ∧ Kp (fun i => i = r) w5 w')
              (first | (go_split_ands; exact ⟨by simpa using (by assumption), Kp.drew (by assumption)⟩) | (go_split_ands; exact ⟨k'.cell (by assumption) hgr.out, Kp.trans (by assumption) k'⟩) | (go_split_ands; exact ⟨by assumption, by first | assumption | exact (Kp.refl _ _).drew⟩))
              (first
                | (go_at_call 35; refine hc.mono ?_; rintro e w' ⟨rfl, hrd', k'⟩))
            have k6 : Kp (fun i => i = r) w5 w' := (‹w'.cell? ⟨g, 1, none⟩ = some (.int .i64 N) ∧ Kp (fun i => i = r) w5 w'›).2
            have k06 := k05.fin k6 (fun j c => Or.inr (by subst c; exact hrW))
            have hr6 := Nat.lt_of_lt_of_le hr5 k6.size
            clear hc hp1
            go_wp2_with fail
            exact ⟨⟨j + 1, by omega, by go_num, by rw [HR.out]; exact hrd', k06, hr6⟩, by simp [intOf]; omega⟩
          · subst cK
            have hult := Lib.hid (foldN_lt N j1 j2)
            have hput : Hid (outL (ps.drop j) = numL (foldN N) ++ R) := Lib.hid (by rw [HS.out]; simp [putL])
            go_wp2_with fail
            have hrd5 := hrdA (.cells #[.int .i64 1, .int .i64 N, .slice bo t.length c] 45)
            have k05 := kA (.cells #[.int .i64 1, .int .i64 N, .slice bo t.length c] 45)
            have hr5 : r < (wr.alloc (.cells #[.int .i64 1, .int .i64 N, .slice bo t.length c] 45)).heap.size := by simp; omega
            rw [hput.out] at hrd5
            clear hrdA kA hp0 hp2 hq0 hq1 hq2
            generalize wr.alloc (.cells #[.int .i64 1, .int .i64 N, .slice bo t.length c] 45) = w5 at *
            generalize wr.heap.size = g at *
            have hc := readerInt_any r (numL (foldN N) ++ R) 0 _ (hrd5.keep (Kp.refl _ _).drew)
            rw [rnum_numL _ hult.out] at hc
            simp only [unfold_fold] at hc
            go_region_held3 (fun w' => w'.cell? ⟨g, 1, none⟩ = some (.int .i64 N) ∧ Kp (fun i => i = r) w5 w')
              (first | (go_split_ands; exact ⟨by simpa using (by assumption), Kp.drew (by assumption)⟩) | (go_split_ands; exact ⟨k'.cell (by assumption) hgr.out, Kp.trans (by assumption) k'⟩) | (go_split_ands; exact ⟨by assumption, by first | assumption | exact (Kp.refl _ _).drew⟩))
              (first
                | (go_at_call 39; refine hc.mono ?_; rintro e w' ⟨rfl, hrd', k'⟩))
            have k6 : Kp (fun i => i = r) w5 w' := (‹w'.cell? ⟨g, 1, none⟩ = some (.int .i64 N) ∧ Kp (fun i => i = r) w5 w'›).2
            have k06 := k05.fin k6 (fun j c => Or.inr (by subst c; exact hrW))
            have hr6 := Nat.lt_of_lt_of_le hr5 k6.size
            clear hc hp1
            go_wp2_with fail
            exact ⟨⟨j + 1, by omega, by go_num, by rw [HR.out]; exact hrd', k06, hr6⟩, by simp [intOf]; omega⟩
          · have e0 : (K == 0) = false := by simpa using cK0
            have e1 : (K == 1) = false := by simpa using cK1
            have hput : Hid (outL (ps.drop j) = numL t.length ++ t ++ R) := Lib.hid (by rw [HS.out]; simp [putL, cK0, cK1])
            have hLR : (numL t.length ++ t ++ R).length ≤ 140737488355328 := by
              have := outL_take_len ps 0
              have h2 : (outL (ps.drop j)).length ≤ (outL ps).length := by
                conv => rhs; rw [← List.take_append_drop j ps]
                unfold outL
                rw [List.map_append, List.flatten_append, List.length_append]
                omega
              rw [hput.out] at h2
              omega
            clear cK0 cK1
            go_wp2_with fail
            have hrd5 := hrdA (.cells #[.int .i64 K, .int .i64 N, .slice bo t.length c] 45)
            have k05 := kA (.cells #[.int .i64 K, .int .i64 N, .slice bo t.length c] 45)
            have hr5 : r < (wr.alloc (.cells #[.int .i64 K, .int .i64 N, .slice bo t.length c] 45)).heap.size := by simp; omega
            rw [hput.out] at hrd5
            clear hrdA kA hp0 hp1 hq0 hq1 hq2
            generalize wr.alloc (.cells #[.int .i64 K, .int .i64 N, .slice bo t.length c] 45) = w5 at *
            generalize wr.heap.size = g at *
            have hc := readerText_any r (numL t.length ++ t ++ R) 0 (t.length : Int) _ (hrd5.keep (Kp.refl _ _).drew) (by omega) (by omega) hLR
            rw [rtext_back t R (by omega)] at hc
            go_region_held3 (fun w' => w'.cell? ⟨g, 2, none⟩ = some (.slice bo t.length c) ∧ Kp (fun i => i = r) w5 w')
              (first | (go_split_ands; exact ⟨by simpa using (by assumption), Kp.drew (by assumption)⟩) | (go_split_ands; exact ⟨by simpa using (by assumption), Kp.drewN (by assumption) _⟩) | (go_split_ands; exact ⟨k'.cell (by assumption) hgr.out, Kp.trans (by assumption) k'⟩) | (go_split_ands; exact ⟨by assumption, by first | assumption | exact (Kp.refl _ _).drew⟩))
              (first
                | (go_at_call 44; refine hc.mono ?_; rintro e w' ⟨ao', c', rfl, hoy, hrd', k'⟩)
                | (go_at_call 18; refine (same_any _ _ _ _ _ _ t t _ hoy.bs (hB.keep ((k05.drew).fin k' (fun j c => Or.inr (by subst c; exact hrW)))) (by omega)).mono ?_; rw [show (t == t) = true by simp]; rintro e w'' ⟨rfl, q, rfl⟩))
            have k6 : Kp (fun i => i = r) w5 (w'.drewN q) := (((Kp.refl _ _).drew).trans k').drewN q
            have k06 := k05.fin k6 (fun j c => Or.inr (by subst c; exact hrW))
            have hr6 := Nat.lt_of_lt_of_le hr5 k6.size
            have hrd6 := hrd'.keep ((Kp.refl Noone w').drewN q)
            clear hc hp2
            go_wp2_with fail
            exact ⟨⟨j + 1, by omega, by go_num, by rw [HR.out]; exact hrd6, k06, hr6⟩, by simp [intOf]; omega⟩
        · obtain rfl : j = k := by omega
          have hdz : outL (ps.drop j) = [] := by rw [List.drop_of_length_le (by rw [HL.out]; omega)]; rfl
          rw [hdz] at hrd
          have hd0 : rdone [] 0 = 0 := rfl
          clear hdz
          go_wp2_with fail
          refine (readerDone_any r [] 0 _ hrd).mono ?_
          rw [hd0]
          rintro e w8 ⟨rfl, hrd8, k8⟩
          have K8 := k0r.fin k8 (fun j c => Or.inr (by subst c; exact hrW))
          go_wp2_with fail
          go_ret
          exact ⟨rfl, K8⟩

theorem packBack_core {H : Type} {enc : TypeId × Value → H} (W : World) (base : Nat) (v0 : Value) (d0 : DataW H) (p0 : List MemPlace)
    (h0 : DataW.Trod enc Try.prog W 0 (fun _ => true) true 41 v0 d0 p0) (g0 : Value.okWide Try.prog W .any base 41 v0)
    (hk : Rows.uptoBulkAll [d0] ≤ 1048576) :
    Calls Try.prog 12 #[v0] W fun e w' => e = .returned (.bool true) ∧ Kp Noone W w' := by
  obtain ⟨ao, n, cap, ps, rfl, hb, hc⟩ := arg_put h0 g0
  simp only [Rows.uptoBulkAll] at hk
  exact packBack_walk ao n cap ps W hb (by omega) (by omega)

end Go.Proofs.Ytgbfbhkpjmgipaa
