/-
  THE WALKS of pack's Reader, and the document's own.
-/
import Derived.Test.YtlpdoefbjhlegaaRefsN
import Derived.ScopeJumps
import Derived.WalkMore
namespace Go.Proofs.Ytlpdoefbjhlegaa
open Go.RowKit

/-- A number as it is read: what is left, the error, and the number. -/
def rnum (left : List UInt8) (bad : Nat) : (List UInt8 × Nat) × Nat :=
  if bad ≠ 0 then ((left, bad), 0) else
  match left with
  | [] => (([], 10), 0)
  | c :: r => if 8 < c.toNat then ((c :: r, 11), 0) else if r.length < c.toNat then ((c :: r, 10), 0)
    else if 0 < c.toNat ∧ r[0]? = some 0 then ((c :: r, 11), 0) else ((r.drop c.toNat, 0), ofBE (r.take c.toNat))

/-- Where a reader's memory lies: its own block, and its bytes' block. -/
def Roff (G : Nat → Prop) (p : Nat) (ao : Option Addr) (l : List UInt8) : Prop := G p ∧ (l ≠ [] → ∀ a, ao = some a → a.block ≠ p ∧ G a.block)

/-- A reader at block p: what it has left, and its error; its blocks are of G. -/
def Rd (G : Nat → Prop) (w : World) (p : Nat) (left : List UInt8) (bad : Nat) : Prop :=
  ∃ (ao : Option Addr) (n cap : Nat) (l : List UInt8) (k : Nat), w.heap[p]? = some (.cells #[.slice ao n cap, .int .i64 (k : Int), .int .i64 (bad : Int)] 98 (0, 0)) ∧ BS w ao n cap l ∧ Roff G p ao l ∧ k ≤ n ∧ left = l.drop k ∧ bad ≤ 13

theorem Rd.keep {G : Nat → Prop} {w w' : World} {p : Nat} {left : List UInt8} {bad : Nat} (h : Rd G w p left bad) (k : Kp Noone w w') : Rd G w' p left bad := by
  obtain ⟨ao, n, cap, l, i, h1, h2, h3⟩ := h
  exact ⟨ao, n, cap, l, i, k.heap h1 id, h2.keep k, h3⟩

theorem Rd.kp {G S : Nat → Prop} {w w' : World} {p : Nat} {left : List UInt8} {bad : Nat} (h : Rd G w p left bad) (k : Kp S w w') (hd : ∀ j, G j → ¬ S j) : Rd G w' p left bad := by
  obtain ⟨ao, n, cap, l, i, h1, h2, h3, h4⟩ := h
  refine ⟨ao, n, cap, l, i, k.heap h1 (hd _ h3.1), ?_, h3, h4⟩
  by_cases hl : l = []
  · subst hl
    exact ⟨h2.len, h2.le, h2.max, Row.nil _ _⟩
  · exact h2.kp k (fun a ha => hd _ (h3.2 hl a ha).2)

theorem cells_three {w : World} {p e : Nat} {a b c : Value} (h : w.heap[p]? = some (.cells #[a, b, c] e (0, 0))) :
    w.cell? ⟨p, 0, none⟩ = some a ∧ w.cell? ⟨p, 1, none⟩ = some b ∧ w.cell? ⟨p, 2, none⟩ = some c ∧ w.frozen? ⟨p, 0, none⟩ = false ∧ w.frozen? ⟨p, 1, none⟩ = false ∧ w.frozen? ⟨p, 2, none⟩ = false := by
  refine ⟨?_, ?_, ?_, ?_, ?_, ?_⟩
  · rw [cell_of_row w p 0 _ e (0, 0) h]; rfl
  · rw [cell_of_row w p 1 _ e (0, 0) h]; rfl
  · rw [cell_of_row w p 2 _ e (0, 0) h]; rfl
  all_goals simp [World.frozen?, h]

/-- What a reader's call answers. -/
def RdPost (G : Nat → Prop) (w : World) (p : Nat) (v : Value) (left : List UInt8) (bad : Nat) (e : Ending) (w' : World) : Prop :=
  e = .returned v ∧ Rd G w' p left bad ∧ Kp (fun j => j = p) w w'

set_option maxHeartbeats 400000 in
set_option maxRecDepth 100000 in
theorem readerErr_any {G : Nat → Prop} (p : Nat) (left : List UInt8) (bad : Nat) (w : World) (h : Rd G w p left bad) :
    Calls Try.prog 44 #[.pointer (some ⟨p, 0, none⟩)] w fun e w' => e = .returned (.int .i64 (bad : Int)) ∧ w = w' := by
  obtain ⟨ao, n, cap, l, k, hh, -⟩ := h
  obtain ⟨h0, h1, h2, -⟩ := cells_three hh
  go_enter Try.func44, Try.ntmps44
  go_wp2_with fail
  go_ret
  exact ⟨rfl, rfl⟩

set_option maxHeartbeats 1000000 in
set_option maxRecDepth 100000 in
theorem newReader_any (ao : Option Addr) (n cap : Nat) (l : List UInt8) (w : World) (hb : BS w ao n cap l) (hn : n ≤ 140737488355328) :
    Calls Try.prog 35 #[.slice ao n cap] w fun e w' => ∃ p, e = .returned (.pointer (some ⟨p, 0, none⟩)) ∧ Rd (Ex Noone w w') w' p l 0 ∧ Kp Noone w w' ∧ w.heap.size ≤ p := by
  obtain ⟨i0, hi, hz0, hz1, hz2⟩ := info_parts info_u8
  go_enter Try.func35, Try.ntmps35
  go_wp2_with (at_builtin; refine wpList_append_gen _ rfl (.const (.slice none 0 0)) (.tmp 3) 31 rfl 5 i0 (.int .u8 0) 1 1 Try.underlying31 hi hz0 hz1 hz2 rfl none 0 0 rfl ao n cap rfl Noone [] (Own.nil _ _ _ _ _) (bv l) (by rw [length_bv, hb.len, Nat.mul_one]) hb.row (bv_one _) (by omega) (by unfold maxLen; omega) ?_)
  intro ao1 cap1 w1 ho1 k1
  have hb1 : BS w1 ao1 n cap1 l := by
    have := ho1.bs (l := l)
    simpa using this
  have hs := k1.size
  have hoff : l ≠ [] → ∀ a, ao1 = some a → a.block ≠ w1.heap.size ∧ w.heap.size ≤ a.block ∧ a.block < w1.heap.size := by
    rintro hl a rfl
    rcases ho1.2.2.2 with h | ⟨g, off, cs, ha, hg, hh, -⟩
    · have h1 := hb1.len
      have h2 := hb1.le
      exact (hl (List.eq_nil_of_length_eq_zero (by omega))).elim
    · have := (Array.getElem?_eq_some_iff.1 hh).1
      have hg' := Ex.none hg
      cases ha
      simp
      omega
  clear ho1
  go_wp2_with fail
  go_ret
  exact ⟨_, rfl, ⟨ao1, n, cap1, l, 0, heap_alloc_new _ _, hb1.keep ((Kp.refl _ _).alloc _), ⟨Or.inr ⟨hs, by simp⟩, fun hl a ha => ⟨(hoff hl a ha).1, Or.inr ⟨(hoff hl a ha).2.1, by have := (hoff hl a ha).2.2; simp; omega⟩⟩⟩, Nat.zero_le _, rfl, by omega⟩, k1.alloc _, hs⟩

/-- The bytes stay, whatever is written into the reader's own block. -/
theorem bs_off {G : Nat → Prop} {w w' : World} {p : Nat} {ao : Option Addr} {n cap : Nat} {l : List UInt8} (h : BS w ao n cap l) (hoff : Roff G p ao l) (k : Kp (fun j => j = p) w w') : BS w' ao n cap l := by
  by_cases hl : l = []
  · subst hl
    exact ⟨h.len, h.le, h.max, Row.nil _ _⟩
  · exact h.kp k (fun a ha => (hoff.2 hl a ha).1)

theorem heap_set_bad {w : World} {p e : Nat} {a b c u : Value} (h : w.heap[p]? = some (.cells #[a, b, c] e (0, 0))) : (w.setCell ⟨p, 2, none⟩ u).heap[p]? = some (.cells #[a, b, u] e (0, 0)) := by
  simp [World.setCell, Array.getElem?_modify, h]
theorem heap_set_at {w : World} {p e : Nat} {a b c u : Value} (h : w.heap[p]? = some (.cells #[a, b, c] e (0, 0))) : (w.setCell ⟨p, 1, none⟩ u).heap[p]? = some (.cells #[a, u, c] e (0, 0)) := by
  simp [World.setCell, Array.getElem?_modify, h]

/-- The reader behind a read that failed. -/
theorem Rd.fail {G : Nat → Prop} {w w1 : World} {p : Nat} {ao : Option Addr} {n cap : Nat} {l : List UInt8} {k : Nat} {c : Value} (hh : w.heap[p]? = some (.cells #[.slice ao n cap, .int .i64 (k : Int), c] 98 (0, 0))) (hb : BS w ao n cap l) (hoff : Roff G p ao l) (hk : k ≤ n)
    (kw : Kp Noone w w1) (bad : Nat) (hbad : bad ≤ 13) : Rd G (w1.setCell ⟨p, 2, none⟩ (.int .i64 (bad : Int))) p (l.drop k) bad ∧ Kp (fun j => j = p) w (w1.setCell ⟨p, 2, none⟩ (.int .i64 (bad : Int))) := by
  have k2 : Kp (fun j => j = p) w (w1.setCell ⟨p, 2, none⟩ (.int .i64 (bad : Int))) := Kp.setCell (S := fun j => j = p) (p := ⟨p, 2, none⟩) kw.none (fun _ => rfl) _
  exact ⟨⟨ao, n, cap, l, k, heap_set_bad (kw.heap hh id), bs_off hb hoff k2, hoff, hk, rfl, hbad⟩, k2⟩
/-- The reader behind a read. -/
theorem Rd.go {G : Nat → Prop} {w w1 : World} {p : Nat} {ao : Option Addr} {n cap : Nat} {l : List UInt8} {k : Nat} {c : Value} (hh : w.heap[p]? = some (.cells #[.slice ao n cap, c, .int .i64 0] 98 (0, 0))) (hb : BS w ao n cap l) (hoff : Roff G p ao l) (hk : k ≤ n)
    (kw : Kp Noone w w1) : Rd G (w1.setCell ⟨p, 1, none⟩ (.int .i64 (k : Int))) p (l.drop k) 0 ∧ Kp (fun j => j = p) w (w1.setCell ⟨p, 1, none⟩ (.int .i64 (k : Int))) := by
  have k2 : Kp (fun j => j = p) w (w1.setCell ⟨p, 1, none⟩ (.int .i64 (k : Int))) := Kp.setCell (S := fun j => j = p) (p := ⟨p, 1, none⟩) kw.none (fun _ => rfl) _
  exact ⟨⟨ao, n, cap, l, k, heap_set_at (kw.heap hh id), bs_off hb hoff k2, hoff, hk, rfl, by omega⟩, k2⟩

/-- A scope that is left by one goto, forward. -/
theorem wp_scope_fwd {P : Program} {a : Act} {w : World} {Q : Exit → Act → World → Prop} {c rest : Code} (l : Nat) (hf : findLabel c l = some rest)
    (h : c.wp P (Exit.jump l (fun a w => rest.wp P (Exit.noGoto Q) a w) Q) a w) : (Code.scope c).wp P Q a w :=
  wp_scope_jumps l _ (fun _ _ => 0) hf h (fun _ _ hJ => wp_mono hJ (fun e a w hq => by
    cases e with
    | goto l => exact hq.elim
    | normal => exact hq
    | exit id => exact hq
    | ret => exact hq
    | panic ch => exact hq
    | outgrown => exact hq))

theorem shl_or (y c : Nat) (hy : y < 72057594037927936) (hc : c < 256) : bits .or .u64 ((y : Int) * 256) (c : Int) = ((256 * y + c : Nat) : Int) := by
  have e1 : (y : Int) * 256 = ((256 * y : Nat) : Int) := by omega
  have e3 : 256 * y + c = 256 * y ||| c := Nat.two_pow_add_eq_or_of_lt (i := 8) hc y
  rw [e1, u64_or_nat _ _ (by omega) (by omega), e3]

theorem pow256_le {j : Nat} (hj : j < 8) : 256 ^ j ≤ 72057594037927936 := by
  have h : 256 ^ j ≤ 256 ^ 7 := Nat.pow_le_pow_right (by omega) (by omega)
  have : (256 : Nat) ^ 7 = 72057594037927936 := by decide
  omega
theorem pow256_le8 {j : Nat} (hj : j ≤ 8) : 256 ^ j ≤ 18446744073709551616 := by
  have h : 256 ^ j ≤ 256 ^ 8 := Nat.pow_le_pow_right (by omega) (by omega)
  have : (256 : Nat) ^ 8 = 18446744073709551616 := by decide
  omega

theorem sizeN_read (r : List UInt8) (m : Nat) (hm : m ≤ 8) (hl : m ≤ r.length) : (sizeN (ofBE (r.take m)) = m) = ¬ (0 < m ∧ r[0]? = some 0) := by
  have hlen : (r.take m).length = m := by rw [List.length_take]; omega
  have h := sizeN_ofBE (r.take m) (by omega)
  rw [hlen] at h
  rw [propext h]
  apply propext
  cases m with
  | zero => simp
  | succ m =>
    cases r with
    | nil => simp at hl
    | cons a r => simp

set_option maxHeartbeats 1000000 in
set_option maxRecDepth 100000 in
theorem readerNum_any {G : Nat → Prop} (p : Nat) (left : List UInt8) (bad : Nat) (w : World) (h : Rd G w p left bad) :
    Calls Try.prog 43 #[.pointer (some ⟨p, 0, none⟩)] w (RdPost G w p (.int .u64 ((rnum left bad).2 : Int)) (rnum left bad).1.1 (rnum left bad).1.2) := by
  have hR := h
  obtain ⟨ao, n, cap, l, k, hh, hb, hoff, hk, rfl, hbad⟩ := h
  obtain ⟨h0, h1, h2, f0, f1, f2⟩ := cells_three hh
  go_enter Try.func43, Try.ntmps43
  go_wp2_with fail
  by_cases c0 : bad = 0
  case neg =>
    have hr : rnum (l.drop k) bad = ((l.drop k, bad), 0) := by unfold rnum; rw [if_pos c0]
    rw [hr]
    refine wp_scope_straight ?_
    go_wp2_with fail
    go_ret
    exact ⟨rfl, hR, Kp.refl _ _⟩
  subst c0
  rw [Int.natCast_zero] at h2 hh
  have hmx := hb.max
  have hle := hb.le
  have hlen := hb.len
  unfold maxLen at hmx
  by_cases c1 : k < n
  case neg =>
    have this : l.drop k = [] := List.drop_eq_nil_of_le (by omega)
    have hr : rnum (l.drop k) 0 = (([], 10), 0) := by
      rw [this]; rfl
    rw [hr]
    refine wp_scope_fwd 0 rfl ?_
    go_wp2_with fail
    go_quiet (fail)
    go_wp2_with fail
    go_step3
    refine ⟨rfl, ?_⟩
    go_wp2_with fail
    go_ret
    obtain ⟨r1, r2⟩ := Rd.fail hh hb hoff hk ((Kp.refl Noone w).drewN nq) 10 (by omega)
    rw [this] at r1
    exact ⟨rfl, r1, r2⟩
  obtain ⟨b, off, hl, rfl, hbW, hck⟩ := hb.at c1
  have hds : l.drop k = l[k] :: l.drop (k + 1) := (List.getElem_cons_drop hl).symm
  rw [hds]
  have HD := Lib.hid hds
  clear hds
  generalize l[k] = c at *
  obtain ⟨m, hm, hmc, hcm⟩ : ∃ m : Nat, m ≤ 255 ∧ Hid (m = c.toNat) ∧ w.cell? ⟨b, off + k, none⟩ = some (.int .u8 (m : Int)) := ⟨c.toNat, by have := c.toNat_lt; omega, Lib.hid rfl, hck⟩
  clear hR hck
  by_cases c2 : 8 < m
  · have hr : rnum (c :: l.drop (k + 1)) 0 = ((c :: l.drop (k + 1), 11), 0) := by
      unfold rnum; rw [if_neg (by simp)]; simp only []; rw [if_pos (by rw [← hmc.out]; exact c2)]
    rw [hr]
    refine wp_scope_fwd 1 rfl ?_
    go_wp2_with fail
    go_quiet (fail)
    go_wp2_with fail
    go_quiet (fail)
    go_wp2_with fail
    go_step3
    refine ⟨rfl, ?_⟩
    go_wp2_with fail
    go_ret
    have R := fun q => Rd.fail hh hb hoff hk ((Kp.refl Noone w).drewN q) 11 (by omega)
    simp only [HD.out] at R
    exact ⟨rfl, (R _).1, (R _).2⟩
  have hdl : (l.drop (k + 1)).length = n - (k + 1) := by rw [List.length_drop, hlen]
  by_cases c3 : n - (k + 1) < m
  · have hr : rnum (c :: l.drop (k + 1)) 0 = ((c :: l.drop (k + 1), 10), 0) := by
      unfold rnum; rw [if_neg (by simp)]; simp only []; rw [if_neg (by rw [← hmc.out]; exact c2), if_pos (by rw [← hmc.out, hdl]; exact c3)]
    rw [hr]
    refine wp_scope_fwd 0 rfl ?_
    go_wp2_with fail
    go_quiet (fail)
    go_wp2_with fail
    go_quiet (fail)
    go_wp2_with fail
    go_quiet (fail)
    go_wp2_with fail
    go_step3
    refine ⟨rfl, ?_⟩
    go_wp2_with fail
    go_ret
    have R := fun q => Rd.fail hh hb hoff hk ((Kp.refl Noone w).drewN q) 10 (by omega)
    simp only [HD.out] at R
    exact ⟨rfl, (R _).1, (R _).2⟩
  have HLm : Hid (∀ j, (h : j < m) → ∃ h2 : k + 1 + j < l.length, w.cell? ⟨b, off + (k + 1) + j, none⟩ = some (.int .u8 ((l[k + 1 + j].toNat : Nat) : Int))) := Lib.hid (fun j hj => by
    obtain ⟨b', off', h2, he, -, hc⟩ := hb.at (k := k + 1 + j) (by omega)
    cases he
    exact ⟨h2, by rw [Nat.add_assoc]; exact hc⟩)
  have HS := Lib.hid (sizeN_read (l.drop (k + 1)) m (by omega) (by omega))
  have hcap : cap = k + 1 ∨ cap ≠ k + 1 := by omega
  refine wp_scope_fwd 1 rfl ?_
  rcases hcap with hcap | hcap
  · obtain rfl : m = 0 := by omega
    have hr : rnum (c :: l.drop (k + 1)) 0 = ((l.drop (k + 1), 0), 0) := by
      unfold rnum; rw [if_neg (by simp)]; simp only []; rw [← hmc.out, if_neg (by omega), if_neg (by omega), if_neg (by omega)]; rfl
    go_wp2_with fail
    go_quiet (fail)
    go_wp2_with fail
    go_quiet (fail)
    go_wp2_with fail
    go_quiet (fail)
    go_wp2_with fail
    go_quiet (fail)
    go_wp2_with fail
    go_loopw [70, 3] (fun i x wr => i = .int .i64 0 ∧ x = .int .u64 0 ∧ ∃ q, wr = w.drewN q) (fun _ _ _ => 0)
    case atStart => exact ⟨rfl, rfl, _, by simp only [World.drewN_drewN]; rfl⟩
    case round =>
      obtain ⟨rfl, rfl, q, rfl⟩ := hrel
      go_wp2_with fail
      refine (size_any 0 _ (by unfold W64; omega)).mono ?_
      rintro e w1 ⟨rfl, rfl⟩
      have hz : sizeN 0 = 0 := rfl
      rw [hz]
      go_wp2_with fail
      go_ret
      rw [hr]
      have R := fun q => Rd.go hh hb hoff (k := k + 1) (by omega) ((Kp.refl Noone w).drewN q)
      exact ⟨rfl, (R _).1, (R _).2⟩
  · go_wp2_with fail
    go_quiet (fail)
    go_wp2_with fail
    go_quiet (fail)
    go_wp2_with fail
    go_quiet (fail)
    go_wp2_with fail
    go_quiet (fail)
    go_wp2_with fail
    go_loopw [70, 3] (fun i x wr => ∃ j y : Nat, j ≤ m ∧ i = .int .i64 (j : Int) ∧ x = .int .u64 (y : Int) ∧ Hid (y = ofBE ((l.drop (k + 1)).take j)) ∧ y < 256 ^ j ∧ ∃ q, wr = w.drewN q) (fun i _ _ => m - (intOf i).toNat)
    case atStart => exact ⟨0, 0, Nat.zero_le _, rfl, rfl, Lib.hid rfl, by simp, _, by simp only [World.drewN_drewN]; rfl⟩
    case round =>
      obtain ⟨j, y, hj, rfl, rfl, hy, hyb, q, rfl⟩ := hrel
      by_cases hjm : j < m
      · obtain ⟨hl2, hcj⟩ := HLm.out j hjm
        have hHC : Hid (l[k + 1 + j].toNat = l[k + 1 + j].toNat) := Lib.hid rfl
        have hc256 := l[k + 1 + j].toNat_lt
        have hsn : ofBE ((l.drop (k + 1)).take (j + 1)) = 256 * ofBE ((l.drop (k + 1)).take j) + l[k + 1 + j].toNat := by
          rw [take_snoc _ j (by rw [List.length_drop]; omega), ofBE_snoc, List.getElem_drop]
        have HN := Lib.hid hsn
        clear hsn hHC
        generalize l[k + 1 + j].toNat = x at hcj HN hc256
        have hp := pow256_le (j := j) (by omega)
        go_wp2_with fail
        refine ⟨⟨j + 1, 256 * y + x, by omega, by go_num, by rw [shl_or y x (by omega) (by omega)], Lib.hid (by rw [HN.out, hy.out]), ?_, q, rfl⟩, by simp [intOf]; omega⟩
        rw [Nat.pow_succ]
        omega
      · obtain rfl : j = m := by omega
        have hp := pow256_le8 (j := j) (by omega)
        have hy64 : W64 y := by unfold W64; omega
        have hss := HS.out
        rw [← hy.out] at hss
        have HSS := Lib.hid hss
        clear hss
        go_wp2_with fail
        refine (size_any y _ hy64).mono ?_
        rintro e w1 ⟨rfl, rfl⟩
        by_cases c4 : 0 < j ∧ (l.drop (k + 1))[0]? = some 0
        · have hr : rnum (c :: l.drop (k + 1)) 0 = ((c :: l.drop (k + 1), 11), 0) := by
            unfold rnum; rw [if_neg (by simp)]; simp only []; rw [← hmc.out, if_neg (by omega), if_neg (by omega), if_pos c4]
          have hne : sizeN y ≠ j := fun c => (HSS.out ▸ c) c4
          have d : ((sizeN y : Int) + 1 != (j : Int) + 1) = true := by simp; omega
          clear c4
          go_wp2_with fail
          go_step3
          refine ⟨rfl, ?_⟩
          go_wp2_with fail
          go_ret
          have R := fun q => Rd.fail hh hb hoff hk ((Kp.refl Noone w).drewN q) 11 (by omega)
          simp only [HD.out] at R
          exact ⟨rfl, (R _).1, (R _).2⟩
        · have hr : rnum (c :: l.drop (k + 1)) 0 = (((l.drop (k + 1)).drop j, 0), y) := by
            unfold rnum; rw [if_neg (by simp)]; simp only []; rw [← hmc.out, if_neg (by omega), if_neg (by omega), if_neg c4, ← hy.out]
          have hne : sizeN y = j := by rw [HSS.out]; exact c4
          have d : ((sizeN y : Int) + 1 != (j : Int) + 1) = false := by simp; omega
          have HNE := Lib.hid hne
          clear c4 hne
          go_wp2_with fail
          go_ret
          rw [hr]
          have R := fun q => Rd.go hh hb hoff (k := k + (j + 1)) (by omega) ((Kp.refl Noone w).drewN q)
          have e : l.drop (k + (j + 1)) = (l.drop (k + 1)).drop j := by rw [List.drop_drop]; congr 1; omega
          simp only [e] at R
          exact ⟨rfl, (R _).1, (R _).2⟩

end Go.Proofs.Ytlpdoefbjhlegaa
