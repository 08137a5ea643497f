/-
  The texts ValX, ValY, ValZ in one: what the claim reaches of them.
-/
import Derived.Test.YtgbgbokcohfnpaaGreatP17
import Derived.Deep.RegionHeld3
import Derived.BigQuiet
import Derived.Test.YtgbgbokcohfnpaaGreatP07
import Derived.Test.YtgbgbokcohfnpaaGreatP01
/-
  WALKS: ballot.Compare; value.Check.
-/
namespace Go.Proofs.YtgbgbokcohfnpaaGreat
open Go.RowKit

theorem meas_small (j n : Nat) (h : j < n) (hn : n ≤ 4194304) : (4194305 - ((j : Int) + 1)).toNat < (4194305 - (j : Int)).toNat := by omega
set_option maxHeartbeats 1000000 in
set_option maxRecDepth 100000 in
theorem compare_any (a b : BalR) (w : World) :
    Calls Tryz.prog 41 #[.agg #[.int .i64 a.round, .int .i64 a.node], .agg #[.int .i64 b.round, .int .i64 b.node]] w fun e w' => e = .returned (.int .i64 (cmpB a b)) ∧ Kp Noone w w' := by
  obtain ⟨r, n⟩ := a
  obtain ⟨r2, n2⟩ := b
  simp only []
  have hb1 := heap_alloc_new w (.cells #[.int .i64 r, .int .i64 n] 24)
  have K1 : Kp Noone w (w.alloc (.cells #[.int .i64 r, .int .i64 n] 24)) := (Kp.refl _ _).alloc _
  have K2 : Kp Noone (w.alloc (.cells #[.int .i64 r, .int .i64 n] 24)) ((w.alloc (.cells #[.int .i64 r, .int .i64 n] 24)).alloc (.cells #[.int .i64 r2, .int .i64 n2] 24)) := (Kp.refl _ _).alloc _
  have hb2 := heap_alloc_new (w.alloc (.cells #[.int .i64 r, .int .i64 n] 24)) (.cells #[.int .i64 r2, .int .i64 n2] 24)
  have hb1 := K2.heap hb1 id
  have hx : (w.alloc (.cells #[.int .i64 r, .int .i64 n] 24)).heap.size = w.heap.size + 1 := by simp
  rw [hx] at hb2
  have HK := Lib.hid (K1.trans K2)
  clear K1 K2 hx
  have hc := fun a b W => cmpI_any a b W
  have HR : Hid (cmpB ⟨r, n⟩ ⟨r2, n2⟩ = if cmpI r r2 = 0 then cmpI n n2 else cmpI r r2) := Lib.hid (by
    unfold cmpB
    simp only []
    by_cases h : r = r2
    · rw [if_pos h, if_pos (by unfold cmpI; rw [if_neg (by omega), if_neg (by omega)])]
    · rw [if_neg h, if_neg (by unfold cmpI; split <;> (try split) <;> omega)])
  go_enter Tryz.func41, Tryz.ntmps41
  go_upto_region 1 with fail
  generalize (w.alloc (.cells #[.int .i64 r, .int .i64 n] 24)).alloc (.cells #[.int .i64 r2, .int .i64 n2] 24) = w0 at *
  generalize w.heap.size = g at *
  have hS : ∀ W, Kp Noone w0 W → (W.cell? ⟨g, 0, none⟩ = some (.int .i64 r) ∧ W.cell? ⟨g, 1, none⟩ = some (.int .i64 n)) ∧ W.cell? ⟨g + 1, 0, none⟩ = some (.int .i64 r2) ∧ W.cell? ⟨g + 1, 1, none⟩ = some (.int .i64 n2) := fun W k0 => by
    obtain ⟨a0, a1⟩ := cells_2v (k0.heap hb1 id)
    obtain ⟨b0, b1⟩ := cells_2v (k0.heap hb2 id)
    exact ⟨⟨a0, a1⟩, b0, b1⟩
  have HS := Lib.hid hS
  obtain ⟨⟨x0, x1⟩, y0, y1⟩ := hS w0 (Kp.refl _ _)
  clear hb1 hb2 hS
  have hbo := heap_alloc_new w0 (.cells #[.int .i64 (cmpI r r2), .int .i64 (cmpI n n2)] 3)
  have HO := Lib.hid (orI_any w0.heap.size (cmpI r r2) (cmpI n n2) ((w0.alloc (.cells #[.int .i64 (cmpI r r2), .int .i64 (cmpI n n2)] 3)).drew) (cells_2v hbo).1 (cells_2v hbo).2)
  clear hbo
  generalize (if cmpI r r2 = 0 then cmpI n n2 else cmpI r r2) = z at *
  have k0 : Kp Noone w0 w0.drew := (Kp.refl _ _).drew
  go_region_held3 (fun w' => (w'.cell? ⟨g, 0, none⟩ = some (.int .i64 r) ∧ w'.cell? ⟨g, 1, none⟩ = some (.int .i64 n)) ∧ w'.cell? ⟨g + 1, 0, none⟩ = some (.int .i64 r2) ∧ w'.cell? ⟨g + 1, 1, none⟩ = some (.int .i64 n2))
    (first | with_reducible exact HS.out _ k0 | with_reducible exact HS.out _ ((Kp.refl _ _).alloc _).drew)
    (first | (go_at_call 51; refine (hc _ _ _).mono ?_; rintro e w' ⟨rfl, hw⟩; rw [hw]; clear hw) | (go_at_call 85; refine HO.out.mono ?_; rintro e w' ⟨rfl, hw⟩; rw [hw]; clear hw))
  go_wp2_with fail
  go_ret
  exact ⟨ret_eq (by rw [HR.out]; rfl), HK.out.trans ((Kp.refl _ _).alloc _).drew⟩

set_option maxHeartbeats 2000000 in
set_option maxRecDepth 100000 in
theorem checkSet_any (ao : Option Addr) (n cap : Nat) (ms : List Int) (w : World) (h : IS w ao n cap ms) :
    Calls Tryz.prog 89 #[.slice ao n cap] w fun e w' => e = .returned (.int .i64 (setF ms)) ∧ Kp Noone w w' := by
  have hl := h.len
  have H := Lib.hid h
  clear h
  by_cases h1 : n < 1 ∨ 7 < n
  · have HR : Hid (setF ms = 24) := Lib.hid (by unfold setF; rw [if_pos (by omega)])
    rcases (by omega : ((n : Int) < 1) ∨ (¬ (n : Int) < 1 ∧ 7 < (n : Int))) with h2 | ⟨h2, h3⟩
    all_goals (
      clear h1 hl
      go_enter Tryz.func89, Tryz.ntmps89
      go_wp2_with fail
      go_ret
      exact ⟨ret_eq (by rw [HR.out]; rfl), Kp.refl _ _⟩)
  · have HR : Hid (setF ms = setGo 0 ms) := Lib.hid (by unfold setF; rw [if_neg (by omega)])
    have h2 : ¬ (n : Int) < 1 := by omega
    have h3 : ¬ 7 < (n : Int) := by omega
    have hn7 : n ≤ 7 := by omega
    have HL := Lib.hid hl
    clear h1 hl
    go_enter Tryz.func89, Tryz.ntmps89
    go_wp2_with fail
    clear h2 h3
    go_loopw [3, 16] (fun v3 v16 wx => ∃ (j : Nat) (last : Int), v16 = .int .i64 (j : Int) ∧ j ≤ n ∧ v3 = .int .i64 last ∧ Hid (setGo 0 ms = setGo last (ms.drop j)) ∧ wx = w) (fun _ u _ => (4194305 - intOf u).toNat)
    case atStart => exact ⟨0, 0, rfl, Nat.zero_le _, rfl, Lib.hid (by rw [List.drop_zero]), rfl⟩
    case round =>
      obtain ⟨j, last, rfl, hj, rfl, hgo, rfl⟩ := hrel
      by_cases hlt : j < n
      · have hltz : (j : Int) < (n : Int) := by omega
        have hwj : IntKind.i64.wrap ((j : Int) + 1) = (j : Int) + 1 := IntWalk.i64_in _ (by omega)
        obtain ⟨b, off, hl2, hno, -, hcell⟩ := H.out.at hlt
        have HD : Hid (ms.drop j = ms[j] :: ms.drop (j + 1)) := Lib.hid (List.drop_eq_getElem_cons hl2)
        generalize ms[j] = m at *
        subst hno
        by_cases hbad : m ≤ last ∨ 9 < m
        · have HE : Hid (setF ms = 24) := Lib.hid (by rw [HR.out, hgo.out, HD.out, setGo, if_pos hbad])
          rcases (by omega : m ≤ last ∨ (¬ m ≤ last ∧ 9 < m)) with q1 | ⟨q1, q2⟩
          all_goals (
            clear hbad
            go_wp2_with fail
            go_ret
            exact ⟨ret_eq (by rw [HE.out]; rfl), Kp.refl _ _⟩)
        · have HE : Hid (setGo 0 ms = setGo m (ms.drop (j + 1))) := Lib.hid (by rw [hgo.out, HD.out, setGo, if_neg hbad])
          obtain ⟨q1, q2⟩ : ¬ m ≤ last ∧ ¬ 9 < m := by omega
          clear hbad
          go_wp2_with fail
          go_roundw
          case rel => exact ⟨j + 1, m, rfl, hlt, rfl, HE, trivial⟩
          case measure => exact meas_small j n hlt (by omega)
      · obtain rfl : j = n := by omega
        have HE : Hid (setF ms = 0) := Lib.hid (by rw [HR.out, hgo.out, List.drop_eq_nil_of_le (by rw [HL.out]; exact Nat.le_refl _), setGo])
        clear hlt
        go_wp2_with fail
        go_ret
        exact ⟨ret_eq (by rw [HE.out]; rfl), Kp.refl _ _⟩
set_option maxHeartbeats 4000000 in
set_option maxRecDepth 100000 in
theorem check_val (v : ValR) (l : VLoc) (w : World) (h : ValAt w v l) (hb : v.cmds.length ≤ 140737488351232) :
    Calls Tryz.prog 43 #[valV v l] w fun e w' => e = .returned (.int .i64 (valF v)) ∧ Kp Noone w w' := by
  obtain ⟨k, cs, ns⟩ := v
  obtain ⟨co, cc, no, nc⟩ := l
  obtain ⟨hc, hn⟩ := h
  simp only [] at hc hn hb
  have HC := Lib.hid hc
  have HN := Lib.hid hn
  have hb1 := heap_alloc_new w (.cells #[.int .i64 k, .slice co cs.length cc, .slice no ns.length nc] 34)
  have K1 : Kp Noone w (w.alloc (.cells #[.int .i64 k, .slice co cs.length cc, .slice no ns.length nc] 34)) := (Kp.refl _ _).alloc _
  have HK := Lib.hid K1
  have HB := Lib.hid hb1
  have hcs := fun W hW => checkSet_any no ns.length nc ns W hW
  have hcc := fun c W => checkCmd_any c W
  obtain ⟨R, hR⟩ : ∃ R, Hid (valF ⟨k, cs, ns⟩ = R) := ⟨_, Lib.hid rfl⟩
  rw [hR.out]
  have HF := hR.out
  unfold valF at HF
  simp only [] at HF
  have HF := Lib.hid HF
  clear K1 hc hn hR
  unfold valV
  simp only []
  have HNC : ∀ W, Kp Noone w W → IS W no ns.length nc ns := fun W kk => HN.out.keep kk
  have HNC := Lib.hid HNC
  obtain ⟨cn, hcn⟩ : ∃ n, cs.length = n := ⟨_, rfl⟩
  obtain ⟨nn, hnn⟩ : ∃ n, ns.length = n := ⟨_, rfl⟩
  rw [hcn] at HC HK HB HF hb hb1 ⊢
  rw [hnn] at HNC hcs HK HB HF hb1 ⊢
  have HCN := Lib.hid hcn
  clear hcn hnn HN
  go_enter Tryz.func43, Tryz.ntmps43
  go_upto_region 1 with fail
  generalize w.alloc (.cells #[.int .i64 k, .slice co cn cc, .slice no nn nc] 34) = w0 at *
  generalize hgs : w.heap.size = g at *
  clear hgs
  obtain ⟨z0, z1, z2⟩ := cells_3v hb1
  clear hb1
  by_cases k0 : k = 0
  · subst k0
    by_cases c1 : 0 < cn
    · have HR : Hid (R = 25) := Lib.hid (by rw [← HF.out, if_pos rfl, if_pos (Or.inl c1)])
      have c1z : 0 < (cn : Int) := by omega
      clear HF
      go_wp2_with fail
      go_ret
      exact ⟨ret_eq (by rw [HR.out]; rfl), HK.out⟩
    · have c1z : ¬ 0 < (cn : Int) := by omega
      by_cases c2 : 0 < nn
      · have HR : Hid (R = 25) := Lib.hid (by rw [← HF.out, if_pos rfl, if_pos (Or.inr c2)])
        have c2z : 0 < (nn : Int) := by omega
        clear HF
        go_wp2_with fail
        go_ret
        exact ⟨ret_eq (by rw [HR.out]; rfl), HK.out⟩
      · have HR : Hid (R = 0) := Lib.hid (by rw [← HF.out, if_pos rfl, if_neg (by omega)])
        have c2z : ¬ 0 < (nn : Int) := by omega
        clear HF
        go_wp2_with fail
        go_ret
        exact ⟨ret_eq (by rw [HR.out]; rfl), HK.out⟩
  by_cases k2 : k = 2
  · subst k2
    by_cases c1 : 0 < cn
    · have HR : Hid (R = 25) := Lib.hid (by rw [← HF.out, if_neg (by decide), if_pos rfl, if_pos c1])
      have c1z : 0 < (cn : Int) := by omega
      clear HF
      go_wp2_with fail
      go_ret
      exact ⟨ret_eq (by rw [HR.out]; rfl), HK.out⟩
    · have HR : Hid (R = setF ns) := Lib.hid (by rw [← HF.out, if_neg (by decide), if_pos rfl, if_neg c1])
      have c1z : ¬ 0 < (cn : Int) := by omega
      clear HF
      go_wp2_with fail
      refine (hcs _ (HNC.out _ HK.out)).mono ?_
      rintro e w1 ⟨rfl, k1⟩
      have HK1 := Lib.hid (HK.out.trans k1)
      clear k1
      go_wp2_with fail
      go_ret
      exact ⟨ret_eq (by rw [HR.out]; rfl), HK1.out⟩
  by_cases k1 : k = 1
  case neg =>
    have HR : Hid (R = 25) := Lib.hid (by rw [← HF.out, if_neg k0, if_neg k2, if_neg k1])
    have q0 : (k == 0) = false := by simpa using k0
    have q1 : (k == 1) = false := by simpa using k1
    have q2 : (k == 2) = false := by simpa using k2
    clear HF k0 k1 k2
    go_wp2_with fail
    go_ret
    exact ⟨ret_eq (by rw [HR.out]; rfl), HK.out⟩
  subst k1
  clear k0 k2
  have HF : Hid ((if cn < 1 ∨ 8 < cn ∨ 0 < nn then (25 : Int) else cmdsF cs) = R) := Lib.hid (by
    have := HF.out
    rw [if_neg (by decide), if_neg (by decide), if_pos rfl] at this
    exact this)
  by_cases hbad : cn < 1 ∨ 8 < cn ∨ 0 < nn
  · have HR : Hid (R = 25) := Lib.hid (by rw [← HF.out, if_pos hbad])
    rcases (by omega : (cn : Int) < 1 ∨ (¬ (cn : Int) < 1 ∧ 8 < (cn : Int)) ∨ (¬ (cn : Int) < 1 ∧ ¬ 8 < (cn : Int) ∧ 0 < (nn : Int))) with q1 | ⟨q1, q2⟩ | ⟨q1, q2, q3⟩
    all_goals (
      clear hbad HF
      go_wp2_with fail
      go_ret
      exact ⟨ret_eq (by rw [HR.out]; rfl), HK.out⟩)
  · have HR : Hid (R = cmdsF cs) := Lib.hid (by rw [← HF.out, if_neg hbad])
    obtain ⟨q1, q2, q3⟩ : ¬ (cn : Int) < 1 ∧ ¬ 8 < (cn : Int) ∧ ¬ 0 < (nn : Int) := by omega
    have hc8 : cn ≤ 8 := by omega
    clear hbad HF
    go_wp2_with fail
    clear q1 q2 q3 z0 z1 z2
    go_loopw [50] (fun v50 wx => ∃ j : Nat, v50 = .int .i64 (j : Int) ∧ j ≤ cn ∧ Hid (cmdsF cs = cmdsF (cs.drop j)) ∧ Hid (Kp Noone w0 wx)) (fun u _ => (4194305 - intOf u).toNat)
    case atStart => exact ⟨0, rfl, Nat.zero_le _, Lib.hid (by rw [List.drop_zero]), Lib.hid (Kp.refl _ _)⟩
    case round =>
      obtain ⟨j, rfl, hj, hgo, hk⟩ := hrel
      by_cases hlt : j < cn
      · have hltz : (j : Int) < (cn : Int) := by omega
        have hwj : IntKind.i64.wrap ((j : Int) + 1) = (j : Int) + 1 := IntWalk.i64_in _ (by omega)
        obtain ⟨b, off, hl2, hno, -, ⟨e0, e1, e2, e3, e4, e5, e6, e7⟩⟩ := (HC.out.keep (HK.out.trans hk.out)).at hlt
        have HD : Hid (cs.drop j = cs[j] :: cs.drop (j + 1)) := Lib.hid (List.drop_eq_getElem_cons hl2)
        generalize cs[j] = c at *
        subst hno
        have hck := fun W => hcc c W
        by_cases hz : cmdF c = 0
        · have HE : Hid (cmdsF cs = cmdsF (cs.drop (j + 1))) := Lib.hid (by rw [hgo.out, HD.out, cmdsF, if_pos hz])
          rw [hz] at hck
          clear hz
          go_wp2_with fail
          refine (hck _).mono ?_
          rintro e w2 ⟨rfl, k2⟩
          have HK2 : Hid (Kp Noone w0 w2) := Lib.hid ((hk.out.alloc _).trans k2)
          clear k2
          go_wp2_with fail
          go_roundw
          case rel => exact ⟨j + 1, rfl, hlt, HE, HK2⟩
          case measure => exact meas_small j cn hlt (by omega)
        · have HE : Hid (R = cmdF c) := Lib.hid (by rw [HR.out, hgo.out, HD.out, cmdsF, if_neg hz])
          have hq : (cmdF c != 0) = true := by simpa using hz
          clear hz
          go_wp2_with fail
          refine (hck _).mono ?_
          rintro e w2 ⟨rfl, k2⟩
          have HK2 : Hid (Kp Noone w0 w2) := Lib.hid ((hk.out.alloc _).trans k2)
          clear k2
          go_wp2_with fail
          go_ret
          exact ⟨ret_eq (by rw [HE.out]; rfl), HK.out.trans HK2.out⟩
      · obtain rfl : j = cn := by omega
        have HE : Hid (R = 0) := Lib.hid (by rw [HR.out, hgo.out, List.drop_eq_nil_of_le (by rw [HCN.out]; exact Nat.le_refl _), cmdsF])
        clear hlt
        go_wp2_with fail
        go_ret
        exact ⟨ret_eq (by rw [HE.out]; rfl), HK.out.trans hk.out⟩

end Go.Proofs.YtgbgbokcohfnpaaGreat

/-
  WALKS: slices.Equal of commands and of ints; value.Same.
-/
namespace Go.Proofs.YtgbgbokcohfnpaaGreat
open Go.RowKit

theorem cmd_diff {s q a k r t n m s2 q2 a2 k2 r2 t2 n2 m2 : Int} (h : (⟨s, q, a, ⟨k, r, t, n, m⟩⟩ : CmdR) ≠ ⟨s2, q2, a2, ⟨k2, r2, t2, n2, m2⟩⟩) :
    s ≠ s2 ∨ (s = s2 ∧ (q ≠ q2 ∨ (q = q2 ∧ (a ≠ a2 ∨ (a = a2 ∧ (k ≠ k2 ∨ (k = k2 ∧ (r ≠ r2 ∨ (r = r2 ∧ (t ≠ t2 ∨ (t = t2 ∧ (n ≠ n2 ∨ (n = n2 ∧ m ≠ m2))))))))))))) := by
  by_cases h1 : s = s2
  · refine Or.inr ⟨h1, ?_⟩
    by_cases h2 : q = q2
    · refine Or.inr ⟨h2, ?_⟩
      by_cases h3 : a = a2
      · refine Or.inr ⟨h3, ?_⟩
        by_cases h4 : k = k2
        · refine Or.inr ⟨h4, ?_⟩
          by_cases h5 : r = r2
          · refine Or.inr ⟨h5, ?_⟩
            by_cases h6 : t = t2
            · refine Or.inr ⟨h6, ?_⟩
              by_cases h7 : n = n2
              · refine Or.inr ⟨h7, fun h8 => h ?_⟩
                subst h1 h2 h3 h4 h5 h6 h7 h8
                rfl
              · exact Or.inl h7
            · exact Or.inl h6
          · exact Or.inl h5
        · exact Or.inl h4
      · exact Or.inl h3
    · exact Or.inl h2
  · exact Or.inl h1
theorem take_eq_succ {α : Type} {l m : List α} {j : Nat} (h1 : j < l.length) (h2 : j < m.length) (h : l.take j = m.take j) (he : l[j] = m[j]) : l.take (j + 1) = m.take (j + 1) := by
  rw [List.take_succ_eq_append_getElem h1, List.take_succ_eq_append_getElem h2, h, he]
theorem take_ne {α : Type} {l m : List α} {j : Nat} (h1 : j < l.length) (h2 : j < m.length) (he : l[j] ≠ m[j]) : l ≠ m := fun e => by
  subst e
  exact he rfl
set_option maxHeartbeats 4000000 in
set_option maxRecDepth 100000 in
theorem eqCmds_any (ao bo : Option Addr) (n m cap cap2 : Nat) (cs ds : List CmdR) (w : World) (h : CS w ao n cap cs) (h2 : CS w bo m cap2 ds) (hn : n ≤ 4194304) :
    Calls Tryz.prog 91 #[.slice ao n cap, .slice bo m cap2] w fun e w' => e = .returned (.bool (decide (cs = ds))) ∧ ∃ q, w' = w.drewN q := by
  have hl := h.len
  have hl2 := h2.len
  have H := Lib.hid h
  have H2 := Lib.hid h2
  clear h h2
  by_cases hnm : n = m
  case neg =>
    have HR : Hid (decide (cs = ds) = false) := Lib.hid (decide_eq_false (fun e => hnm (by rw [← hl, ← hl2, e])))
    have hq : ((n : Int) != (m : Int)) = true := by simp only [bne_iff_ne, ne_eq]; omega
    clear hnm hl hl2
    go_enter Tryz.func91, Tryz.ntmps91
    go_wp2_with fail
    go_ret
    exact ⟨ret_eq (by rw [HR.out]; rfl), 0, rfl⟩
  subst hnm
  have HL := Lib.hid hl
  have HL2 := Lib.hid hl2
  clear hl hl2
  go_enter Tryz.func91, Tryz.ntmps91
  go_wp2_with fail
  go_loopw [13] (fun v13 wx => ∃ j : Nat, v13 = .int .i64 (j : Int) ∧ j ≤ n ∧ Hid (cs.take j = ds.take j) ∧ Hid (∃ q, wx = w.drewN q)) (fun u _ => (4194305 - intOf u).toNat)
  case atStart => exact ⟨0, rfl, Nat.zero_le _, Lib.hid rfl, Lib.hid ⟨0, rfl⟩⟩
  case round =>
    obtain ⟨j, rfl, hj, htk, hq⟩ := hrel
    by_cases hlt : j < n
    · have hltz : (j : Int) < (n : Int) := by omega
      have hwj : IntKind.i64.wrap ((j : Int) + 1) = (j : Int) + 1 := IntWalk.i64_in _ (by omega)
      have hk : Kp Noone w wr := by obtain ⟨q, rfl⟩ := hq.out; exact (Kp.refl _ _).drewN q
      obtain ⟨b1, o1, l1, e1, -, ⟨x0, x1, x2, x3, x4, x5, x6, x7⟩⟩ := (H.out.keep hk).at hlt
      obtain ⟨b2, o2, l2, e2, -, ⟨y0, y1, y2, y3, y4, y5, y6, y7⟩⟩ := (H2.out.keep hk).at hlt
      have HT := Lib.hid (fun he => take_eq_succ (l := cs) (m := ds) l1 l2 htk.out he)
      have HN := Lib.hid (fun he => take_ne (l := cs) (m := ds) l1 l2 he)
      generalize cs[j] = c at *
      generalize ds[j] = d at *
      obtain ⟨s, q, a, k, r, t, nn, mm⟩ := c
      obtain ⟨s2, q2, a2, k2, r2, t2, n2, m2⟩ := d
      simp only [] at x0 x1 x2 x3 x4 x5 x6 x7 y0 y1 y2 y3 y4 y5 y6 y7
      subst e1 e2
      by_cases he : (⟨s, q, a, ⟨k, r, t, nn, mm⟩⟩ : CmdR) = ⟨s2, q2, a2, ⟨k2, r2, t2, n2, m2⟩⟩
      · have HT2 := Lib.hid (HT.out he)
        simp only [CmdR.mk.injEq, OpV.mk.injEq] at he
        obtain ⟨rfl, rfl, rfl, rfl, rfl, rfl, rfl, rfl⟩ := he
        clear hk
        go_wp2_with fail
        go_quiet (fail)
        go_wp2_with fail
        go_roundw
        case rel => exact ⟨j + 1, rfl, hlt, HT2, Lib.hid (by obtain ⟨q, rfl⟩ := hq.out; exact ⟨_, World.drewN_drewN _ _ _⟩)⟩
        case measure => exact meas_small j n hlt hn
      · have HR : Hid (decide (cs = ds) = false) := Lib.hid (decide_eq_false (HN.out he))
        clear hk
        rcases cmd_diff he with c | ⟨rfl, c | ⟨rfl, c | ⟨rfl, c | ⟨rfl, c | ⟨rfl, c | ⟨rfl, c | ⟨rfl, c⟩⟩⟩⟩⟩⟩⟩
        all_goals (
          have hq3 := beq_eq_false_iff_ne.2 c
          clear c he
          go_wp2_with fail
          go_quiet (fail)
          go_wp2_with fail
          go_ret
          exact ⟨ret_eq (by rw [HR.out]; rfl), by obtain ⟨q, rfl⟩ := hq.out; exact ⟨_, World.drewN_drewN _ _ _⟩⟩)
    · obtain rfl : j = n := by omega
      have HR : Hid (decide (cs = ds) = true) := Lib.hid (decide_eq_true (by
        have := htk.out
        rwa [List.take_of_length_le (by rw [HL.out]; exact Nat.le_refl _), List.take_of_length_le (by rw [HL2.out]; exact Nat.le_refl _)] at this))
      clear hlt
      go_wp2_with fail
      go_ret
      exact ⟨ret_eq (by rw [HR.out]; rfl), hq.out⟩

set_option maxHeartbeats 2000000 in
set_option maxRecDepth 100000 in
theorem eqInts_any (ao bo : Option Addr) (n m cap cap2 : Nat) (cs ds : List Int) (w : World) (h : IS w ao n cap cs) (h2 : IS w bo m cap2 ds) (hn : n ≤ 4194304) :
    Calls Tryz.prog 92 #[.slice ao n cap, .slice bo m cap2] w fun e w' => e = .returned (.bool (decide (cs = ds))) ∧ ∃ q, w' = w.drewN q := by
  have hl := h.len
  have hl2 := h2.len
  have H := Lib.hid h
  have H2 := Lib.hid h2
  clear h h2
  by_cases hnm : n = m
  case neg =>
    have HR : Hid (decide (cs = ds) = false) := Lib.hid (decide_eq_false (fun e => hnm (by rw [← hl, ← hl2, e])))
    have hq : ((n : Int) != (m : Int)) = true := by simp only [bne_iff_ne, ne_eq]; omega
    clear hnm hl hl2
    go_enter Tryz.func92, Tryz.ntmps92
    go_wp2_with fail
    go_ret
    exact ⟨ret_eq (by rw [HR.out]; rfl), 0, rfl⟩
  subst hnm
  have HL := Lib.hid hl
  have HL2 := Lib.hid hl2
  clear hl hl2
  go_enter Tryz.func92, Tryz.ntmps92
  go_wp2_with fail
  go_loopw [13] (fun v13 wx => ∃ j : Nat, v13 = .int .i64 (j : Int) ∧ j ≤ n ∧ Hid (cs.take j = ds.take j) ∧ Hid (∃ q, wx = w.drewN q)) (fun u _ => (4194305 - intOf u).toNat)
  case atStart => exact ⟨0, rfl, Nat.zero_le _, Lib.hid rfl, Lib.hid ⟨0, rfl⟩⟩
  case round =>
    obtain ⟨j, rfl, hj, htk, hq⟩ := hrel
    by_cases hlt : j < n
    · have hltz : (j : Int) < (n : Int) := by omega
      have hwj : IntKind.i64.wrap ((j : Int) + 1) = (j : Int) + 1 := IntWalk.i64_in _ (by omega)
      have hk : Kp Noone w wr := by obtain ⟨q, rfl⟩ := hq.out; exact (Kp.refl _ _).drewN q
      obtain ⟨b1, o1, l1, e1, -, x0⟩ := (H.out.keep hk).at hlt
      obtain ⟨b2, o2, l2, e2, -, y0⟩ := (H2.out.keep hk).at hlt
      have HT := Lib.hid (fun he => take_eq_succ (l := cs) (m := ds) l1 l2 htk.out he)
      have HN := Lib.hid (fun he => take_ne (l := cs) (m := ds) l1 l2 he)
      generalize cs[j] = c at *
      generalize ds[j] = d at *
      subst e1 e2
      by_cases he : c = d
      · have HT2 := Lib.hid (HT.out he)
        subst he
        clear hk
        go_wp2_with fail
        go_quiet (fail)
        go_wp2_with fail
        go_roundw
        case rel => exact ⟨j + 1, rfl, hlt, HT2, Lib.hid (by obtain ⟨q, rfl⟩ := hq.out; exact ⟨_, World.drewN_drewN _ _ _⟩)⟩
        case measure => exact meas_small j n hlt hn
      · have HR : Hid (decide (cs = ds) = false) := Lib.hid (decide_eq_false (HN.out he))
        have hq3 : (c != d) = true := by simp only [bne_iff_ne, ne_eq]; exact he
        clear hk he
        go_wp2_with fail
        go_quiet (fail)
        go_wp2_with fail
        go_ret
        exact ⟨ret_eq (by rw [HR.out]; rfl), by obtain ⟨q, rfl⟩ := hq.out; exact ⟨_, World.drewN_drewN _ _ _⟩⟩
    · obtain rfl : j = n := by omega
      have HR : Hid (decide (cs = ds) = true) := Lib.hid (decide_eq_true (by
        have := htk.out
        rwa [List.take_of_length_le (by rw [HL.out]; exact Nat.le_refl _), List.take_of_length_le (by rw [HL2.out]; exact Nat.le_refl _)] at this))
      clear hlt
      go_wp2_with fail
      go_ret
      exact ⟨ret_eq (by rw [HR.out]; rfl), hq.out⟩
set_option maxHeartbeats 2000000 in
set_option maxRecDepth 100000 in
theorem sameVal_any (v u : ValR) (l m : VLoc) (w : World) (h : ValAt w v l) (h2 : ValAt w u m) (hb : v.cmds.length ≤ 4194304) (hb2 : v.next.length ≤ 4194304) :
    Calls Tryz.prog 44 #[valV v l, valV u m] w fun e w' => e = .returned (.bool (decide (v = u))) ∧ Kp Noone w w' := by
  obtain ⟨k, cs, ns⟩ := v
  obtain ⟨co, cc, no, nc⟩ := l
  obtain ⟨k2, cs2, ns2⟩ := u
  obtain ⟨co2, cc2, no2, nc2⟩ := m
  obtain ⟨hc, hn⟩ := h
  obtain ⟨hc2, hn2⟩ := h2
  simp only [] at hc hn hc2 hn2 hb hb2
  have hr1 := heap_alloc_new w (.cells #[.int .i64 k, .slice co cs.length cc, .slice no ns.length nc] 34)
  have K1 : Kp Noone w (w.alloc (.cells #[.int .i64 k, .slice co cs.length cc, .slice no ns.length nc] 34)) := (Kp.refl _ _).alloc _
  have hr2 := heap_alloc_new (w.alloc (.cells #[.int .i64 k, .slice co cs.length cc, .slice no ns.length nc] 34)) (.cells #[.int .i64 k2, .slice co2 cs2.length cc2, .slice no2 ns2.length nc2] 34)
  have K2 : Kp Noone (w.alloc (.cells #[.int .i64 k, .slice co cs.length cc, .slice no ns.length nc] 34)) ((w.alloc (.cells #[.int .i64 k, .slice co cs.length cc, .slice no ns.length nc] 34)).alloc (.cells #[.int .i64 k2, .slice co2 cs2.length cc2, .slice no2 ns2.length nc2] 34)) := (Kp.refl _ _).alloc _
  have hx : (w.alloc (.cells #[.int .i64 k, .slice co cs.length cc, .slice no ns.length nc] 34)).heap.size = w.heap.size + 1 := by simp
  rw [hx] at hr2
  have hr1 := K2.heap hr1 id
  have HK := Lib.hid (K1.trans K2)
  have HE1 := Lib.hid (fun W (kk : Kp Noone w W) => eqCmds_any co co2 cs.length cs2.length cc cc2 cs cs2 W (hc.keep kk) (hc2.keep kk) hb)
  have HE2 := Lib.hid (fun W (kk : Kp Noone w W) => eqInts_any no no2 ns.length ns2.length nc nc2 ns ns2 W (hn.keep kk) (hn2.keep kk) hb2)
  have HR : Hid (decide ((⟨k, cs, ns⟩ : ValR) = ⟨k2, cs2, ns2⟩) = (decide (k = k2) && (decide (cs = cs2) && decide (ns = ns2)))) := Lib.hid (by
    rw [Bool.eq_iff_iff]
    simp [ValR.mk.injEq])
  rw [HR.out]
  clear K1 K2 hx hc hn hc2 hn2
  generalize decide (cs = cs2) = B1 at *
  generalize decide (ns = ns2) = B2 at *
  unfold valV
  simp only []
  go_enter Tryz.func44, Tryz.ntmps44
  go_upto_region 1 with fail
  generalize (w.alloc (.cells #[.int .i64 k, .slice co cs.length cc, .slice no ns.length nc] 34)).alloc (.cells #[.int .i64 k2, .slice co2 cs2.length cc2, .slice no2 ns2.length nc2] 34) = w0 at *
  generalize hgs : w.heap.size = g at *
  clear hgs HR
  obtain ⟨z0, z1, z2⟩ := cells_3v hr1
  obtain ⟨y0, y1, y2⟩ := cells_3v hr2
  by_cases hk : k = k2
  case neg =>
    have HD : Hid (decide (k = k2) = false) := Lib.hid (decide_eq_false hk)
    have hq : (k == k2) = false := beq_eq_false_iff_ne.2 hk
    clear hk
    go_wp2_with fail
    go_ret
    exact ⟨ret_eq (by rw [HD.out]; rfl), HK.out⟩
  subst hk
  have he1 := HE1.out
  cases B1
  · go_wp2_with fail
    refine (he1 _ HK.out).mono ?_
    rintro e w1 ⟨rfl, q, rfl⟩
    go_wp2_with fail
    go_ret
    exact ⟨ret_eq (by simp), HK.out.drewN _⟩
  · go_wp2_with fail
    refine (he1 _ HK.out).mono ?_
    rintro e w1 ⟨rfl, q, rfl⟩
    have k9 : Kp Noone w0 (w0.drewN q) := (Kp.refl _ _).drewN q
    obtain ⟨z0, z1, z2⟩ := cells_3v (k9.heap hr1 id)
    obtain ⟨y0, y1, y2⟩ := cells_3v (k9.heap hr2 id)
    have he2 := HE2.out
    go_wp2_with fail
    refine (he2 _ (HK.out.trans k9)).mono ?_
    rintro e w2 ⟨rfl, q2, rfl⟩
    go_wp2_with fail
    go_ret
    exact ⟨ret_eq (by simp), HK.out.drewN _⟩

end Go.Proofs.YtgbgbokcohfnpaaGreat

/-
  WALKS: slices.Clone of commands and of ints; value.Clone.
-/
namespace Go.Proofs.YtgbgbokcohfnpaaGreat
open Go.RowKit

theorem frz {w : World} {g e : Nat} {cs : Array Value} (h : w.heap[g]? = some (.cells cs e (0, 0))) (i : Nat) : w.frozen? ⟨g, i, none⟩ = false := by simp [World.frozen?, h]
theorem ints_one9 (l : List Int) : ∀ u ∈ l.map (Value.int .i64), u.oneCell' = true := by
  intro u hu
  obtain ⟨x, -, rfl⟩ := List.mem_map.1 hu
  rfl
theorem Own.cs {F : Nat → Prop} {w : World} {e : Nat} {ao : Option Addr} {n cap : Nat} {cs : List CmdR} (h : Own F w e 8 ao n cap (cmdsV cs)) : CS w ao n cap cs :=
  ⟨by have := h.1; rw [length_cmdsV] at this; omega, h.2.1, h.2.2.1, h.row⟩
theorem Own.is9 {F : Nat → Prop} {w : World} {e : Nat} {ao : Option Addr} {n cap : Nat} {l : List Int} (h : Own F w e 1 ao n cap (l.map (Value.int .i64))) : IS w ao n cap l :=
  ⟨by have := h.1; simpa using this, h.2.1, h.2.2.1, h.row⟩
theorem CS.none {w : World} {n cap : Nat} {cs : List CmdR} (h : CS w none n cap cs) : n = 0 ∧ cs = [] := by
  rcases h.row with h0 | ⟨b, off, h1, -⟩
  · have h2 := congrArg List.length h0
    rw [length_cmdsV] at h2
    have h3 := h.len
    have h4 : cs = [] := List.eq_nil_of_length_eq_zero (by simp only [List.length_nil] at h2; omega)
    subst h4
    exact ⟨h3.symm, rfl⟩
  · cases h1
theorem IS.none {w : World} {n cap : Nat} {cs : List Int} (h : IS w none n cap cs) : n = 0 ∧ cs = [] := by
  rcases h.row with h0 | ⟨b, off, h1, -⟩
  · have h3 := h.len
    have h4 : cs = [] := by simpa using h0
    subst h4
    exact ⟨h3.symm, rfl⟩
  · cases h1
set_option maxHeartbeats 2000000 in
set_option maxRecDepth 100000 in
theorem cloneCmds_any (ao : Option Addr) (n cap : Nat) (cs : List CmdR) (w : World) (h : CS w ao n cap cs) (hn : n ≤ 4194304) :
    Calls Tryz.prog 94 #[.slice ao n cap] w fun e w' => ∃ bo c, e = .returned (.slice bo n c) ∧ Own (Ex Noone w w') w' 41 8 bo n c (cmdsV cs) ∧ Kp Noone w w' := by
  obtain ⟨i0, hi, hz0, hz1, hz2⟩ := info_parts (P := Tryz.prog) (e := 41) (z := .agg #[.int .i64 0, .int .i64 0, .int .i64 0, .int .i64 0, .int .i64 0, .int .i64 0, .int .i64 0, .int .i64 0]) (size := 8) (bytes := 64) (by kernel_rfl)
  have q22 : ∀ (w : World) (a : Option Addr) (n c n' c' : Nat), (binOp .eql 31 (.slice a n c) (.slice none n' c')).run Tryz.prog w = .ok (.bool a.isNone) w := fun w a n c n' c' => Lib.run_eql_slice_nil w _ _ a n c n' c' Tryz.underlying31
  cases ao with
  | none =>
    obtain ⟨rfl, rfl⟩ := h.none
    clear h hn
    go_enter Tryz.func94, Tryz.ntmps94
    go_wp2_with fail
    go_ret
    exact ⟨none, 0, rfl, Own.nil _ _ _ _ _, Kp.refl _ _⟩
  | some a =>
    have kE : Kp Noone w (w.alloc (.cells #[] 41)) := (Kp.refl _ _).alloc _
    have KE := Lib.hid kE
    have HROW := Lib.hid (h.keep kE).row
    have hlen : (cmdsV cs).length = n * 8 := by rw [length_cmdsV, h.len]
    clear h kE
    go_enter Tryz.func94, Tryz.ntmps94
    go_wp2_with (at_builtin; refine wpList_append_gen _ rfl (.tmp 5) (.tmp 6) 31 rfl 41 i0 (.agg #[.int .i64 0, .int .i64 0, .int .i64 0, .int .i64 0, .int .i64 0, .int .i64 0, .int .i64 0, .int .i64 0]) 8 64 Tryz.underlying31 hi hz0 hz1 hz2 rfl _ 0 0 rfl (some a) n cap rfl Noone [] (Own.nil _ _ _ _ _) (cmdsV cs) hlen HROW.out (cmdsV_one _) (by omega) (by unfold maxLen; omega) ?_)
    intro bo c w1 ho hk
    have HO : Hid (Own (Ex Noone w w1) w1 41 8 bo n c (cmdsV cs)) := Lib.hid (by
      have h2 := ho.mono (G := Ex Noone w w1) (fun x hx d => by
        have h3 := (Ex.none d)
        have h4 : (w.alloc (.cells #[] 41)).heap.size = w.heap.size + 1 := by simp
        exact Or.inr ⟨by omega, by omega⟩)
      simpa using h2)
    have HK := Lib.hid (KE.out.trans hk)
    clear ho hk HROW KE hlen
    go_wp2_with fail
    go_ret
    exact ⟨bo, c, by simp, HO.out, HK.out⟩
set_option maxHeartbeats 2000000 in
set_option maxRecDepth 100000 in
theorem cloneInts_any (ao : Option Addr) (n cap : Nat) (cs : List Int) (w : World) (h : IS w ao n cap cs) (hn : n ≤ 4194304) :
    Calls Tryz.prog 95 #[.slice ao n cap] w fun e w' => ∃ bo c, e = .returned (.slice bo n c) ∧ Own (Ex Noone w w') w' 3 1 bo n c (cs.map (Value.int .i64)) ∧ Kp Noone w w' := by
  obtain ⟨i0, hi, hz0, hz1, hz2⟩ := info_parts (P := Tryz.prog) (e := 3) (z := .int .i64 0) (size := 1) (bytes := 8) (by kernel_rfl)
  have q22 : ∀ (w : World) (a : Option Addr) (n c n' c' : Nat), (binOp .eql 32 (.slice a n c) (.slice none n' c')).run Tryz.prog w = .ok (.bool a.isNone) w := fun w a n c n' c' => Lib.run_eql_slice_nil w _ _ a n c n' c' Tryz.underlying32
  cases ao with
  | none =>
    obtain ⟨rfl, rfl⟩ := h.none
    clear h hn
    go_enter Tryz.func95, Tryz.ntmps95
    go_wp2_with fail
    go_ret
    exact ⟨none, 0, rfl, Own.nil _ _ _ _ _, Kp.refl _ _⟩
  | some a =>
    have kE : Kp Noone w (w.alloc (.cells #[] 3)) := (Kp.refl _ _).alloc _
    have KE := Lib.hid kE
    have HROW := Lib.hid (h.keep kE).row
    have hlen : (cs.map (Value.int .i64)).length = n * 1 := by rw [List.length_map, h.len, Nat.mul_one]
    clear h kE
    go_enter Tryz.func95, Tryz.ntmps95
    go_wp2_with (at_builtin; refine wpList_append_gen _ rfl (.tmp 5) (.tmp 6) 32 rfl 3 i0 (.int .i64 0) 1 8 Tryz.underlying32 hi hz0 hz1 hz2 rfl _ 0 0 rfl (some a) n cap rfl Noone [] (Own.nil _ _ _ _ _) (cs.map (Value.int .i64)) hlen HROW.out (ints_one9 _) (by omega) (by unfold maxLen; omega) ?_)
    intro bo c w1 ho hk
    have HO : Hid (Own (Ex Noone w w1) w1 3 1 bo n c (cs.map (Value.int .i64))) := Lib.hid (by
      have h2 := ho.mono (G := Ex Noone w w1) (fun x hx d => by
        have h3 := (Ex.none d)
        have h4 : (w.alloc (.cells #[] 3)).heap.size = w.heap.size + 1 := by simp
        exact Or.inr ⟨by omega, by omega⟩)
      simpa using h2)
    have HK := Lib.hid (KE.out.trans hk)
    clear ho hk HROW KE hlen
    go_wp2_with fail
    go_ret
    exact ⟨bo, c, by simp, HO.out, HK.out⟩
/-- A value whose two slices a call owns. -/
structure ValOwn (F : Nat → Prop) (w : World) (v : ValR) (l : VLoc) : Prop where
  cmds : Own F w 41 8 l.co v.cmds.length l.cc (cmdsV v.cmds)
  next : Own F w 3 1 l.no v.next.length l.nc (v.next.map (Value.int .i64))
theorem ValOwn.at {F : Nat → Prop} {w : World} {v : ValR} {l : VLoc} (h : ValOwn F w v l) : ValAt w v l := ⟨h.cmds.cs, h.next.is9⟩
theorem ValOwn.kp {F S : Nat → Prop} {w w' : World} {v : ValR} {l : VLoc} (h : ValOwn F w v l) (k : Kp S w w') (hd : ∀ j, F j → ¬ S j) : ValOwn F w' v l := ⟨h.cmds.kp k (fun j a => hd j a), h.next.kp k (fun j a => hd j a)⟩
theorem ValOwn.keep {F : Nat → Prop} {w w' : World} {v : ValR} {l : VLoc} (h : ValOwn F w v l) (k : Kp Noone w w') : ValOwn F w' v l := ⟨h.cmds.keep k, h.next.keep k⟩
theorem ValOwn.mono {F G : Nat → Prop} {w : World} {v : ValR} {l : VLoc} (h : ValOwn F w v l) (hg : ∀ k, k < w.heap.size → F k → G k) : ValOwn G w v l := ⟨h.cmds.mono hg, h.next.mono hg⟩
theorem ValOwn.zero (F : Nat → Prop) (w : World) : ValOwn F w val0 loc9 := ⟨Own.nil _ _ _ _ _, Own.nil _ _ _ _ _⟩
theorem own_late {wA wB w1 w2 wz : World} {e sz g : Nat} {o : Option Addr} {n c : Nat} {xs : List Value} (hg : g < wA.heap.size) (hB : wA.heap.size ≤ wB.heap.size) (h : Own (Ex Noone wB w1) w1 e sz o n c xs) (k : Kp Noone w1 w2) (hs : Kp (fun j => j = g) w2 wz) : Own (Ex Noone wA wz) wz e sz o n c xs := by
  have h1 := (h.keep k).kp hs (fun j d => by have := d.none; omega)
  exact h1.mono (fun j hj d => by
    have h2 := d.none
    have h3 := k.size
    have h4 := hs.size
    exact Or.inr ⟨by omega, by omega⟩)
theorem two_set {w : World} {g e : Nat} {a b c x y : Value} (h : w.heap[g]? = some (.cells #[a, b, c] e (0, 0))) : ((w.setCell ⟨g, 1, none⟩ x).setCell ⟨g, 2, none⟩ y).heap[g]? = some (.cells #[a, x, y] e (0, 0)) ∧ Kp (fun j => j = g) w ((w.setCell ⟨g, 1, none⟩ x).setCell ⟨g, 2, none⟩ y) :=
  ⟨(heap_set_cell (heap_set_cell h)).trans (by simp), ((Kp.refl (fun j => j = g) w).setCell (p := ⟨g, 1, none⟩) (fun _ => rfl) x).setCell (p := ⟨g, 2, none⟩) (fun _ => rfl) y⟩
theorem three_set {w : World} {g e : Nat} {a b c x y z : Value} (h : w.heap[g]? = some (.cells #[a, b, c] e (0, 0))) : (((w.setCell ⟨g, 0, none⟩ x).setCell ⟨g, 1, none⟩ y).setCell ⟨g, 2, none⟩ z).heap[g]? = some (.cells #[x, y, z] e (0, 0)) ∧ Kp (fun j => j = g) w (((w.setCell ⟨g, 0, none⟩ x).setCell ⟨g, 1, none⟩ y).setCell ⟨g, 2, none⟩ z) :=
  ⟨(heap_set_cell (heap_set_cell (heap_set_cell h))).trans (by simp), (((Kp.refl (fun j => j = g) w).setCell (p := ⟨g, 0, none⟩) (fun _ => rfl) x).setCell (p := ⟨g, 1, none⟩) (fun _ => rfl) y).setCell (p := ⟨g, 2, none⟩) (fun _ => rfl) z⟩
set_option maxHeartbeats 4000000 in
set_option maxRecDepth 100000 in
theorem cloneVal_any (v : ValR) (l : VLoc) (w : World) (h : ValAt w v l) (hb : v.cmds.length ≤ 4194304) (hb2 : v.next.length ≤ 4194304) :
    Calls Tryz.prog 46 #[valV v l] w fun e w' => ∃ m, e = .returned (valV v m) ∧ ValOwn (Ex Noone w w') w' v m ∧ Kp Noone w w' := by
  obtain ⟨k, cs, ns⟩ := v
  obtain ⟨co, cc, no, nc⟩ := l
  obtain ⟨hc, hn⟩ := h
  simp only [] at hc hn hb hb2
  have hx := heap_alloc_new w (.cells #[.int .i64 k, .slice co cs.length cc, .slice no ns.length nc] 34)
  have K1 : Kp Noone w (w.alloc (.cells #[.int .i64 k, .slice co cs.length cc, .slice no ns.length nc] 34)) := (Kp.refl _ _).alloc _
  have hr := heap_alloc_new (w.alloc (.cells #[.int .i64 k, .slice co cs.length cc, .slice no ns.length nc] 34)) (.cells #[.int .i64 0, .slice none 0 0, .slice none 0 0] 34)
  have K2 : Kp Noone (w.alloc (.cells #[.int .i64 k, .slice co cs.length cc, .slice no ns.length nc] 34)) ((w.alloc (.cells #[.int .i64 k, .slice co cs.length cc, .slice no ns.length nc] 34)).alloc (.cells #[.int .i64 0, .slice none 0 0, .slice none 0 0] 34)) := (Kp.refl _ _).alloc _
  have hz : (w.alloc (.cells #[.int .i64 k, .slice co cs.length cc, .slice no ns.length nc] 34)).heap.size = w.heap.size + 1 := by simp
  have hz2 : ((w.alloc (.cells #[.int .i64 k, .slice co cs.length cc, .slice no ns.length nc] 34)).alloc (.cells #[.int .i64 0, .slice none 0 0, .slice none 0 0] 34)).heap.size = w.heap.size + 2 := by simp
  rw [hz] at hr
  have hx := K2.heap hx id
  have HK := Lib.hid (K1.trans K2)
  have HC := Lib.hid (fun W (kk : Kp Noone w W) => cloneCmds_any co cs.length cc cs W (hc.keep kk) hb)
  have HN := Lib.hid (fun W (kk : Kp Noone w W) => cloneInts_any no ns.length nc ns W (hn.keep kk) hb2)
  unfold valV
  simp only []
  clear K1 K2 hz hc hn
  go_enter Tryz.func46, Tryz.ntmps46
  go_upto_region 1 with fail
  generalize (w.alloc (.cells #[.int .i64 k, .slice co cs.length cc, .slice no ns.length nc] 34)).alloc (.cells #[.int .i64 0, .slice none 0 0, .slice none 0 0] 34) = wA at *
  generalize hgs : w.heap.size = g at *
  have HZ := Lib.hid hz2
  have HGS := Lib.hid hgs
  have HX := Lib.hid hx
  clear hgs hz2
  have k0 : Kp Noone wA wA.drew := (Kp.refl _ _).drew
  obtain ⟨y0, y1, y2⟩ := cells_3v (k0.heap hx id)
  obtain ⟨z0, z1, z2⟩ := cells_3v hx
  apply wp_region_four (G := fun o1 c1 o2 c2 wz => wz.heap[g]? = some (.cells #[.int .i64 k, .slice o1 cs.length c1, .slice o2 ns.length c2] 34 (0, 0)) ∧ Own (Ex Noone wA wz) wz 41 8 o1 cs.length c1 (cmdsV cs) ∧ Own (Ex Noone wA wz) wz 3 1 o2 ns.length c2 (ns.map (Value.int .i64)) ∧ Kp (fun j => j = g) wA wz)
  case h =>
    go_region_law (first
          | (go_simp; go_at_call 94; refine (HC.out _ (HK.out.trans k0)).mono ?_; rintro e w1 ⟨o1, c1, rfl, hO1, k1⟩; have k0 := k0.trans k1; obtain ⟨y0, y1, y2⟩ := cells_3v (k0.heap hx id))
          | (go_simp; go_at_call 95; refine (HN.out _ (HK.out.trans k0)).mono ?_; rintro e w2 ⟨o2, c2, rfl, hO2, k2⟩; have k0 := k0.trans k2; obtain ⟨y0, y1, y2⟩ := cells_3v (k0.heap hx id); have yf := frz (k0.heap hx id); have yf1 := yf 1; have yf2 := yf 2))
    all_goals (
      have hts := two_set (x := .slice o1 cs.length c1) (y := .slice o2 ns.length c2) (k0.heap hx id)
      refine NoPanic.normal ⟨rfl, o1, c1, o2, c2, rfl, ?_⟩
      exact ⟨hts.1, own_late (by have := HZ.out; omega) (Nat.le_refl _) hO1 k2 hts.2, own_late (by have := HZ.out; omega) k1.size hO2 (Kp.refl _ _) hts.2, k0.none.trans hts.2⟩)
  case k =>
    intro o1 c1 o2 c2 w2 hG
    obtain ⟨hx2, hO1, hO2, k2⟩ := hG
    obtain ⟨x0, x1, x2⟩ := cells_3v hx2
    have hr2 := k2.heap hr (by omega)
    obtain ⟨u0, u1, u2⟩ := cells_3v hr2
    have uf := frz hr2
    have uf0 := uf 0
    have uf1 := uf 1
    have uf2 := uf 2
    have hts := three_set (x := .int .i64 k) (y := .slice o1 cs.length c1) (z := .slice o2 ns.length c2) hr2
    have HT := Lib.hid hts
    have HF : Hid (Own (Ex Noone w (((w2.setCell ⟨g + 1, 0, none⟩ (.int .i64 k)).setCell ⟨g + 1, 1, none⟩ (.slice o1 cs.length c1)).setCell ⟨g + 1, 2, none⟩ (.slice o2 ns.length c2))) (((w2.setCell ⟨g + 1, 0, none⟩ (.int .i64 k)).setCell ⟨g + 1, 1, none⟩ (.slice o1 cs.length c1)).setCell ⟨g + 1, 2, none⟩ (.slice o2 ns.length c2)) 41 8 o1 cs.length c1 (cmdsV cs) ∧ Own (Ex Noone w (((w2.setCell ⟨g + 1, 0, none⟩ (.int .i64 k)).setCell ⟨g + 1, 1, none⟩ (.slice o1 cs.length c1)).setCell ⟨g + 1, 2, none⟩ (.slice o2 ns.length c2))) (((w2.setCell ⟨g + 1, 0, none⟩ (.int .i64 k)).setCell ⟨g + 1, 1, none⟩ (.slice o1 cs.length c1)).setCell ⟨g + 1, 2, none⟩ (.slice o2 ns.length c2)) 3 1 o2 ns.length c2 (ns.map (Value.int .i64)) ∧ Kp Noone w (((w2.setCell ⟨g + 1, 0, none⟩ (.int .i64 k)).setCell ⟨g + 1, 1, none⟩ (.slice o1 cs.length c1)).setCell ⟨g + 1, 2, none⟩ (.slice o2 ns.length c2))) := Lib.hid (by
      have h1 := HZ.out
      have h2 := HGS.out
      have h3 := HK.out.size
      have h4 := k2.size
      have h5 := hts.2.size
      refine ⟨(hO1.kp hts.2 (fun j d => by have := d.none; omega)).mono (fun j hj d => ?_), (hO2.kp hts.2 (fun j d => by have := d.none; omega)).mono (fun j hj d => ?_), ?_⟩
      · have := d.none
        exact Or.inr ⟨by omega, by omega⟩
      · have := d.none
        exact Or.inr ⟨by omega, by omega⟩
      · exact HK.out.fin ((k2.mono (T := fun j => j = g ∨ j = g + 1) (fun _ _ e => Or.inl e)).trans' (T := fun j => j = g + 1) hts.2 (fun j _ e => Or.inr e)) (fun j e => Or.inr (by omega)))
    clear hts hO1 hO2 k2 hx2 HC HN HK HX k0 y0 y1 y2 z0 z1 z2 hx hr hr2 uf
    go_wp2_with fail
    refine bodyPost_ret (results_cell_row (p := 2) (ty := 34) rfl _ _ (g + 1) 34 _ (0, 0) _ (by rfl) HT.out.1 Tryz.underlying34 rfl (by kernel_rfl)) rfl ?_
    exact ⟨⟨o1, c1, o2, c2⟩, rfl, ⟨HF.out.1, HF.out.2.1⟩, HF.out.2.2⟩

end Go.Proofs.YtgbgbokcohfnpaaGreat
