/-
  The texts AccGet2, AccGet3, ReadOpA, AccLaw0 in one: what the claim reaches of them.
-/
import Derived.Test.YtgbgbokcohfnpaaGreatP30
import Derived.Test.YtgbgbokcohfnpaaGreatP02
import Derived.Test.YtgbgbokcohfnpaaGreatP16
import Derived.Test.YtgbgbokcohfnpaaGreatP18
import Derived.Test.YtgbgbokcohfnpaaGreatP17
import Derived.Test.YtgbgbokcohfnpaaGreatP19
/-
  WALKS of small readers: the document's Same of values and of votes; CheckVotes, Sound.
-/
namespace Go.Proofs.YtgbgbokcohfnpaaGreat
open Go.RowKit

set_option maxHeartbeats 4000000 in
set_option maxRecDepth 100000 in
theorem refSameV_any (v u : ValR) (l m : VLoc) (w : World) (h : ValAt w v l) (h2 : ValAt w u m) (hb : v.cmds.length ≤ 4194304) (hb2 : v.next.length ≤ 4194304) :
    Calls Tryz.prog 27 #[valV v l, valV u m] w fun e w' => e = .returned (.bool (decide (v = u))) ∧ Kp Noone w w' := by
  obtain ⟨k, cs, ns⟩ := v
  obtain ⟨co, cc, no, nc⟩ := l
  obtain ⟨k2, cs2, ns2⟩ := u
  obtain ⟨co2, cc2, no2, nc2⟩ := m
  obtain ⟨hc, hn⟩ := h
  obtain ⟨hc2, hn2⟩ := h2
  simp only [] at hc hn hc2 hn2 hb hb2
  obtain ⟨n, hcn⟩ : ∃ n, cs.length = n := ⟨_, rfl⟩
  obtain ⟨n2, hcn2⟩ : ∃ n, cs2.length = n := ⟨_, rfl⟩
  unfold valV
  simp only []
  rw [hcn] at hc hb ⊢
  rw [hcn2] at hc2 ⊢
  obtain ⟨hr1, hr2, k0, -⟩ := two_new w (.cells #[.int .i64 k, .slice co n cc, .slice no ns.length nc] 34) (.cells #[.int .i64 k2, .slice co2 n2 cc2, .slice no2 ns2.length nc2] 34)
  have HK := Lib.hid k0
  have HC := Lib.hid (fun W (kk : Kp Noone w W) => And.intro (hc.keep kk) (hc2.keep kk))
  have HE2 := Lib.hid (fun W (kk : Kp Noone w W) => refInts_any no no2 ns.length ns2.length nc nc2 ns ns2 W (hn.keep kk) (hn2.keep kk) hb2)
  have HLN := Lib.hid (And.intro hcn (And.intro hcn2 hb))
  have HR : Hid (decide ((⟨k, cs, ns⟩ : ValR) = ⟨k2, cs2, ns2⟩) = (decide (k = k2) && (decide (cs = cs2) && decide (ns = ns2)))) := Lib.hid (by
    rw [Bool.eq_iff_iff]
    simp [ValR.mk.injEq])
  rw [HR.out]
  clear k0 hc hn hc2 hn2 hcn hcn2 hb hb2
  generalize decide (ns = ns2) = B2 at *
  go_enter Tryz.func27, Tryz.ntmps27
  go_upto_region 1 with fail
  generalize (w.alloc (.cells #[.int .i64 k, .slice co n cc, .slice no ns.length nc] 34)).alloc (.cells #[.int .i64 k2, .slice co2 n2 cc2, .slice no2 ns2.length nc2] 34) = w0 at *
  generalize w.heap.size = g at *
  clear HR
  have HX1 := Lib.hid hr1
  have HX2 := Lib.hid hr2
  obtain ⟨z0, z1, z2⟩ := cells_3v hr1
  obtain ⟨y0, y1, y2⟩ := cells_3v hr2
  clear hr1 hr2
  by_cases hk : k = k2
  case neg =>
    have HD : Hid (decide (k = k2) = false) := Lib.hid (decide_eq_false hk)
    have hq : (k != k2) = true := by simp only [bne_iff_ne, ne_eq]; exact hk
    clear hk
    go_wp2_with fail
    go_ret
    exact ⟨ret_eq (by rw [HD.out]; rfl), HK.out⟩
  subst hk
  by_cases hnm : n = n2
  case neg =>
    have HD : Hid (decide (cs = cs2) = false) := Lib.hid (decide_eq_false (fun e => hnm (by rw [← HLN.out.1, ← HLN.out.2.1, e])))
    have hq : ((n : Int) != (n2 : Int)) = true := by simp only [bne_iff_ne, ne_eq]; omega
    clear hnm
    go_wp2_with fail
    go_ret
    exact ⟨ret_eq (by rw [HD.out]; simp), HK.out⟩
  subst hnm
  have he2 := HE2.out
  cases B2
  · go_wp2_with fail
    refine (he2 _ HK.out).mono ?_
    rintro e w1 ⟨rfl, q, rfl⟩
    go_wp2_with fail
    go_ret
    exact ⟨ret_eq (by simp), HK.out.drewN _⟩
  · go_wp2_with fail
    refine (he2 _ HK.out).mono ?_
    clear he2
    rintro e w1 ⟨rfl, q, rfl⟩
    have k9 : Kp Noone w0 (w0.drewN q) := (Kp.refl _ _).drewN q
    have HX1 := Lib.hid (k9.heap HX1.out id)
    have HX2 := Lib.hid (k9.heap HX2.out id)
    have HK1 := Lib.hid (HK.out.trans k9)
    obtain ⟨z0, z1, z2⟩ := cells_3v HX1.out
    obtain ⟨y0, y1, y2⟩ := cells_3v HX2.out
    generalize w0.drewN q = w1 at *
    clear k9
    go_wp2_with fail
    clear z0 z1 z2 y0 y1 y2
    go_loopw [31] (fun v31 wx => ∃ j : Nat, v31 = .int .i64 (j : Int) ∧ j ≤ n ∧ Hid (cs.take j = cs2.take j) ∧ Hid (∃ q, wx = w1.drewN q)) (fun u _ => (4194305 - intOf u).toNat)
    case atStart => exact ⟨0, rfl, Nat.zero_le _, Lib.hid rfl, Lib.hid ⟨0, rfl⟩⟩
    case round =>
      obtain ⟨j, rfl, hj, htk, hq⟩ := hrel
      by_cases hlt : j < n
      · have hltz : (j : Int) < (n : Int) := by omega
        have hwj : IntKind.i64.wrap ((j : Int) + 1) = (j : Int) + 1 := IntWalk.i64_in _ (by have := HLN.out.2.2; omega)
        have hk : Kp Noone w1 wr := by obtain ⟨q, rfl⟩ := hq.out; exact (Kp.refl _ _).drewN q
        obtain ⟨z0, z1, z2⟩ := cells_3v (hk.heap HX1.out id)
        obtain ⟨y0, y1, y2⟩ := cells_3v (hk.heap HX2.out id)
        obtain ⟨b1, o1, l1, e1, -, ⟨x0, x1, x2, x3, x4, x5, x6, x7⟩⟩ := (HC.out _ (HK1.out.trans hk)).1.at hlt
        obtain ⟨b2, o2, l2, e2, -, ⟨v0, v1, v2, v3, v4, v5, v6, v7⟩⟩ := (HC.out _ (HK1.out.trans hk)).2.at hlt
        have HT := Lib.hid (fun he => take_eq_succ (l := cs) (m := cs2) l1 l2 htk.out he)
        have HN := Lib.hid (fun he => take_ne (l := cs) (m := cs2) l1 l2 he)
        generalize cs[j] = c at *
        generalize cs2[j] = d at *
        obtain ⟨s, q, a, k5, r, t, nn, mm⟩ := c
        obtain ⟨s2, q2, a2, k2, r2, t2, n2, m2⟩ := d
        simp only [] at x0 x1 x2 x3 x4 x5 x6 x7 v0 v1 v2 v3 v4 v5 v6 v7
        subst e1 e2
        clear z0 z2 y0 y2
        by_cases he : (⟨s, q, a, ⟨k5, r, t, nn, mm⟩⟩ : CmdR) = ⟨s2, q2, a2, ⟨k2, r2, t2, n2, m2⟩⟩
        · have HT2 := Lib.hid (HT.out he)
          simp only [CmdR.mk.injEq, OpV.mk.injEq] at he
          obtain ⟨rfl, rfl, rfl, rfl, rfl, rfl, rfl, rfl⟩ := he
          clear hk
          go_wp2_with fail
          go_quiet (fail)
          go_wp2_with fail
          go_roundw
          case rel => exact ⟨j + 1, rfl, hlt, HT2, Lib.hid (by obtain ⟨q, rfl⟩ := hq.out; exact ⟨_, World.drewN_drewN _ _ _⟩)⟩
          case measure => exact meas_small j n hlt HLN.out.2.2
        · have HD : Hid (decide (cs = cs2) = false) := Lib.hid (decide_eq_false (HN.out he))
          clear hk
          rcases cmd_diff he with c | ⟨rfl, c | ⟨rfl, c | ⟨rfl, c | ⟨rfl, c | ⟨rfl, c | ⟨rfl, c | ⟨rfl, c⟩⟩⟩⟩⟩⟩⟩
          all_goals (
            have hq3 := beq_eq_false_iff_ne.2 c
            clear c he
            go_wp2_with fail
            go_quiet (fail)
            go_wp2_with fail
            go_ret
            exact ⟨ret_eq (by rw [HD.out]; simp), by obtain ⟨q, rfl⟩ := hq.out; exact (HK1.out.drewN _).drewN _⟩)
      · obtain rfl : j = n := by omega
        have HD : Hid (decide (cs = cs2) = true) := Lib.hid (decide_eq_true (by
          have := htk.out
          rwa [List.take_of_length_le (by rw [HLN.out.1]; exact Nat.le_refl _), List.take_of_length_le (by rw [HLN.out.2.1]; exact Nat.le_refl _)] at this))
        clear hlt
        go_wp2_with fail
        go_ret
        exact ⟨ret_eq (by rw [HD.out]; simp), by obtain ⟨q, rfl⟩ := hq.out; exact HK1.out.drewN _⟩

/-! ### A row of votes -/

structure VRow (w : World) (ao : Option Addr) (n cap : Nat) (M : List VoteL) : Prop where
  len : M.length = n
  le : n ≤ cap
  max : cap ≤ maxLen
  row : Row w ao (votesV M)
  vals : ∀ p ∈ M, ValAt w p.1.val p.2
theorem VRow.keep {w w' : World} {ao : Option Addr} {n cap : Nat} {M : List VoteL} (h : VRow w ao n cap M) (k : Kp Noone w w') : VRow w' ao n cap M :=
  ⟨h.len, h.le, h.max, h.row.keep k, fun p hp => (h.vals p hp).keep k⟩
theorem VRow.at {w : World} {ao : Option Addr} {n cap : Nat} {M : List VoteL} (h : VRow w ao n cap M) {k : Nat} (hk : k < n) : ∃ b off, ∃ hl : k < M.length, ao = some ⟨b, off, none⟩ ∧ Cells6o w b (off + k * 6) M[k] ∧ ValAt w M[k].1.val M[k].2 := by
  have hl : k < M.length := by have := h.len; omega
  obtain ⟨b, off, e, hc⟩ := h.row.vote hl
  exact ⟨b, off, hl, e, hc, h.vals _ (List.getElem_mem hl)⟩
theorem VRow.own {F : Nat → Prop} {w : World} {T : TypeId} {ao : Option Addr} {n cap : Nat} {M : List VoteL} (h : Own F w T 6 ao n cap (votesV M)) (hv : ∀ p ∈ M, ValAt w p.1.val p.2) : VRow w ao n cap M := by
  have hl := h.1
  rw [length_votesV] at hl
  exact ⟨by omega, h.2.1, h.2.2.1, h.row, hv⟩
/-- A row of votes of small values. -/
def Small9 (M : List VoteL) : Prop := ∀ p ∈ M, p.1.val.cmds.length ≤ 4194304 ∧ p.1.val.next.length ≤ 4194304
theorem bal_diff {r n r2 n2 : Int} (h : (⟨r, n⟩ : BalR) ≠ ⟨r2, n2⟩) : r ≠ r2 ∨ (r = r2 ∧ n ≠ n2) := by
  by_cases h1 : r = r2
  · exact Or.inr ⟨h1, fun e => h (by rw [h1, e])⟩
  · exact Or.inl h1
end Go.Proofs.YtgbgbokcohfnpaaGreat

/-
  WALKS: the document's SameVotes; CheckVotes, Sound.
-/
namespace Go.Proofs.YtgbgbokcohfnpaaGreat
open Go.RowKit

theorem take_map_succ {L K : List VoteL} {j : Nat} (h1 : j < L.length) (h2 : j < K.length) (h : (L.take j).map (·.1) = (K.take j).map (·.1)) (he : L[j].1 = K[j].1) : (L.take (j + 1)).map (·.1) = (K.take (j + 1)).map (·.1) := by
  rw [List.take_succ_eq_append_getElem h1, List.take_succ_eq_append_getElem h2, List.map_append, List.map_append, h]
  simp [he]
theorem map_ne9 {L K : List VoteL} {j : Nat} (h1 : j < L.length) (h2 : j < K.length) (he : L[j].1 ≠ K[j].1) : L.map (·.1) ≠ K.map (·.1) := fun e => by
  have : (L.map (·.1))[j]? = (K.map (·.1))[j]? := by rw [e]
  simp [h1, h2] at this
  exact he this
theorem meas_tera (j n : Nat) (h : j < n) (hn : n ≤ 1099511627776) : (1099511627777 - ((j : Int) + 1)).toNat < (1099511627777 - (j : Int)).toNat := by omega
set_option maxHeartbeats 4000000 in
set_option maxRecDepth 100000 in
theorem sameVotes_any (ao bo : Option Addr) (n m cap cap2 : Nat) (L K : List VoteL) (w : World) (h : VRow w ao n cap L) (h2 : VRow w bo m cap2 K) (hs : Small9 L) (hn : n ≤ 1099511627776) :
    Calls Tryz.prog 18 #[.slice ao n cap, .slice bo m cap2] w fun e w' => e = .returned (.bool (decide (L.map (·.1) = K.map (·.1)))) ∧ Kp Noone w w' := by
  have hl := h.len
  have hl2 := h2.len
  have H := Lib.hid h
  have H2 := Lib.hid h2
  have HS := Lib.hid hs
  clear h h2 hs
  by_cases hnm : n = m
  case neg =>
    have HR : Hid (decide (L.map (·.1) = K.map (·.1)) = false) := Lib.hid (decide_eq_false (fun e => hnm (by
      have := congrArg List.length e
      rw [List.length_map, List.length_map] at this
      omega)))
    have hq : ((n : Int) != (m : Int)) = true := by simp only [bne_iff_ne, ne_eq]; omega
    rw [HR.out]
    clear hnm hl hl2
    go_enter Tryz.func18, Tryz.ntmps18
    go_wp2_with fail
    go_ret
    exact ⟨rfl, Kp.refl _ _⟩
  subst hnm
  have HL := Lib.hid hl
  have HL2 := Lib.hid hl2
  obtain ⟨B9, hB9⟩ : ∃ B9, Hid (decide (L.map (·.1) = K.map (·.1)) = B9) := ⟨_, Lib.hid rfl⟩
  rw [hB9.out]
  clear hl hl2
  go_enter Tryz.func18, Tryz.ntmps18
  go_wp2_with fail
  go_loopw [13] (fun v13 wx => ∃ j : Nat, v13 = .int .i64 (j : Int) ∧ j ≤ n ∧ Hid ((L.take j).map (·.1) = (K.take j).map (·.1)) ∧ Hid (Kp Noone w wx)) (fun u _ => (1099511627777 - intOf u).toNat)
  case atStart => exact ⟨0, rfl, Nat.zero_le _, Lib.hid rfl, Lib.hid (Kp.refl _ _)⟩
  case round =>
    obtain ⟨j, rfl, hj, htk, hq⟩ := hrel
    by_cases hlt : j < n
    · have hltz : (j : Int) < (n : Int) := by omega
      have hwj : IntKind.i64.wrap ((j : Int) + 1) = (j : Int) + 1 := IntWalk.i64_in _ (by omega)
      have HCE : Hid (∀ W, Kp Noone wr W → Kp Noone w W) := Lib.hid (fun W kk => hq.out.trans kk)
      obtain ⟨b1, o1, l1, e1, -, -⟩ := H.out.at hlt
      obtain ⟨b2, o2, l2, e2, -, -⟩ := H2.out.at hlt
      have HT := Lib.hid (fun he => take_map_succ (L := L) (K := K) l1 l2 htk.out he)
      have HN := Lib.hid (fun he => map_ne9 (L := L) (K := K) l1 l2 he)
      have HC1 : Hid (∀ W, Kp Noone wr W → Cells6o W b1 (o1 + j * 6) L[j] ∧ ValAt W L[j].1.val L[j].2) := Lib.hid (fun W kk => by
        obtain ⟨b, o, l, e, c, v⟩ := (H.out.keep (hq.out.trans kk)).at hlt
        rw [e1] at e
        cases e
        exact ⟨c, v⟩)
      have HC2 : Hid (∀ W, Kp Noone wr W → Cells6o W b2 (o2 + j * 6) K[j] ∧ ValAt W K[j].1.val K[j].2) := Lib.hid (fun W kk => by
        obtain ⟨b, o, l, e, c, v⟩ := (H2.out.keep (hq.out.trans kk)).at hlt
        rw [e2] at e
        cases e
        exact ⟨c, v⟩)
      have HSM := Lib.hid (HS.out _ (List.getElem_mem l1))
      generalize L[j] = x at *
      generalize K[j] = y at *
      obtain ⟨⟨s1, ⟨r1, d1⟩, v1⟩, m1⟩ := x
      obtain ⟨⟨s2, ⟨r2, d2⟩, v2⟩, m2⟩ := y
      simp only [] at HC1 HC2 HT HN HSM
      obtain ⟨⟨x0, x1, x2, x3, x4, x5⟩, -⟩ := HC1.out _ (Kp.refl _ _)
      obtain ⟨⟨y0, y1, y2, y3, y4, y5⟩, -⟩ := HC2.out _ (Kp.refl _ _)
      simp only [] at x0 x1 x2 x3 x4 x5 y0 y1 y2 y3 y4 y5
      subst e1 e2
      by_cases he1 : s1 = s2
      case neg =>
        have HR : Hid (B9 = false) := Lib.hid (by rw [← hB9.out]; exact decide_eq_false (HN.out (fun e => he1 (by cases e; rfl))))
        have hq3 : (s1 != s2) = true := by simp only [bne_iff_ne, ne_eq]; exact he1
        clear he1
        go_wp2_with fail
        go_quiet (fail)
        go_wp2_with fail
        go_ret
        exact ⟨ret_eq (by rw [HR.out]; rfl), HCE.out _ ((Kp.refl _ _).drewN _)⟩
      subst he1
      by_cases he2 : (⟨r1, d1⟩ : BalR) = ⟨r2, d2⟩
      case neg =>
        have HR : Hid (B9 = false) := Lib.hid (by rw [← hB9.out]; exact decide_eq_false (HN.out (fun e => he2 (by cases e; rfl))))
        rcases bal_diff he2 with c | ⟨rfl, c⟩
        all_goals (
          have hq3 := beq_eq_false_iff_ne.2 c
          clear c he2
          go_wp2_with fail
          go_quiet (fail)
          go_wp2_with fail
          go_ret
          exact ⟨ret_eq (by rw [HR.out]; rfl), HCE.out _ ((Kp.refl _ _).drewN _)⟩)
      cases he2
      have kd : Kp Noone wr wr.drew := (Kp.refl _ _).drew
      have hsv := fun W (kk : Kp Noone wr W) => refSameV_any v1 v2 m1 m2 W (HC1.out W kk).2 (HC2.out W kk).2 HSM.out.1 HSM.out.2
      unfold valV at hsv
      obtain ⟨C9, hC9⟩ : ∃ C9, Hid (decide (v1 = v2) = C9) := ⟨_, Lib.hid rfl⟩
      rw [hC9.out] at hsv
      have HSX : Hid (∀ W, Kp Noone wr W → ((W.cell? ⟨b1, o1 + j * 6 + 3, none⟩ = some (.int .i64 v1.kind) ∧ W.cell? ⟨b1, o1 + j * 6 + 4, none⟩ = some (.slice m1.co v1.cmds.length m1.cc) ∧ W.cell? ⟨b1, o1 + j * 6 + 5, none⟩ = some (.slice m1.no v1.next.length m1.nc)) ∧ (W.cell? ⟨b2, o2 + j * 6 + 3, none⟩ = some (.int .i64 v2.kind) ∧ W.cell? ⟨b2, o2 + j * 6 + 4, none⟩ = some (.slice m2.co v2.cmds.length m2.cc) ∧ W.cell? ⟨b2, o2 + j * 6 + 5, none⟩ = some (.slice m2.no v2.next.length m2.nc))) ∧ (W.cell? ⟨b1, o1 + j * 6, none⟩ = some (.int .i64 s1) ∧ W.cell? ⟨b1, o1 + j * 6 + 1, none⟩ = some (.int .i64 r1) ∧ W.cell? ⟨b1, o1 + j * 6 + 2, none⟩ = some (.int .i64 d1)) ∧ W.cell? ⟨b2, o2 + j * 6, none⟩ = some (.int .i64 s1) ∧ W.cell? ⟨b2, o2 + j * 6 + 1, none⟩ = some (.int .i64 r1) ∧ W.cell? ⟨b2, o2 + j * 6 + 2, none⟩ = some (.int .i64 d1)) := Lib.hid (fun W kk => by
        obtain ⟨⟨x0, x1, x2, x3, x4, x5⟩, -⟩ := HC1.out _ kk
        obtain ⟨⟨y0, y1, y2, y3, y4, y5⟩, -⟩ := HC2.out _ kk
        exact ⟨⟨⟨x3, x4, x5⟩, y3, y4, y5⟩, ⟨x0, x1, x2⟩, y0, y1, y2⟩)
      have hS1 := HSX.out _ kd
      clear x0 x1 x2 x3 x4 x5 y0 y1 y2 y3 y4 y5
      obtain ⟨⟨⟨x3, x4, x5⟩, y3, y4, y5⟩, ⟨x0, x1, x2⟩, y0, y1, y2⟩ := HSX.out _ kd
      go_upto_region 6 with fail
      go_region_held3 (fun W => ((W.cell? ⟨b1, o1 + j * 6 + 3, none⟩ = some (.int .i64 v1.kind) ∧ W.cell? ⟨b1, o1 + j * 6 + 4, none⟩ = some (.slice m1.co v1.cmds.length m1.cc) ∧ W.cell? ⟨b1, o1 + j * 6 + 5, none⟩ = some (.slice m1.no v1.next.length m1.nc)) ∧ (W.cell? ⟨b2, o2 + j * 6 + 3, none⟩ = some (.int .i64 v2.kind) ∧ W.cell? ⟨b2, o2 + j * 6 + 4, none⟩ = some (.slice m2.co v2.cmds.length m2.cc) ∧ W.cell? ⟨b2, o2 + j * 6 + 5, none⟩ = some (.slice m2.no v2.next.length m2.nc))) ∧ (W.cell? ⟨b1, o1 + j * 6, none⟩ = some (.int .i64 s1) ∧ W.cell? ⟨b1, o1 + j * 6 + 1, none⟩ = some (.int .i64 r1) ∧ W.cell? ⟨b1, o1 + j * 6 + 2, none⟩ = some (.int .i64 d1)) ∧ W.cell? ⟨b2, o2 + j * 6, none⟩ = some (.int .i64 s1) ∧ W.cell? ⟨b2, o2 + j * 6 + 1, none⟩ = some (.int .i64 r1) ∧ W.cell? ⟨b2, o2 + j * 6 + 2, none⟩ = some (.int .i64 d1))
        (first | with_reducible exact hS1 | with_reducible exact HSX.out _ kk)
        (first | (go_at_call 27; refine (hsv _ kd).mono ?_; rintro e w3 ⟨rfl, k1⟩; have kk := kd.trans k1; clear k1))
      have HKK := Lib.hid kk
      clear kd kk hsv hS1 x0 x1 x2 x3 x4 x5 y0 y1 y2 y3 y4 y5
      cases C9 with
      | false =>
        have HR : Hid (B9 = false) := Lib.hid (by rw [← hB9.out]; exact decide_eq_false (HN.out (fun e => of_decide_eq_false hC9.out (by cases e; rfl))))
        go_wp2_with fail
        go_ret
        exact ⟨ret_eq (by rw [HR.out]; rfl), HCE.out _ HKK.out⟩
      | true =>
        have HT2 := Lib.hid (HT.out (by rw [of_decide_eq_true hC9.out]))
        have HKW := Lib.hid (HCE.out _ HKK.out)
        go_wp2_with fail
        go_roundw
        case rel => exact ⟨j + 1, rfl, hlt, HT2, HKW⟩
        case measure => exact meas_tera j n hlt hn
    · obtain rfl : j = n := by omega
      have HR : Hid (B9 = true) := Lib.hid (by
        rw [← hB9.out]
        refine decide_eq_true ?_
        have := htk.out
        rwa [List.take_of_length_le (by rw [HL.out]; exact Nat.le_refl _), List.take_of_length_le (by rw [HL2.out]; exact Nat.le_refl _)] at this)
      clear hlt
      go_wp2_with fail
      go_ret
      exact ⟨ret_eq (by rw [HR.out]; rfl), hq.out⟩
end Go.Proofs.YtgbgbokcohfnpaaGreat

/-
  HOW A SCRIPT OF synodlaw14.Op READS, with what its slices weigh.
-/
namespace Go.Proofs.YtgbgbokcohfnpaaGreat
open Go.ChangeShapes Go.WideShapes Go.ChangeAt Go.RowKit Go.Deep

theorem trod_3f {H : Type} {enc : TypeId × Value → H} {P : Program} {w : World} {base : Nat} {spare : Nat → Bool} {held : Bool} {t : TypeId} {f0 f1 f2 : Field} {fuel : Nat} {cs : List Value} {x : DataW H × List MemPlace} (ht : P.underlying t = some (.struct #[f0, f1, f2])) (h : DataW.trod enc P w base spare held fuel t cs = some x) :
    ∃ y0 y1 y2 n, x = (.agg [y0.1, y1.1, y2.1], y0.2 ++ (y1.2 ++ y2.2)) ∧ cs.length = P.cellsOf t ∧ DataW.trod enc P w base spare held n f0.type ((cs.drop f0.offset).take (P.cellsOf f0.type)) = some y0 ∧ DataW.trod enc P w base spare held n f1.type ((cs.drop f1.offset).take (P.cellsOf f1.type)) = some y1 ∧ DataW.trod enc P w base spare held n f2.type ((cs.drop f2.offset).take (P.cellsOf f2.type)) = some y2 := by
  obtain ⟨xs, n, _, rfl, hl, hlen, hf⟩ := DataW.trod_struct ht h
  match xs, hlen with
  | [y0, y1, y2], _ => exact ⟨y0, y1, y2, n, by simp, hl, by simpa using hf 0 f0 rfl, by simpa using hf 1 f1 rfl, by simpa using hf 2 f2 rfl⟩
theorem trod_5f {H : Type} {enc : TypeId × Value → H} {P : Program} {w : World} {base : Nat} {spare : Nat → Bool} {held : Bool} {t : TypeId} {f0 f1 f2 f3 f4 : Field} {fuel : Nat} {cs : List Value} {x : DataW H × List MemPlace} (ht : P.underlying t = some (.struct #[f0, f1, f2, f3, f4])) (h : DataW.trod enc P w base spare held fuel t cs = some x) :
    ∃ y0 y1 y2 y3 y4 n, cs.length = P.cellsOf t ∧ DataW.trod enc P w base spare held n f0.type ((cs.drop f0.offset).take (P.cellsOf f0.type)) = some y0 ∧ DataW.trod enc P w base spare held n f1.type ((cs.drop f1.offset).take (P.cellsOf f1.type)) = some y1 ∧ DataW.trod enc P w base spare held n f2.type ((cs.drop f2.offset).take (P.cellsOf f2.type)) = some y2 ∧ DataW.trod enc P w base spare held n f3.type ((cs.drop f3.offset).take (P.cellsOf f3.type)) = some y3 ∧ DataW.trod enc P w base spare held n f4.type ((cs.drop f4.offset).take (P.cellsOf f4.type)) = some y4 := by
  obtain ⟨xs, n, _, rfl, hl, hlen, hf⟩ := DataW.trod_struct ht h
  match xs, hlen with
  | [y0, y1, y2, y3, y4], _ => exact ⟨y0, y1, y2, y3, y4, n, hl, by simpa using hf 0 f0 rfl, by simpa using hf 1 f1 rfl, by simpa using hf 2 f2 rfl, by simpa using hf 3 f3 rfl, by simpa using hf 4 f4 rfl⟩
instance : Inhabited CmdR := ⟨⟨0, 0, 0, ⟨0, 0, 0, 0, 0⟩⟩⟩
instance : Inhabited VLoc := ⟨loc9⟩
theorem cells_opA : Tryz.prog.cellsOf 36 = 9 := by kernel_rfl
theorem cells_cmdA : Tryz.prog.cellsOf 41 = 8 := by kernel_rfl
theorem cells_aop : Tryz.prog.cellsOf 39 = 5 := by kernel_rfl
theorem cells_balA : Tryz.prog.cellsOf 24 = 2 := by kernel_rfl
theorem cells_valA : Tryz.prog.cellsOf 34 = 3 := by kernel_rfl
theorem cells_cmdsl : Tryz.prog.cellsOf 31 = 1 := by kernel_rfl
theorem bytes_cmdA : Tryz.prog.bytesOf 41 = 64 := by kernel_rfl
theorem bytes_intA : Tryz.prog.bytesOf 3 = 8 := by kernel_rfl
theorem weightsAll_memA {H : Type} {P : Program} {e : TypeId} {d : DataW H} {n : Nat} : ∀ (l : List (DataW H)), d ∈ l → n ∈ d.weights P e → n ∈ DataW.weightsAll P e l
  | [], h, _ => by cases h
  | a :: r, h, hn => by
    rw [DataW.weightsAll, List.mem_append]
    rcases List.mem_cons.1 h with rfl | h
    · exact Or.inl hn
    · exact Or.inr (weightsAll_memA r h hn)
/-- Five numbers read. -/
theorem read_aop {H : Type} {enc : TypeId × Value → H} {W : World} {held : Bool} {fuel : Nat} {u0 u1 u2 u3 u4 : Value} {x : DataW H × List MemPlace}
    (h : DataW.trod enc Tryz.prog W 0 (fun _ => true) held fuel 39 [u0, u1, u2, u3, u4] = some x) : ∃ o : OpV, u0 = .int .i64 o.kind ∧ u1 = .int .i64 o.reg ∧ u2 = .int .i64 o.tgt ∧ u3 = .int .i64 o.re ∧ u4 = .int .i64 o.im := by
  obtain ⟨y0, y1, y2, y3, y4, n, -, h0, h1, h2, h3, h4⟩ := trod_5f Tryz.underlying39 h
  rw [cells_int] at h0 h1 h2 h3 h4
  obtain ⟨k0, e0, -, -⟩ := DataW.trod_int Tryz.underlying3 h0
  obtain ⟨k1, e1, -, -⟩ := DataW.trod_int Tryz.underlying3 h1
  obtain ⟨k2, e2, -, -⟩ := DataW.trod_int Tryz.underlying3 h2
  obtain ⟨k3, e3, -, -⟩ := DataW.trod_int Tryz.underlying3 h3
  obtain ⟨k4, e4, -, -⟩ := DataW.trod_int Tryz.underlying3 h4
  simp at e0 e1 e2 e3 e4
  exact ⟨⟨k0, k1, k2, k3, k4⟩, e0, e1, e2, e3, e4⟩
set_option maxHeartbeats 1000000 in
set_option maxRecDepth 100000 in
theorem read_cmds {H : Type} {enc : TypeId × Value → H} {W : World} {held : Bool} {fuel : Nat} {v : Value} {x : DataW H × List MemPlace}
    (h : DataW.trod enc Tryz.prog W 0 (fun _ => true) held fuel 31 [v] = some x) (hw : ∀ n ∈ x.1.weights Tryz.prog 31, n ≤ reachBytes) :
    ∃ ao n cap cs, v = .slice ao n cap ∧ CS W ao n cap cs ∧ n * 64 ≤ 140737488351232 := by
  rcases open_slice Tryz.underlying31 h with ⟨hcs, rfl⟩ | ⟨a, len, cap, m, n, D, Pl, hcs, _, hl, hm, hmm, rfl, hx⟩
  · simp at hcs
    subst hcs
    exact ⟨none, 0, 0, [], rfl, ⟨rfl, Nat.le_refl _, by simp [maxLen], Row.nil _ _⟩, by omega⟩
  · simp at hcs
    subst hcs
    simp only [if_true] at hmm
    rw [hmm] at hx
    clear hmm
    simp only [DataW.weights, Tryz.underlying31] at hw
    have hr : reachBytes = 140737488351232 := rfl
    have hw0 := hw _ (List.mem_cons_self ..)
    rw [bytes_cmdA] at hw0
    simp at hw0
    have each : ∀ i, i < len → ∃ y : CmdR, ∀ j (hj : j < 8), W.cell? ((a.add (i * 8)).add j) = some (cmdCs y)[j] := by
      intro i hi
      obtain ⟨cs, hc, ht⟩ := hx i (by omega)
      rw [cells_cmdA] at hc
      obtain ⟨-, hcl, hcg⟩ := World.cells?_some hc
      obtain ⟨y0, y1, y2, y3, n', hD, -, hy0, hy1, hy2, hy3⟩ := trod_opW Tryz.underlying41 ht
      match cs, hcl with
      | [u0, u1, u2, u3, u4, u5, u6, u7], _ =>
        rw [cells_int] at hy0 hy1 hy2
        rw [cells_aop] at hy3
        obtain ⟨k0, e0, -, -⟩ := DataW.trod_int Tryz.underlying3 hy0
        obtain ⟨k1, e1, -, -⟩ := DataW.trod_int Tryz.underlying3 hy1
        obtain ⟨k2, e2, -, -⟩ := DataW.trod_int Tryz.underlying3 hy2
        simp at e0 e1 e2
        have hz3 : DataW.trod enc Tryz.prog W 0 (fun _ => true) held n' 39 [u3, u4, u5, u6, u7] = some y3 := by simpa using hy3
        obtain ⟨o, rfl, rfl, rfl, rfl, rfl⟩ := read_aop hz3
        subst e0 e1 e2
        refine ⟨⟨k0, k1, k2, o⟩, fun j hj => ?_⟩
        have := hcg j (by simpa using hj)
        rw [this]
        exact List.getElem?_eq_getElem (l := cmdCs ⟨k0, k1, k2, o⟩) hj
    obtain ⟨f, hf⟩ := choose_lt each
    refine ⟨some a, len, cap, (List.range len).map f, rfl, ⟨by simp, hl, hm, ?_⟩, by omega⟩
    by_cases h0 : len = 0
    · left; simp [h0, cmdsV]
    · have hsp := hf 0 (by omega) 0 (by omega)
      rw [Nat.zero_mul, add_zero, add_zero] at hsp
      have hsp := cell_spot hsp
      obtain ⟨b, off, sp⟩ := a
      simp at hsp
      subst hsp
      refine Or.inr ⟨b, off, rfl, fun i hi => ?_⟩
      have hil : i < len * 8 := by rw [length_cmdsV] at hi; simpa using hi
      have hq : i / 8 < len := by omega
      have hcell := hf (i / 8) hq (i % 8) (Nat.mod_lt _ (by omega))
      rw [Addr.add_lit, Addr.add_lit, Nat.add_assoc, show i / 8 * 8 + i % 8 = i by omega] at hcell
      rw [hcell]
      have hg := cmdsV_get ((List.range len).map f) (i / 8) (i % 8) (by simpa using hq) (Nat.mod_lt _ (by omega))
      rw [show i / 8 * 8 + i % 8 = i by omega, List.getElem?_eq_getElem hi] at hg
      simp only [List.getElem_map, List.getElem_range] at hg
      rw [List.getElem?_eq_getElem (show i % 8 < (cmdCs (f (i / 8))).length from Nat.mod_lt _ (by decide))] at hg
      exact hg.symm
theorem read_intsA {H : Type} {enc : TypeId × Value → H} {W : World} {held : Bool} {fuel : Nat} {v : Value} {x : DataW H × List MemPlace}
    (h : DataW.trod enc Tryz.prog W 0 (fun _ => true) held fuel 32 [v] = some x) (hw : ∀ n ∈ x.1.weights Tryz.prog 32, n ≤ reachBytes) :
    ∃ ao n cap l, v = .slice ao n cap ∧ IS W ao n cap l ∧ n * 8 ≤ 140737488351232 := by
  obtain ⟨ao, n, cap, l, rfl, hb, hd⟩ := read_ints h
  refine ⟨ao, n, cap, l, rfl, hb, ?_⟩
  have hr : reachBytes = 140737488351232 := rfl
  have h1 := hb.le
  rcases hd with ⟨-, h0⟩ | ⟨elems, sp, hd, hs⟩
  · omega
  · rw [hd] at hw
    simp only [DataW.weights, Tryz.underlying32] at hw
    have hw0 := hw _ (List.mem_cons_self ..)
    rw [bytes_intA, hs] at hw0
    omega
structure OpA where
  k : Int
  b : BalR
  n : Int
  m : Int
  v : ValR
  keep : List Int
instance : Inhabited OpA := ⟨⟨0, bal0, 0, 0, val0, []⟩⟩
/-- A step in memory. -/
structure OpAAt (W : World) (o : OpA) (b off : Nat) (l : VLoc) (ko : Option Addr) (kc : Nat) : Prop where
  i64 : (-9223372036854775808 ≤ o.n ∧ o.n ≤ 9223372036854775807) ∧ -9223372036854775808 ≤ o.m ∧ o.m ≤ 9223372036854775807
  cells : (W.cell? ⟨b, off, none⟩ = some (.int .i64 o.k) ∧ W.cell? ⟨b, off + 1, none⟩ = some (.int .i64 o.b.round) ∧ W.cell? ⟨b, off + 2, none⟩ = some (.int .i64 o.b.node) ∧ W.cell? ⟨b, off + 3, none⟩ = some (.int .i64 o.n)) ∧ W.cell? ⟨b, off + 4, none⟩ = some (.int .i64 o.m) ∧ W.cell? ⟨b, off + 5, none⟩ = some (.int .i64 o.v.kind) ∧ W.cell? ⟨b, off + 6, none⟩ = some (.slice l.co o.v.cmds.length l.cc) ∧ W.cell? ⟨b, off + 7, none⟩ = some (.slice l.no o.v.next.length l.nc) ∧ W.cell? ⟨b, off + 8, none⟩ = some (.slice ko o.keep.length kc)
  val : ValAt W o.v l
  keep : IS W ko o.keep.length kc o.keep
  len : o.v.cmds.length * 64 ≤ 140737488351232 ∧ o.v.next.length * 8 ≤ 140737488351232 ∧ o.keep.length * 8 ≤ 140737488351232
/-- A script of steps. -/
structure OpAS (W : World) (ao : Option Addr) (n cap : Nat) (ps : List OpA) : Prop where
  len : ps.length = n
  le : n ≤ cap
  max : cap ≤ maxLen
  get : ∀ i (h : i < ps.length), ∃ b off l ko kc, ao = some ⟨b, off, none⟩ ∧ b < W.heap.size ∧ OpAAt W ps[i] b (off + i * 9) l ko kc
set_option maxHeartbeats 2000000 in
set_option maxRecDepth 100000 in
theorem read_opA {H : Type} {enc : TypeId × Value → H} {W : World} {held : Bool} {fuel : Nat} {v : Value} {x : DataW H × List MemPlace}
    (h : DataW.trod enc Tryz.prog W 0 (fun _ => true) held fuel 22 [v] = some x) (hw : ∀ n ∈ x.1.weights Tryz.prog 22, n ≤ reachBytes) :
    ∃ ao n cap ps, v = .slice ao n cap ∧ OpAS W ao n cap ps := by
  rcases open_slice Tryz.underlying22 h with ⟨hcs, rfl⟩ | ⟨a, len, cap, m, n, D, Pl, hcs, _, hl, hm, hmm, rfl, hx⟩
  · simp at hcs
    subst hcs
    exact ⟨none, 0, 0, [], rfl, ⟨rfl, Nat.le_refl _, by simp [maxLen], fun i h => by simp at h⟩⟩
  · simp at hcs
    subst hcs
    simp only [if_true] at hmm
    rw [hmm] at hx
    clear hmm
    simp only [DataW.weights, Tryz.underlying22] at hw
    have each : ∀ i, i < len → ∃ (y : OpA × VLoc × Option Addr × Nat), ∃ us : List Value, us.length = 9 ∧ (∀ j (hj : j < 9) (hj2 : j < us.length), W.cell? ((a.add (i * 9)).add j) = some us[j]) ∧ us = [.int .i64 y.1.k, .int .i64 y.1.b.round, .int .i64 y.1.b.node, .int .i64 y.1.n, .int .i64 y.1.m, .int .i64 y.1.v.kind, .slice y.2.1.co y.1.v.cmds.length y.2.1.cc, .slice y.2.1.no y.1.v.next.length y.2.1.nc, .slice y.2.2.1 y.1.keep.length y.2.2.2] ∧ ((-9223372036854775808 ≤ y.1.n ∧ y.1.n ≤ 9223372036854775807) ∧ -9223372036854775808 ≤ y.1.m ∧ y.1.m ≤ 9223372036854775807) ∧ ValAt W y.1.v y.2.1 ∧ IS W y.2.2.1 y.1.keep.length y.2.2.2 y.1.keep ∧ (y.1.v.cmds.length * 64 ≤ 140737488351232 ∧ y.1.v.next.length * 8 ≤ 140737488351232 ∧ y.1.keep.length * 8 ≤ 140737488351232) := by
      intro i hi
      obtain ⟨cs, hc, ht⟩ := hx i (by omega)
      have hwi : ∀ n ∈ (D i).weights Tryz.prog 36, n ≤ reachBytes := fun n hn => hw n (List.mem_cons_of_mem _ (List.mem_append_left _ (weightsAll_memA (d := D i) _ (List.mem_map_of_mem (f := D) (List.mem_range.2 hi)) hn)))
      rw [cells_opA] at hc
      obtain ⟨-, hcl, hcg⟩ := World.cells?_some hc
      obtain ⟨y0, y1, y2, y3, y4, y5, n', hD, -, hy0, hy1, hy2, hy3, hy4, hy5⟩ := trod_struct6 Tryz.underlying36 ht
      have hD1 : D i = .agg [y0.1, y1.1, y2.1, y3.1, y4.1, y5.1] := congrArg Prod.fst hD
      rw [hD1] at hwi
      simp only [DataW.weights, Tryz.underlying36, DataW.weightsEach, List.map_cons, List.map_nil] at hwi
      match cs, hcl with
      | [u0, u1, u2, u3, u4, u5, u6, u7, u8], _ =>
        rw [cells_int] at hy0 hy2 hy3
        rw [cells_balA] at hy1
        rw [cells_valA] at hy4
        rw [cells_intsl] at hy5
        obtain ⟨k0, e0, -, -⟩ := DataW.trod_int Tryz.underlying3 hy0
        obtain ⟨k3, e3, -, w3⟩ := DataW.trod_int Tryz.underlying3 hy2
        obtain ⟨k4, e4, -, w4⟩ := DataW.trod_int Tryz.underlying3 hy3
        simp at e0 e3 e4
        have hz1 : DataW.trod enc Tryz.prog W 0 (fun _ => true) held n' 24 [u1, u2] = some y1 := by simpa using hy1
        obtain ⟨g0, g1, n1, -, -, hg0, hg1⟩ := trod_struct2 Tryz.underlying24 hz1
        rw [cells_int] at hg0 hg1
        obtain ⟨k1, e1, -, -⟩ := DataW.trod_int Tryz.underlying3 hg0
        obtain ⟨k2, e2, -, -⟩ := DataW.trod_int Tryz.underlying3 hg1
        simp at e1 e2
        have hz4 : DataW.trod enc Tryz.prog W 0 (fun _ => true) held n' 34 [u5, u6, u7] = some y4 := by simpa using hy4
        obtain ⟨q0, q1, q2, n2, hq, -, hq0, hq1, hq2⟩ := trod_3f Tryz.underlying34 hz4
        rw [cells_int] at hq0
        rw [cells_cmdsl] at hq1
        rw [cells_intsl] at hq2
        obtain ⟨k5, e5, -, -⟩ := DataW.trod_int Tryz.underlying3 hq0
        simp at e5
        have hq11 : DataW.trod enc Tryz.prog W 0 (fun _ => true) held n2 31 [u6] = some q1 := by simpa using hq1
        have hq22 : DataW.trod enc Tryz.prog W 0 (fun _ => true) held n2 32 [u7] = some q2 := by simpa using hq2
        have hz5 : DataW.trod enc Tryz.prog W 0 (fun _ => true) held n' 32 [u8] = some y5 := by simpa using hy5
        have hy41 : y4.1 = .agg [q0.1, q1.1, q2.1] := congrArg Prod.fst hq
        rw [hy41] at hwi
        simp only [DataW.weights, Tryz.underlying34, DataW.weightsEach, List.map_cons, List.map_nil] at hwi
        obtain ⟨co, cn, cc, cl, rfl, hcs, hcw⟩ := read_cmds hq11 (fun n hn => hwi n (by simp [hn]))
        obtain ⟨no, nn, nc, nl, rfl, hns, hnw⟩ := read_intsA hq22 (fun n hn => hwi n (by simp [hn]))
        obtain ⟨ko, kn, kc, kl, rfl, hks, hkw⟩ := read_intsA hz5 (fun n hn => hwi n (by simp [hn]))
        subst e0 e1 e2 e3 e4 e5
        obtain rfl := hcs.len
        obtain rfl := hns.len
        obtain rfl := hks.len
        exact ⟨(⟨k0, ⟨k1, k2⟩, k3, k4, ⟨k5, cl, nl⟩, kl⟩, ⟨co, cc, no, nc⟩, ko, kc), _, rfl, fun j hj hj2 => (hcg j hj).trans (List.getElem?_eq_getElem hj2), rfl, ⟨i64_wf w3, i64_wf w4⟩, ⟨hcs, hns⟩, hks, hcw, hnw, hkw⟩
    obtain ⟨f, hf⟩ := choose_lt each
    refine ⟨some a, len, cap, (List.range len).map (fun i => (f i).1), rfl, ⟨by simp, hl, hm, fun i hi => ?_⟩⟩
    have hi' : i < len := by simpa using hi
    obtain ⟨us, hul, hug, hus, h64, hva, hke, hle⟩ := hf i hi'
    obtain ⟨us0, hul0, hug0, -⟩ := hf 0 (by omega)
    have hsp := hug0 0 (by omega) (by omega)
    rw [Nat.zero_mul, add_zero, add_zero] at hsp
    have hsp := cell_spot hsp
    obtain ⟨b, off, sp⟩ := a
    simp at hsp
    subst hsp
    have hc : ∀ j (hj : j < 9) (u : Value), us[j]? = some u → W.cell? ⟨b, off + i * 9 + j, none⟩ = some u := fun j hj u hu => by
      have := hug j hj (by omega)
      rw [Addr.add_lit, Addr.add_lit] at this
      rw [this, ← hu, List.getElem?_eq_getElem]
    refine ⟨b, off, (f i).2.1, (f i).2.2.1, (f i).2.2.2, rfl, World.block_lt_of_cell? W _ (hc 0 (by omega) _ (by rw [hus]; rfl)), ?_⟩
    simp only [List.getElem_map, List.getElem_range]
    exact ⟨h64, ⟨⟨hc 0 (by omega) _ (by rw [hus]; rfl), hc 1 (by omega) _ (by rw [hus]; rfl), hc 2 (by omega) _ (by rw [hus]; rfl), hc 3 (by omega) _ (by rw [hus]; rfl)⟩, hc 4 (by omega) _ (by rw [hus]; rfl), hc 5 (by omega) _ (by rw [hus]; rfl), hc 6 (by omega) _ (by rw [hus]; rfl), hc 7 (by omega) _ (by rw [hus]; rfl), hc 8 (by omega) _ (by rw [hus]; rfl)⟩, hva, hke, hle⟩
set_option maxRecDepth 100000 in
theorem arg_opA {H : Type} {enc : TypeId × Value → H} {W : World} {base : Nat} {v : Value} {d : DataW H} {p : List MemPlace}
    (h : DataW.Trod enc Tryz.prog W 0 (fun _ => true) true 22 v d p) (hv : Value.okWide Tryz.prog W .any base 22 v) (hw : ∀ n ∈ d.weights Tryz.prog 22, n ≤ reachBytes) :
    ∃ ao n cap ps, v = .slice ao n cap ∧ OpAS W ao n cap ps := by
  obtain ⟨a0, len, cap, rfl⟩ := okWide_slice Tryz.underlying22 hv
  obtain ⟨fuel, hf⟩ := h
  exact read_opA (x := (d, p)) hf hw
end Go.Proofs.YtgbgbokcohfnpaaGreat

/-
  An acceptor in a law's walk: it, its log, its disk, and the law's own boxes beside it.
-/
namespace Go.Proofs.YtgbgbokcohfnpaaGreat
open Go.RowKit

/-- The acceptor, and boxes that nobody owns. -/
structure LawX (W : World) (p ql q : Nat) (s : DS) (l : LogP) (a : AcS) (K : Nat) (bs : List (Nat × Obj)) (wx : World) : Prop where
  ex : ∃ col, Ext W.heap.size (fun c => c ≠ 0) (fun _ => 0) W col wx ∧ AcL col wx p ql q s l a ∧ ∀ x ∈ bs, wx.heap[x.1]? = some x.2 ∧ col x.1 = 0
  inv : AInv a
  li : LI K s l
theorem LawX.old {W : World} {p ql q : Nat} {s : DS} {l : LogP} {a : AcS} {K : Nat} {bs : List (Nat × Obj)} {wx : World} (h : LawX W p ql q s l a K bs wx) : Kp Noone W wx := by
  obtain ⟨col, e, -⟩ := h.ex
  exact e.kp.mono (fun j _ c => absurd rfl c)
theorem LawX.box {W : World} {p ql q : Nat} {s : DS} {l : LogP} {a : AcS} {K : Nat} {bs : List (Nat × Obj)} {wx : World} (h : LawX W p ql q s l a K bs wx) {x : Nat × Obj} (hx : x ∈ bs) : wx.heap[x.1]? = some x.2 := by
  obtain ⟨col, -, -, hb⟩ := h.ex
  exact (hb x hx).1
theorem LawX.keep {W : World} {p ql q : Nat} {s : DS} {l : LogP} {a : AcS} {K : Nat} {bs : List (Nat × Obj)} {wx w' : World} (h : LawX W p ql q s l a K bs wx) (k : Kp Noone wx w') : LawX W p ql q s l a K bs w' := by
  obtain ⟨⟨col, e, ha, hb⟩, h2, h3⟩ := h
  exact ⟨⟨col, e.trans (Ext.quiet e.cols k), ha.keep k, fun x hx => ⟨k.heap (hb x hx).1 id, (hb x hx).2⟩⟩, h2, h3⟩
theorem LawX.mono {W : World} {p ql q : Nat} {s : DS} {l : LogP} {a : AcS} {K K' : Nat} {bs : List (Nat × Obj)} {wx : World} (h : LawX W p ql q s l a K bs wx) (hk : K ≤ K') : LawX W p ql q s l a K' bs wx := ⟨h.ex, h.inv, h.li.mono hk⟩
theorem LawX.less {W : World} {p ql q : Nat} {s : DS} {l : LogP} {a : AcS} {K : Nat} {bs bs' : List (Nat × Obj)} {wx : World} (h : LawX W p ql q s l a K bs wx) (hb : ∀ x ∈ bs', x ∈ bs) : LawX W p ql q s l a K bs' wx := by
  obtain ⟨⟨col, e, ha, h1⟩, h2, h3⟩ := h
  exact ⟨⟨col, e, ha, fun x hx => h1 x (hb x hx)⟩, h2, h3⟩
theorem LawX.boxed {W : World} {p ql q : Nat} {s : DS} {l : LogP} {a : AcS} {K : Nat} {bs : List (Nat × Obj)} {wx : World} (h : LawX W p ql q s l a K bs wx) (o : Obj) : LawX W p ql q s l a K ((wx.heap.size, o) :: bs) (wx.alloc o) := by
  have h1 := h.keep ((Kp.refl Noone wx).alloc o)
  obtain ⟨⟨col, e, ha, hb⟩, h2, h3⟩ := h
  have k : Kp Noone wx (wx.alloc o) := (Kp.refl _ _).alloc o
  exact ⟨⟨col, e.trans (Ext.quiet e.cols k), ha.keep k, fun x hx => by
    rcases List.mem_cons.1 hx with rfl | hx
    · exact ⟨heap_alloc_new wx o, cols_new e.cols (Nat.le_refl _)⟩
    · exact ⟨k.heap (hb x hx).1 id, (hb x hx).2⟩⟩, h2, h3⟩
theorem LawX.step {W : World} {p ql q : Nat} {s' : DS} {l' : LogP} {a' : AcS} {K' : Nat} {bs : List (Nat × Obj)} {wx w' : World} {col col' : Nat → Nat} (h1 : Ext W.heap.size (fun c => c ≠ 0) (fun _ => 0) W col wx) (hb : ∀ x ∈ bs, wx.heap[x.1]? = some x.2 ∧ col x.1 = 0) (e : Ext W.heap.size SX col wx col' w') (ha : AcL col' w' p ql q s' l' a') (hi : AInv a') (hl : LI K' s' l') :
    LawX W p ql q s' l' a' K' bs w' :=
  ⟨⟨col', h1.trans (e.mono sx_ne), ha, fun x hx => by
    obtain ⟨b1, b2⟩ := hb x hx
    exact ⟨e.kp.heap b1 (by rw [b2]; exact sx_zero), (e.old x.1 (Array.getElem?_eq_some_iff.1 b1).1).trans b2⟩⟩, hi, hl⟩
/-- What a call that answers a message leaves. -/
structure LMsg (W : World) (p ql q : Nat) (o : AO) (K : Nat) (bs : List (Nat × Obj)) (wx : World) (e : Ending) (w' : World) : Prop where
  law : LawX W p ql q o.s o.l o.a K bs w'
  ex : ∃ (vo : Option Addr) (vc : Nat) (m : VLoc), e = .returned (.tuple #[.agg (msgCs o.m vo vc m), .int .i64 (o.e : Int)]) ∧ MsgAt (fun j => wx.heap.size ≤ j) w' o.m vo vc m
theorem MsgAt.mono {P Q : Nat → Prop} {w : World} {m : MsgR} {vo : Option Addr} {vc : Nat} {l : VLoc} (h : MsgAt P w m vo vc l) (hq : ∀ j, P j → Q j) : MsgAt Q w m vo vc l := by
  obtain ⟨⟨M, D, h1, h2, h3⟩, h4⟩ := h
  exact ⟨⟨M, D, h1, h2.mono (fun j _ d => ⟨hq j d.1, d.2⟩), fun x hx => (h3 x hx).mono (fun j _ d => ⟨hq j d.1, d.2⟩)⟩, h4.mono (fun j _ d => hq j d)⟩
attribute [local irreducible] prepA accA raiseO enterO
theorem LawX.prepare {W : World} {p ql q : Nat} {s : DS} {l : LogP} {a : AcS} {K : Nat} {bs : List (Nat × Obj)} {wx : World} (h : LawX W p ql q s l a K bs wx) (hK : K ≤ 80000) (b : BalR) (f : Int) :
    Calls Tryz.prog 11 #[.pointer (some ⟨q, 0, none⟩), .agg #[.int .i64 b.round, .int .i64 b.node], .int .i64 f] wx fun e w' => LMsg W p ql q (prepA s l a b f) (K + 70) bs wx e w' := by
  obtain ⟨⟨col, x, ha, hb⟩, hi, hl⟩ := h
  refine (prep_a W.heap.size col wx p ql q s l a b f K ha x.cols x.size hl hK hi.ok (Nat.le_trans (hi.ok.len hi.win) (by decide))).mono ?_
  rintro e w' ⟨⟨col', vo, vc, m, rfl, he, ha2, hm⟩, hl2⟩
  exact ⟨LawX.step x hb he ha2 (hi.prep s l b f) (hl2.mono (by omega)), vo, vc, m, rfl, hm.mono (fun j d => d.1)⟩
theorem LawX.accept {W : World} {p ql q : Nat} {s : DS} {l : LogP} {a : AcS} {K : Nat} {bs : List (Nat × Obj)} {wx : World} (hK : K ≤ 80000) (b : BalR) (sl : Int) (v : ValR) (m : VLoc) (w0 : World) (hv : ValOwn (Ex Noone w0 wx) wx v m) (h0 : LawX W p ql q s l a K bs w0) (k0 : Kp Noone w0 wx) (h1 : v.cmds.length ≤ 140737488351232) (h2 : v.next.length ≤ 140737488351232) :
    Calls Tryz.prog 12 #[.pointer (some ⟨q, 0, none⟩), .agg #[.int .i64 b.round, .int .i64 b.node], .int .i64 sl, valV v m] wx fun e w' => LMsg W p ql q (accA s l a b sl v) (K + 70) bs wx e w' := by
  obtain ⟨⟨col, x0, ha0, hb0⟩, hi, hl⟩ := h0
  have x := x0.trans (Ext.quiet x0.cols k0)
  have ha := ha0.keep k0
  have hb : ∀ y ∈ bs, wx.heap[y.1]? = some y.2 ∧ col y.1 = 0 := fun y hy => ⟨k0.heap (hb0 y hy).1 id, (hb0 y hy).2⟩
  refine (acc_a W.heap.size col wx p ql q s l a b sl v m K ha x.cols x.size hl hK hi.ok (hv.in.mono (fun j _ d => cols_new x0.cols d.none.1)) h1 h2).mono ?_
  rintro e w' ⟨⟨col', vo, vc, m2, rfl, he, ha2, hm⟩, hl2⟩
  exact ⟨LawX.step x hb he ha2 (hi.acc s l b sl v) (hl2.mono (by omega)), vo, vc, m2, rfl, hm.mono (fun j d => d.1)⟩
theorem LawX.raised {W : World} {p ql q : Nat} {s : DS} {l : LogP} {a : AcS} {K : Nat} {bs : List (Nat × Obj)} {wx : World} (h : LawX W p ql q s l a K bs wx) (hK : K ≤ 80000) (f : Int) :
    Calls Tryz.prog 14 #[.pointer (some ⟨q, 0, none⟩), .int .i64 f] wx fun e w' => e = .returned (.int .i64 ((raiseO s l a f).e : Int)) ∧ LawX W p ql q (raiseO s l a f).s (raiseO s l a f).l (raiseO s l a f).a (K + 70) bs w' := by
  obtain ⟨⟨col, x, ha, hb⟩, hi, hl⟩ := h
  have hlen := hi.ok.len hi.win
  refine (raiseO_a W.heap.size col wx p ql q s l a f K ha x.cols x.size hl hK hi.ok (by omega)).mono ?_
  rintro e w' ⟨⟨col', rfl, he, ha2⟩, hl2⟩
  exact ⟨rfl, LawX.step x hb he ha2 (hi.raise s l f) (hl2.mono (by omega))⟩
theorem LawX.entered {W : World} {p ql q : Nat} {s : DS} {l : LogP} {a : AcS} {K : Nat} {bs : List (Nat × Obj)} {wx : World} (h : LawX W p ql q s l a K bs wx) (hK : K ≤ 80000) (ep f : Int) :
    Calls Tryz.prog 28 #[.pointer (some ⟨q, 0, none⟩), .int .i64 ep, .int .i64 f] wx fun e w' => e = .returned (.int .i64 ((enterO s l a ep f).e : Int)) ∧ LawX W p ql q (enterO s l a ep f).s (enterO s l a ep f).l (enterO s l a ep f).a (K + 70) bs w' := by
  obtain ⟨⟨col, x, ha, hb⟩, hi, hl⟩ := h
  refine (enterO_a W.heap.size col wx p ql q s l a ep f K ha x.cols x.size hl hK hi.ok.ep.1).mono ?_
  rintro e w' ⟨⟨col', rfl, he, ha2⟩, hl2⟩
  exact ⟨rfl, LawX.step x hb he ha2 (hi.enter s l ep f) (hl2.mono (by omega))⟩

end Go.Proofs.YtgbgbokcohfnpaaGreat
