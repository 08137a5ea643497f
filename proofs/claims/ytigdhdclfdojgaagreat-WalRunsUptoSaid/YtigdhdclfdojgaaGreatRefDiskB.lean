/-
  RefRow, RefCrash, RefWhy, RefChange in one text.
-/
import Derived.Test.YtigdhdclfdojgaaGreatRefMount
import Derived.Test.YtigdhdclfdojgaaGreatRead8
/-
  ROWS OF AREAS that are changed in place; the document's crash in plain Lean.
-/
namespace Go.Proofs.YtigdhdclfdojgaaGreat
open Go.RowKit

theorem RA.row {P : Nat → Prop} {w : World} {ao : Option Addr} {n cap : Nat} {L : Img} (h : RA P w ao n cap L) :
    ∃ hs : Hs, hs.length = L.length ∧ Row w ao (imgC L hs) ∧ ∀ j (h1 : j < hs.length) (h2 : j < L.length), DataP P w hs[j].1 hs[j].2.1 hs[j].2.2 L[j].2.data := by
  have hex : ∀ i (hi : i < L.length), ∃ x : Option Addr × Nat × Nat, (∃ b off, ao = some ⟨b, off, none⟩ ∧ w.cell? ⟨b, off + i * 3, none⟩ = some (.string L[i].1) ∧ w.cell? ⟨b, off + i * 3 + 1, none⟩ = some (.slice x.1 x.2.1 x.2.2) ∧
      w.cell? ⟨b, off + i * 3 + 2, none⟩ = some (.int .i64 L[i].2.safe)) ∧ DataP P w x.1 x.2.1 x.2.2 L[i].2.data := fun i hi => by
    obtain ⟨b, off, bo, m, c, h1, h2, h3, h4, h5, h6, h7⟩ := h.get i hi
    exact ⟨(bo, m, c), ⟨b, off, h1, h4, h5, h6⟩, h7⟩
  obtain ⟨hs, hl, hp⟩ : ∃ hs : Hs, hs.length = L.length ∧ ∀ j (h1 : j < hs.length) (h2 : j < L.length), (∃ b off, ao = some ⟨b, off, none⟩ ∧ w.cell? ⟨b, off + j * 3, none⟩ = some (.string L[j].1) ∧ w.cell? ⟨b, off + j * 3 + 1, none⟩ = some (.slice hs[j].1 hs[j].2.1 hs[j].2.2) ∧
      w.cell? ⟨b, off + j * 3 + 2, none⟩ = some (.int .i64 L[j].2.safe)) ∧ DataP P w hs[j].1 hs[j].2.1 hs[j].2.2 L[j].2.data :=
    ⟨List.ofFn fun i : Fin L.length => Classical.choose (hex i.1 i.2), by simp, fun j h1 h2 => by
      simp only [List.getElem_ofFn]
      exact Classical.choose_spec (hex j h2)⟩
  refine ⟨hs, hl, ?_, fun j h1 h2 => (hp j h1 h2).2⟩
  have hc := imgC_length L hs hl
  by_cases h0 : L.length = 0
  · left
    exact List.eq_nil_of_length_eq_zero (by rw [hc, h0])
  · right
    obtain ⟨⟨b, off, hao, -⟩, -⟩ := hp 0 (by omega) (by omega)
    refine ⟨b, off, hao, fun k hk => ?_⟩
    have hq : k / 3 < L.length := by omega
    obtain ⟨⟨b', off', e, c0, c1, c2⟩, -⟩ := hp (k / 3) (by omega) hq
    rw [hao] at e
    obtain ⟨rfl, rfl⟩ : b = b' ∧ off = off' := by
      have e1 := Option.some.inj e
      exact ⟨congrArg Addr.block e1, congrArg Addr.off e1⟩
    obtain ⟨g0, g1, g2⟩ := imgC_get L hs (k / 3) hq (by omega)
    rw [← List.getElem?_eq_getElem hk]
    rcases (by omega : k = k / 3 * 3 ∨ k = k / 3 * 3 + 1 ∨ k = k / 3 * 3 + 2) with e | e | e
    · rw [e, g0, ← c0, ← e]
    · rw [e, g1, ← c1, Nat.add_assoc, ← e]
    · rw [e, g2, ← c2, Nat.add_assoc, ← e]

theorem imgC_set : ∀ (L : Img) (hs : Hs) (k : Nat) (x : ByteArray × AreaP) (g : Option Addr × Nat × Nat), hs.length = L.length →
    imgC (L.set k x) (hs.set k g) = (((imgC L hs).set (k * 3) (.string x.1)).set (k * 3 + 1) (.slice g.1 g.2.1 g.2.2)).set (k * 3 + 2) (.int .i64 x.2.safe)
  | [], [], _, _, _, _ => by simp [imgC]
  | y :: r, h :: t, 0, x, g, _ => by simp [imgC]
  | y :: r, h :: t, k + 1, x, g, e => by
    have := imgC_set r t k x g (by simpa using e)
    have e1 : (k + 1) * 3 = k * 3 + 1 + 1 + 1 := by omega
    rw [e1]
    simp [imgC, this]
  | [], _ :: _, _, _, _, e => by simp at e
  | _ :: _, [], _, _, _, e => by simp at e
theorem imgC_safe : ∀ (L : Img) (hs : Hs) (k : Nat) (h : k < L.length) (s : Int), hs.length = L.length → imgC (L.set k (L[k].1, ⟨L[k].2.data, s⟩)) hs = (imgC L hs).set (k * 3 + 2) (.int .i64 s)
  | y :: r, h :: t, 0, _, s, _ => by simp [imgC]
  | y :: r, h :: t, k + 1, hk, s, e => by
    have := imgC_safe r t k (by simpa using hk) s (by simpa using e)
    have e1 : (k + 1) * 3 = k * 3 + 1 + 1 + 1 := by omega
    rw [e1]
    simp [imgC, this]
  | [], _, _, h, _, _ => by simp at h
  | _ :: _, [], _, _, _, e => by simp at e
theorem sumL_set : ∀ (L : Img) (k : Nat) (h : k < L.length) (x : ByteArray × AreaP), sumL (L.set k x) = sumL L - L[k].2.safe + x.2.safe
  | y :: r, 0, _, x => by simp [sumL]; omega
  | y :: r, k + 1, h, x => by
    have := sumL_set r k (by simpa using h) x
    simp [sumL, this]; omega
  | [], _, h, _ => by simp at h

/-- Where a row that grows lies. -/
theorem RGA.place {P : Nat → Prop} {z : Nat} {A : Nat → Prop} {hs : Hs} {w : World} {ao : Option Addr} {n cap : Nat} {L : Img} (h : RGA P z A hs w ao n cap L) (h0 : 0 < n) :
    ∃ b off, ao = some ⟨b, off, none⟩ ∧ A b ∧ b < w.heap.size ∧ (∀ i, w.frozen? ⟨b, i, none⟩ = false) ∧
      ∀ k (h1 : k < L.length) (h2 : k < hs.length), w.cell? ⟨b, off + k * 3, none⟩ = some (.string L[k].1) ∧ w.cell? ⟨b, off + k * 3 + 1, none⟩ = some (.slice hs[k].1 hs[k].2.1 hs[k].2.2) ∧ w.cell? ⟨b, off + k * 3 + 2, none⟩ = some (.int .i64 L[k].2.safe) := by
  have hl := h.len
  have hhs := h.hlen
  rcases h.own with ⟨e1, e2, e3, e4⟩
  rcases e4 with e0 | ⟨b, off, cur, rfl, hA, hh, hsz, hr⟩
  · omega
  · refine ⟨b, off, rfl, hA, (Array.getElem?_eq_some_iff.1 hh).1, fun i => by simp [World.frozen?, hh], fun k h1 h2 => ?_⟩
    obtain ⟨g0, g1, g2⟩ := imgC_get L hs k h1 h2
    have hc : ∀ j v, (imgC L hs)[j]? = some v → w.cell? ⟨b, off + j, none⟩ = some v := fun j v hv => by
      obtain ⟨hj, rfl⟩ := List.getElem?_eq_some_iff.1 hv
      rw [cell_of_row w b _ cur _ (0, 0) hh]; exact hr j hj
    exact ⟨hc _ _ g0, by rw [Nat.add_assoc]; exact hc _ _ g1, by rw [Nat.add_assoc]; exact hc _ _ g2⟩
theorem RGA.setSafe {P : Nat → Prop} {z : Nat} {A : Nat → Prop} {hs : Hs} {w : World} {b off : Nat} {n cap : Nat} {L : Img} (h : RGA P z A hs w (some ⟨b, off, none⟩) n cap L) (hA : A b) {k : Nat} (hk : k < L.length) (s : Int) :
    RGA P z A hs (w.setCell ⟨b, off + k * 3 + 2, none⟩ (.int .i64 s)) (some ⟨b, off, none⟩) n cap (L.set k (L[k].1, ⟨L[k].2.data, s⟩)) := by
  have hl := h.len
  have hhs := h.hlen
  have hc := imgC_length L hs (by omega)
  have kk : Kp (fun j => j = b) w (w.setCell ⟨b, off + k * 3 + 2, none⟩ (.int .i64 s)) := (Kp.refl (fun j => j = b) w).setCell (fun _ => rfl) _
  refine ⟨fun j c => ⟨(h.base j c).1, Nat.lt_of_lt_of_le (h.base j c).2 kk.size⟩, by simpa using hl, hhs, ?_, fun j h1 h2 => ?_⟩
  · rw [imgC_safe L hs k hk s (by omega), Nat.add_assoc]
    exact h.own.set (by omega) _
  · have h3 : j < L.length := by simpa using h2
    have hd : (L.set k (L[k].1, ⟨L[k].2.data, s⟩))[j].2.data = L[j].2.data := by
      rw [List.getElem_set]
      split
      · rename_i e; subst e; rfl
      · rfl
    rw [hd]
    exact (h.data j h1 h3).kp kk (fun i _ c e => c.2 (by rw [e]; exact hA))
theorem RGA.setAll {P : Nat → Prop} {z : Nat} {A : Nat → Prop} {hs : Hs} {w : World} {b off : Nat} {n cap : Nat} {L : Img} (h : RGA P z A hs w (some ⟨b, off, none⟩) n cap L) (hA : A b) {k : Nat} (hk : k < L.length) (x : ByteArray × AreaP) (xo : Option Addr) (xm xc : Nat)
    (hd : DataP (fun j => P j ∧ ¬ A j) w xo xm xc x.2.data) :
    RGA P z A (hs.set k (xo, xm, xc)) (((w.setCell ⟨b, off + k * 3, none⟩ (.string x.1)).setCell ⟨b, off + k * 3 + 1, none⟩ (.slice xo xm xc)).setCell ⟨b, off + k * 3 + 2, none⟩ (.int .i64 x.2.safe)) (some ⟨b, off, none⟩) n cap (L.set k x) := by
  have hl := h.len
  have hhs := h.hlen
  have hc := imgC_length L hs (by omega)
  have kk : Kp (fun j => j = b) w (((w.setCell ⟨b, off + k * 3, none⟩ (.string x.1)).setCell ⟨b, off + k * 3 + 1, none⟩ (.slice xo xm xc)).setCell ⟨b, off + k * 3 + 2, none⟩ (.int .i64 x.2.safe)) :=
    ((((Kp.refl (fun j => j = b) w).setCell (fun _ => rfl) _).setCell (fun _ => rfl) _).setCell (fun _ => rfl) _)
  refine ⟨fun j c => ⟨(h.base j c).1, Nat.lt_of_lt_of_le (h.base j c).2 kk.size⟩, by simpa using hl, by simpa using hhs, ?_, fun j h1 h2 => ?_⟩
  · rw [imgC_set L hs k x _ (by omega), Nat.add_assoc, Nat.add_assoc]
    exact ((h.own.set (by omega) _).set (by rw [List.length_set]; omega) _).set (by rw [List.length_set, List.length_set]; omega) _
  · have h3 : j < L.length := by simpa using h2
    have h4 : j < hs.length := by simpa using h1
    by_cases e : k = j
    · subst e
      simp only [List.getElem_set_self]
      exact hd.kp kk (fun i _ c e => c.2 (by rw [e]; exact hA))
    · rw [List.getElem_set_ne e, List.getElem_set_ne e]
      exact (h.data j h4 h3).kp kk (fun i _ c e => c.2 (by rw [e]; exact hA))

/-! ### crash in plain Lean -/

/-- How much of an area is left. -/
def keepA (sum room : Int) (a : AreaP) (k : Option Int) : Int := max a.safe (min (keepN a k) (room - sum + a.safe))
def crX (sum room : Int) (x : ByteArray × AreaP) (k : Option Int) : ByteArray × AreaP := (x.1, ⟨x.2.data.take (keepA sum room x.2 k).toNat, keepA sum room x.2 k⟩)
def crR1 (room : Int) (M : Img) (i : Nat) (k : Option Int) : Img := match M[i]? with
  | some x => M.set i (crX (sumL M) room x k)
  | none => M
def crUp (room : Int) (keep : List Int) (L : Img) : Nat → Img
  | 0 => L
  | i + 1 => crR1 room (crUp room keep L i) i keep[i]?
def crashR (m : RD) (keep : List Int) : RD := ⟨crUp m.room keep m.L m.L.length, m.room, m.steps, 0, false⟩
theorem crR1_len (room : Int) (M : Img) (i : Nat) (k : Option Int) : (crR1 room M i k).length = M.length := by
  unfold crR1
  split <;> simp
theorem crUp_len (room : Int) (keep : List Int) (L : Img) (i : Nat) : (crUp room keep L i).length = L.length := by
  induction i with
  | zero => rfl
  | succ i ih => unfold crUp; rw [crR1_len, ih]
theorem crUp_succ (room : Int) (keep : List Int) (L : Img) (i : Nat) (h : i < (crUp room keep L i).length) : crUp room keep L (i + 1) = (crUp room keep L i).set i (crX (sumL (crUp room keep L i)) room (crUp room keep L i)[i] keep[i]?) := by
  show crR1 room (crUp room keep L i) i keep[i]? = _
  unfold crR1
  rw [List.getElem?_eq_getElem h]
/-- What holds of each area. -/
def Img.Fit (L : Img) : Prop := ∀ x ∈ L, 0 ≤ x.2.safe ∧ x.2.safe ≤ x.2.data.length ∧ x.2.data.length ≤ 140737488355328
theorem keepA_bounds {sum room : Int} {a : AreaP} {k : Option Int} (h : a.safe ≤ a.data.length) : a.safe ≤ keepA sum room a k ∧ keepA sum room a k ≤ a.data.length := by
  unfold keepA keepN
  cases k with
  | none => simp only []; omega
  | some v => simp only []; omega
theorem crUp_fit (room : Int) (keep : List Int) (L : Img) (h : L.Fit) (i : Nat) : (crUp room keep L i).Fit := by
  induction i with
  | zero => exact h
  | succ i ih =>
    show (crR1 room (crUp room keep L i) i keep[i]?).Fit
    unfold crR1
    split
    · rename_i x hx
      intro y hy
      rcases List.mem_or_eq_of_mem_set hy with hy | rfl
      · exact ih y hy
      · have h1 := ih x (List.mem_of_getElem? hx)
        have h2 := keepA_bounds (sum := sumL (crUp room keep L i)) (room := room) (k := keep[i]?) h1.2.1
        unfold crX
        simp only [List.length_take]
        omega
    · exact ih
theorem Img.Fit.small {L : Img} (h : L.Fit) (h64 : L.length ≤ 64) : L.Small := ⟨h64, fun x hx => by have := h x hx; omega⟩

end Go.Proofs.YtigdhdclfdojgaaGreat

/-
  THE WALK of the document's crash.
-/
namespace Go.Proofs.YtigdhdclfdojgaaGreat
open Go.RowKit

theorem BS.fore {w : World} {ao : Option Addr} {n cap : Nat} {l : List UInt8} (h : BS w ao n cap l) {k : Nat} (hk : k ≤ n) : BS w ao k cap (l.take k) := by
  have hl := h.len
  refine ⟨by rw [List.length_take]; omega, Nat.le_trans hk h.le, h.max, ?_⟩
  rcases h.row with h0 | ⟨b, off, rfl, hr⟩
  · have h1 : l = [] := by have := congrArg List.length h0; rw [length_bv] at this; exact List.eq_nil_of_length_eq_zero this
    left; rw [h1]; simp [bv]
  · refine Or.inr ⟨b, off, rfl, fun i hi => ?_⟩
    rw [length_bv, List.length_take] at hi
    rw [hr i (by rw [length_bv]; omega)]
    simp [bv]
theorem RGA.kp {P S : Nat → Prop} {z : Nat} {A : Nat → Prop} {hs : Hs} {w w' : World} {ao : Option Addr} {n cap : Nat} {L : Img} (h : RGA P z A hs w ao n cap L) (k : Kp S w w') (hA : ∀ j, A j → ¬ S j) (hP : ∀ j, P j → ¬ S j) : RGA P z A hs w' ao n cap L :=
  ⟨fun j c => ⟨(h.base j c).1, Nat.lt_of_lt_of_le (h.base j c).2 k.size⟩, h.len, h.hlen, h.own.kp k hA, fun j a b => (h.data j a b).kp k (fun i _ c => hP i c.1)⟩
/-- What holds of the document's disk. -/
structure ROk (m : RD) : Prop where
  room : 0 ≤ m.room ∧ m.room ≤ 4194304
  len : m.L.length ≤ 64
  fit : m.L.Fit
  steps : 0 ≤ m.steps ∧ m.steps ≤ 4611686018427387904
  fuse : 0 ≤ m.fuse ∧ m.fuse ≤ 9223372036854775807

theorem imgC_one : ∀ (L : Img) (hs : Hs), ∀ u ∈ imgC L hs, u.oneCell' = true
  | [], _, u, h => by simp [imgC] at h
  | _ :: _, [], u, h => by simp [imgC] at h
  | x :: r, g :: t, u, h => by
    have ih := imgC_one r t
    simp [imgC] at h
    rcases h with rfl | rfl | rfl | h
    · rfl
    · rfl
    · rfl
    · exact ih u h
/-- Between two areas of crash. -/
structure CQ (P : Nat → Prop) (z : Nat) (A : Nat → Prop) (ao1 : Option Addr) (n cap1 : Nat) (wB : World) (S : Nat → Img) (v : Value) (wr : World) : Prop where
  ex : ∃ (j : Nat) (hs : Hs), v = .int .i64 (j : Int) ∧ j ≤ n ∧ RGA P z A hs wr ao1 n cap1 (S j) ∧ Kp A wB wr
/-- Between two bytes. -/
structure CI (P : Nat → Prop) (z : Nat) (A : Nat → Prop) (hs : Hs) (ao1 : Option Addr) (n cap1 : Nat) (wX : World) (M : Img) (i : Nat) (nm : ByteArray) (xd : List UInt8) (lo hi : Int) (v : Value) (wr : World) : Prop where
  ex : ∃ q : Int, v = .int .i64 q ∧ lo ≤ q ∧ q ≤ hi ∧ RGA P z A hs wr ao1 n cap1 (M.set i (nm, ⟨xd, q⟩)) ∧ Kp A wX wr

set_option maxHeartbeats 4000000 in
set_option maxRecDepth 100000 in
theorem crashR_any (P : Nat → Prop) (ao : Option Addr) (cap : Nat) (m : RD) (keep : List Int) (ko : Option Addr) (km kc : Nat) (w : World) (h : RA P w ao m.L.length cap m.L) (hP : ∀ j, w.heap.size ≤ j → P j) (hk : IS w ko km kc keep) (hok : ROk m) :
    Calls Tryz.prog 35 #[rdV ao cap m, .slice ko km kc] w fun e w' => ∃ ao' cap', e = .returned (rdV ao' cap' (crashR m keep)) ∧ RA P w' ao' (crashR m keep).L.length cap' (crashR m keep).L ∧ Kp Noone w w' := by
  obtain ⟨i0, hi, hz0, hz1, hz2⟩ := info_parts info_area
  obtain ⟨L, room, steps, fuse, down⟩ := m
  obtain ⟨n, hn⟩ : ∃ n, L.length = n := ⟨_, rfl⟩
  have h64 := hok.len
  have hfit := hok.fit
  have hroom := hok.room
  have hsteps := hok.steps
  have hkl := hk.len
  simp only [] at h h64 hfit hroom hsteps
  rw [hn] at h h64
  have hkm : km ≤ 9223372036854775807 := by have h1 := hk.le; have h2 := hk.max; unfold maxLen at h2; omega
  obtain ⟨RES, hRES⟩ : ∃ x, Hid (crashR ⟨L, room, steps, fuse, down⟩ keep = x) := ⟨_, Lib.hid rfl⟩
  rw [hRES.out]
  have HR : Hid (RES = ⟨crUp room keep L n, room, steps, 0, false⟩) := Lib.hid (by rw [← hRES.out]; show (⟨crUp room keep L L.length, room, steps, 0, false⟩ : RD) = _; rw [hn])
  have hA := heap_alloc_new w (.cells #[.slice ao n cap, .int .i64 room, .int .i64 steps, .int .i64 fuse, .bool down] 26)
  have eA := alloc_size w (.cells #[.slice ao n cap, .int .i64 room, .int .i64 steps, .int .i64 fuse, .bool down] 26)
  have kA : Kp Noone w ((w.alloc (.cells #[.slice ao n cap, .int .i64 room, .int .i64 steps, .int .i64 fuse, .bool down] 26)).alloc (.cells #[.slice none 0 0, .int .i64 0, .int .i64 0, .int .i64 0, .bool false] 26)) := ((Kp.refl _ _).alloc _).alloc _
  have hdA := ((Kp.refl Noone (w.alloc (.cells #[.slice ao n cap, .int .i64 room, .int .i64 steps, .int .i64 fuse, .bool down] 26))).alloc (.cells #[.slice none 0 0, .int .i64 0, .int .i64 0, .int .i64 0, .bool false] 26)).heap hA id
  have hrA := heap_alloc_new (w.alloc (.cells #[.slice ao n cap, .int .i64 room, .int .i64 steps, .int .i64 fuse, .bool down] 26)) (.cells #[.slice none 0 0, .int .i64 0, .int .i64 0, .int .i64 0, .bool false] 26)
  have eB := alloc_size (w.alloc (.cells #[.slice ao n cap, .int .i64 room, .int .i64 steps, .int .i64 fuse, .bool down] 26)) (.cells #[.slice none 0 0, .int .i64 0, .int .i64 0, .int .i64 0, .bool false] 26)
  rw [eA] at hrA eB
  have HP := Lib.hid hP
  have HFIT := Lib.hid hfit
  have HK := Lib.hid hk
  have HL := Lib.hid (h.mono (Q := fun j => P j ∧ j < w.heap.size) (fun i hi c => ⟨c, hi⟩))
  clear h hP hA eA hfit hk hok hRES
  unfold rdV rdC
  simp only [hn]
  go_enter Tryz.func35, Tryz.ntmps35
  go_upto_region 1 with fail
  generalize (w.alloc (.cells #[.slice ao n cap, .int .i64 room, .int .i64 steps, .int .i64 fuse, .bool down] 26)).alloc (.cells #[.slice none 0 0, .int .i64 0, .int .i64 0, .int .i64 0, .bool false] 26) = wA at *
  obtain ⟨⟨q0, q1, q2, q3, q4⟩, -⟩ := cells_five hdA
  have hoB := heap_alloc_new wA (.cells #[.slice none 0 0, .int .i64 room, .int .i64 steps, .int .i64 0, .bool false] 26)
  have kB : Kp Noone wA (wA.alloc (.cells #[.slice none 0 0, .int .i64 room, .int .i64 steps, .int .i64 0, .bool false] 26)) := (Kp.refl _ _).alloc _
  have esB := alloc_size wA (.cells #[.slice none 0 0, .int .i64 room, .int .i64 steps, .int .i64 0, .bool false] 26)
  have hdB := kB.heap hdA id
  have hrB := kB.heap hrA id
  have KB := Lib.hid (kA.trans kB)
  go_upto_region 2 with fail
  generalize wA.alloc (.cells #[.slice none 0 0, .int .i64 room, .int .i64 steps, .int .i64 0, .bool false] 26) = wB at *
  rw [eB] at hoB esB
  generalize hgo : w.heap.size + 1 + 1 = go at *
  obtain ⟨⟨q0, q1, q2, q3, q4⟩, qf⟩ := cells_five hdB
  obtain ⟨⟨p0, p1, p2, p3, p4⟩, pf⟩ := cells_five hoB
  have hLB := HL.out.keep KB.out
  obtain ⟨hs, hhs, hrow, hdat⟩ := hLB.row
  have hys := imgC_length L hs hhs
  rw [hn] at hys hhs
  have hone : ∀ u ∈ imgC L hs, u.oneCell' = true := imgC_one L hs
  go_wp2_with (at_builtin; refine wpList_append_gen _ rfl (.tmp 15) (.tmp 17) 22 rfl 67 i0 (.agg #[.string ByteArray.empty, .slice none 0 0, .int .i64 0]) 3 48 Tryz.underlying22 hi hz0 hz1 hz2 rfl none 0 0 rfl ao n cap rfl Noone [] (Own.nil _ _ _ _ _) (imgC L hs) hys hrow hone (by omega) (by unfold maxLen; omega) ?_)
  intro ao1 cap1 w7 ho7 k7
  have s7 := k7.size
  have hG7 : RGA (fun i => P i ∧ (i < w.heap.size ∨ wB.heap.size ≤ i)) wB.heap.size (Ex Noone wB w7) hs w7 ao1 n cap1 L := by
    have hdat2 : ∀ j (h1 : j < hs.length) (h2 : j < L.length), DataP (fun i => P i ∧ i < w.heap.size) wB hs[j].1 hs[j].2.1 hs[j].2.2 L[j].2.data := hdat
    exact ⟨fun j c => by have := c.none; omega, hn, by omega, ho7, fun j h1 h2 => ((hdat2 j h1 h2).keep k7).mono (fun i _ c => ⟨⟨c.1, Or.inl c.2⟩, fun e => by have := e.none; have := c.2; omega⟩)⟩
  have hAlt : ∀ i, Ex Noone wB w7 i → wB.heap.size ≤ i ∧ i < w7.heap.size := fun i c => c.none
  generalize Ex Noone wB w7 = A at *
  have ho7 := k7.heap hoB id
  have hd7 := k7.heap hdB id
  have hr7 := k7.heap hrB id
  have K8 : Kp Noone w (w7.setCell ⟨go, 0, none⟩ (.slice ao1 n cap1)) := (KB.out.trans k7).setCell (fun c => by have h1 : go < w.heap.size := c; omega) _
  have kk : Kp (fun j => j = go) w7 (w7.setCell ⟨go, 0, none⟩ (.slice ao1 n cap1)) := (Kp.refl (fun j => j = go) w7).setCell (fun _ => rfl) _
  have ho8 : (w7.setCell ⟨go, 0, none⟩ (.slice ao1 n cap1)).heap[go]? = some (.cells #[.slice ao1 n cap1, .int .i64 room, .int .i64 steps, .int .i64 0, .bool false] 26 (0, 0)) := (heap_set_cell ho7).trans (by simp)
  have hd8 := kk.heap hd7 (by omega)
  have hr8 := kk.heap hr7 (by omega)
  have hG8 := hG7.kp kk (fun j c e => by have := hAlt j c; omega) (fun j c e => by have := c.2; omega)
  have s8 := kk.size
  obtain ⟨⟨u0, -, -, -, -⟩, uf⟩ := cells_five ho7
  have uf0 := uf 0
  have HG8 := Lib.hid hG8
  have HKW := Lib.hid K8
  have hbd : Hid (go < wB.heap.size ∧ w.heap.size + 2 = go ∧ wB.heap.size ≤ w7.heap.size) := Lib.hid ⟨by omega, by omega, s7⟩
  clear hG7 hG8 K8 kk hd7 hr7 hrow hdat hys hone hLB q0 q1 q2 q3 q4 qf p0 p1 p2 p3 p4 pf kA kB KB hdA hrA hdB hrB hoB uf
  go_upto_region 3 with fail
  generalize w7.setCell ⟨go, 0, none⟩ (.slice ao1 n cap1) = wC at *
  obtain ⟨⟨q0, q1, q2, q3, q4⟩, -⟩ := cells_five ho8
  have R0 : Hid (CQ (fun i => P i ∧ (i < w.heap.size ∨ wB.heap.size ≤ i)) wB.heap.size A ao1 n cap1 wC (fun j => crUp room keep L j) (.int .i64 0) wC) := Lib.hid ⟨⟨0, hs, by rfl, Nat.zero_le _, HG8.out, Kp.refl _ _⟩⟩
  clear u0 uf0 ho7 HG8
  have HO8 := Lib.hid ho8
  have HD8 := Lib.hid hd8
  have HR8 := Lib.hid hr8
  have HALT := Lib.hid hAlt
  clear hd8 hr8 ho8
  go_wp2_with fail
  clear q0 q1 q2 q3 q4
  go_loopw [23] (fun v wr => CQ (fun i => P i ∧ (i < w.heap.size ∨ wB.heap.size ≤ i)) wB.heap.size A ao1 n cap1 wC (fun j => crUp room keep L j) v wr) (fun v _ => n - (intOf v).toNat)
  case atStart => exact R0.out
  case round =>
    clear R0
    obtain ⟨j, hs, rfl, hj, hG, kr⟩ := hrel.ex
    have hAn : ∀ i, i < wB.heap.size → ¬ A i := fun i hi c => by have := (HALT.out i c).1; omega
    have hbox := kr.heap HO8.out (hAn _ hbd.out.1)
    have hszr := kr.size
    by_cases hlt : j < n
    · have hclen := crUp_len room keep L j
      have hjl : j < (crUp room keep L j).length := by omega
      have hst : Hid (crUp room keep L (j + 1) = (crUp room keep L j).set j (crX (sumL (crUp room keep L j)) room (crUp room keep L j)[j] keep[j]?)) := Lib.hid (crUp_succ room keep L j hjl)
      have hfit := crUp_fit room keep L HFIT.out j
      have hwj : IntKind.i64.wrap ((j : Int) + 1) = (j : Int) + 1 := IntWalk.i64_in _ (by omega)
      obtain ⟨b, off, rfl, hAb, hbl, hfr, hcell⟩ := hG.place (by omega)
      have hhl : j < hs.length := by have := hG.hlen; omega
      obtain ⟨c0, c1, c2⟩ := hcell j hjl hhl
      have hda := hG.data j hhl hjl
      have hxf := hfit _ (List.getElem_mem hjl)
      have hsmall := hfit.small (by omega)
      have hsb := hsmall.sum
      generalize crUp room keep L j = M at *
      have hset : Hid (M.set j M[j] = M) := Lib.hid (by simp)
      have hsum : Hid (∀ x : ByteArray × AreaP, sumL (M.set j x) = sumL M - M[j].2.safe + x.2.safe) := Lib.hid (fun x => sumL_set M j hjl x)
      have hFM := Lib.hid hfit
      generalize M[j] = x at *
      obtain ⟨nm, xd, xs⟩ := x
      generalize hs[j] = g at *
      obtain ⟨bo, mm, cc⟩ := g
      simp only [] at c0 c1 c2 hda hxf
      have hxm : xd.length = mm := hda.1.len
      have hmc : mm ≤ cc := hda.1.le
      have hcM : cc ≤ 9223372036854775807 := by have := hda.1.max; unfold maxLen at this; omega
      have hsum2 : Hid (∀ q : Int, sumL (M.set j (nm, ⟨xd, q⟩)) = sumL M - xs + q) := Lib.hid (fun q => hsum.out (nm, ⟨xd, q⟩))
      have hst2 : Hid (crUp room keep L (j + 1) = M.set j (nm, ⟨xd.take (keepA (sumL M) room ⟨xd, xs⟩ keep[j]?).toNat, keepA (sumL M) room ⟨xd, xs⟩ keep[j]?⟩)) := hst
      have hcb := keepA_bounds (sum := sumL M) (room := room) (a := ⟨xd, xs⟩) (k := keep[j]?) hxf.2.1
      simp only [] at hcb
      generalize sumL M = sm at *
      have hcE : Hid (keepA sm room ⟨xd, xs⟩ keep[j]? = max xs (min (keepN ⟨xd, xs⟩ keep[j]?) (room - sm + xs))) := Lib.hid rfl
      generalize keepA sm room ⟨xd, xs⟩ keep[j]? = c at *
      have kX : Kp Noone wr (wr.alloc (.cells #[.string nm, .slice bo mm cc, .int .i64 xs] 67)) := (Kp.refl _ _).alloc _
      have hXb := heap_alloc_new wr (.cells #[.string nm, .slice bo mm cc, .int .i64 xs] 67)
      have HSM : Hid (∀ q : Int, xs ≤ q → q ≤ c → Img.Small (M.set j (nm, ⟨xd, q⟩))) := Lib.hid (fun q h1 h2 => ⟨by rw [List.length_set]; omega, fun y hy => by
        rcases List.mem_or_eq_of_mem_set hy with hy | rfl
        · exact hsmall.2 y hy
        · show 0 ≤ q ∧ q ≤ 140737488355328
          omega⟩)
      have HG := Lib.hid hG
      have HDA := Lib.hid hda
      have HKR := Lib.hid kr
      have HKX := Lib.hid kX
      have hga1 : ∀ i, A i → i < wr.heap.size := fun i hi => (hG.base i hi).2
      obtain ⟨⟨q0, q1, q2, q3, q4⟩, -⟩ := cells_five hbox
      clear hG hda hfit hsmall hst hsum kr hcell kX hrel hclen
      go_upto_region 7 with fail
      generalize wr.alloc (.cells #[.string nm, .slice bo mm cc, .int .i64 xs] 67) = wX at *
      clear q0 q1 q2 q3 q4 c0 c1 c2
      generalize hga : wr.heap.size = ga at *
      obtain ⟨z0, z1, z2, -⟩ := cells_three hXb
      have hGX := HG.out.keep HKX.out
      have R1 : Hid (CI (fun i => P i ∧ (i < w.heap.size ∨ wB.heap.size ≤ i)) wB.heap.size A hs (some ⟨b, off, none⟩) n cap1 wX M j nm xd xs c (.int .i64 xs) wX) := Lib.hid ⟨⟨xs, rfl, Int.le_refl _, hcb.1, by rw [hset.out]; exact hGX, Kp.refl _ _⟩⟩
      clear hGX
      go_wp2_with fail
      clear z0 z1 z2
      go_loopw [8] (fun v wq => CI (fun i => P i ∧ (i < w.heap.size ∨ wB.heap.size ≤ i)) wB.heap.size A hs (some ⟨b, off, none⟩) n cap1 wX M j nm xd xs c v wq) (fun v _ => (c - intOf v).toNat)
      case atStart => exact R1.out
      case round =>
        clear R1
        obtain ⟨q, rfl, hq1, hq2, hGq, kq⟩ := hrel.ex
        have HGQ := Lib.hid hGq
        have HKQ := Lib.hid kq
        have hAX : ∀ i, i < wB.heap.size ∨ ga ≤ i → ¬ A i := fun i hi ci => by
          rcases hi with hi | hi
          · exact hAn i hi ci
          · have := hga1 i ci; omega
        have hboxq := kq.heap (HKX.out.heap hbox id) (hAX _ (Or.inl hbd.out.1))
        have hxbq := kq.heap hXb (hAX _ (Or.inr (Nat.le_refl _)))
        have hdq := kq.heap (HKX.out.heap (HKR.out.heap HD8.out (hAn _ (by have := hbd.out; omega))) id) (hAX _ (Or.inl (by have := hbd.out; omega)))
        have hkeep : ∀ i, i < w.heap.size → ∀ (o : Nat) (v : Value), w.cell? ⟨i, o, none⟩ = some v → wr.cell? ⟨i, o, none⟩ = some v := fun i hi o v hv => by
          have := hbd.out
          exact kq.cell (HKX.out.cell (HKR.out.cell (HKW.out.cell hv id) (hAn _ (by show i < _; omega))) id) (hAX _ (Or.inl (by show i < _; omega)))
        have hxw := hxf.1
        go_upto_region 8 with fail
        go_cut [61] from 33 to 61 (fun v wx => v = .bool (decide (q < c)) ∧ Kp Noone wr wx)
        case first =>
          have hcE := hcE.out
          unfold keepN at hcE
          by_cases hkj : j < km
          · obtain ⟨bk, offk, hkl2, rfl, hbk, hkc⟩ := HK.out.at hkj
            have hkc2 := hkeep bk hbk _ _ hkc
            rw [List.getElem?_eq_getElem hkl2] at hcE
            generalize keep[j] = v at *
            simp only [] at hcE
            obtain ⟨z0, z1, z2, -⟩ := cells_three hxbq
            have hw1 : IntKind.i64.wrap (q - xs) = q - xs := IntWalk.i64_in _ (by omega)
            by_cases h1 : q < (mm : Int)
            · by_cases h2 : q - xs < v
              · have hra : RA (fun _ => True) wr (some ⟨b, off, none⟩) n cap1 (M.set j (nm, ⟨xd, q⟩)) := HGQ.out.ra (fun _ _ _ => trivial) (fun _ _ _ => trivial)
                have k0 : Kp Noone wr wr.drew := (Kp.refl _ _).drew
                have HS := safe_ref (fun _ => True) (some ⟨b, off, none⟩) n cap1 (M.set j (nm, ⟨xd, q⟩)) room steps 0 false wr.drew (hra.keep k0) (HSM.out q hq1 hq2)
                rw [hsum2.out q] at HS
                have hcs : ∀ w', Kp Noone wr w' → ((w'.cell? ⟨go, 0, none⟩ = some (.slice (some ⟨b, off, none⟩) n cap1) ∧ w'.cell? ⟨go, 1, none⟩ = some (.int .i64 room) ∧ w'.cell? ⟨go, 2, none⟩ = some (.int .i64 steps) ∧ w'.cell? ⟨go, 3, none⟩ = some (.int .i64 0) ∧ w'.cell? ⟨go, 4, none⟩ = some (.bool false)) ∧
                    w'.cell? ⟨ga, 1, none⟩ = some (.slice bo mm cc) ∧ w'.cell? ⟨ga, 2, none⟩ = some (.int .i64 xs) ∧ w'.cell? ⟨bk, offk + j, none⟩ = some (.int .i64 v) ∧ w'.cell? ⟨w.heap.size, 1, none⟩ = some (.int .i64 room)) := fun w' k => by
                  obtain ⟨y0, y1, y2, -⟩ := cells_three (k.heap hxbq id)
                  exact ⟨(cells_five (k.heap hboxq id)).1, y1, y2, k.cell hkc2 id, (cells_five (k.heap hdq id)).1.2.1⟩
                by_cases h3 : sm - xs + q < room
                · have hnq : q < c := by omega
                  have HQ := Lib.hid hnq
                  clear hcE hnq hkeep hra z0 z1 z2
                  go_region_held3 (fun w' => (w'.cell? ⟨go, 0, none⟩ = some (.slice (some ⟨b, off, none⟩) n cap1) ∧ w'.cell? ⟨go, 1, none⟩ = some (.int .i64 room) ∧ w'.cell? ⟨go, 2, none⟩ = some (.int .i64 steps) ∧ w'.cell? ⟨go, 3, none⟩ = some (.int .i64 0) ∧ w'.cell? ⟨go, 4, none⟩ = some (.bool false)) ∧
                      w'.cell? ⟨ga, 1, none⟩ = some (.slice bo mm cc) ∧ w'.cell? ⟨ga, 2, none⟩ = some (.int .i64 xs) ∧ w'.cell? ⟨bk, offk + j, none⟩ = some (.int .i64 v) ∧ w'.cell? ⟨w.heap.size, 1, none⟩ = some (.int .i64 room))
                    (first | exact hcs _ k0 | exact hcs _ k2)
                    ((go_at_call 27; refine HS.mono ?_; rintro e w1 ⟨rfl, k1⟩; have k2 : Kp Noone wr w1 := k0.trans k1))
                  have HK2 := Lib.hid k2
                  clear hcs HS k0 k1 k2
                  go_wp2_with fail
                  go_meet
                  case rel => exact ⟨by rw [decide_eq_true HQ.out], HK2.out⟩
                · have hnq : ¬ q < c := by omega
                  have HQ := Lib.hid hnq
                  clear hcE hnq hkeep hra z0 z1 z2
                  go_region_held3 (fun w' => (w'.cell? ⟨go, 0, none⟩ = some (.slice (some ⟨b, off, none⟩) n cap1) ∧ w'.cell? ⟨go, 1, none⟩ = some (.int .i64 room) ∧ w'.cell? ⟨go, 2, none⟩ = some (.int .i64 steps) ∧ w'.cell? ⟨go, 3, none⟩ = some (.int .i64 0) ∧ w'.cell? ⟨go, 4, none⟩ = some (.bool false)) ∧
                      w'.cell? ⟨ga, 1, none⟩ = some (.slice bo mm cc) ∧ w'.cell? ⟨ga, 2, none⟩ = some (.int .i64 xs) ∧ w'.cell? ⟨bk, offk + j, none⟩ = some (.int .i64 v) ∧ w'.cell? ⟨w.heap.size, 1, none⟩ = some (.int .i64 room))
                    (first | exact hcs _ k0 | exact hcs _ k2)
                    ((go_at_call 27; refine HS.mono ?_; rintro e w1 ⟨rfl, k1⟩; have k2 : Kp Noone wr w1 := k0.trans k1))
                  have HK2 := Lib.hid k2
                  clear hcs HS k0 k1 k2
                  go_wp2_with fail
                  go_meet
                  case rel => exact ⟨by rw [show decide (q < c) = decide (sm - xs + q < room) from by rw [decide_eq_false (show ¬ q < c by have := HQ.out; omega), decide_eq_false (show ¬ sm - xs + q < room by omega)]], HK2.out⟩
              · have hnq : ¬ q < c := by omega
                have HQ := Lib.hid hnq
                clear hcE hnq hkeep
                go_quiet (fail)
                go_wp2_with fail
                go_meet
                case rel => exact ⟨by rw [decide_eq_false (by have := HQ.out; omega)], (Kp.refl _ _).drewN _⟩
            · have hnq : ¬ q < c := by omega
              have HQ := Lib.hid hnq
              clear hcE hnq hkeep
              go_quiet (fail)
              go_wp2_with fail
              go_meet
              case rel => exact ⟨by rw [decide_eq_false (by have := HQ.out; omega)], (Kp.refl _ _).drewN _⟩
          · rw [List.getElem?_eq_none (by omega)] at hcE
            simp only [] at hcE
            have hnq : ¬ q < c := by omega
            have HQ := Lib.hid hnq
            clear hcE hnq hkeep
            go_quiet (fail)
            go_wp2_with fail
            go_meet
            case rel => exact ⟨by rw [decide_eq_false (by have := HQ.out; omega)], (Kp.refl _ _).drewN _⟩
        case rest =>
        obtain ⟨rfl, kx⟩ := hcut
        have hGc := HGQ.out.keep kx
        have hboxc := kx.heap hboxq id
        have hxbc := kx.heap hxbq id
        have HDC := Lib.hid (kx.heap hdq id)
        have HKC := Lib.hid (HKQ.out.trans kx.none)
        clear hboxq hxbq hdq hkeep kq hGq hrel
        obtain ⟨b', off', e, -, hbc, hfr', hcell'⟩ := hGc.place (by omega)
        obtain ⟨rfl, rfl⟩ : b = b' ∧ off = off' := by
          have e1 := Option.some.inj e
          exact ⟨congrArg Addr.block e1, congrArg Addr.off e1⟩
        obtain ⟨d0, d1, d2⟩ := hcell' j (by rw [List.length_set]; exact hjl) hhl
        simp only [List.getElem_set_self] at d0 d2
        obtain ⟨⟨q0, q1, q2, q3, q4⟩, -⟩ := cells_five hboxc
        have f2 := hfr' (off + j * 3 + 2)
        have hwr := Lib.hid (kx.size)
        by_cases hqc : q < c
        · have hwq : IntKind.i64.wrap (q + 1) = q + 1 := IntWalk.i64_in _ (by omega)
          have R : Hid (CI (fun i => P i ∧ (i < w.heap.size ∨ wB.heap.size ≤ i)) wB.heap.size A hs (some ⟨b, off, none⟩) n cap1 wX M j nm xd xs c (.int .i64 (q + 1)) (wc.setCell ⟨b, off + j * 3 + 2, none⟩ (.int .i64 (q + 1)))) := Lib.hid ⟨⟨q + 1, rfl, by omega, by omega, by
            have h1 := hGc.setSafe hAb (k := j) (by rw [List.length_set]; exact hjl) (q + 1)
            simp only [List.getElem_set_self, List.set_set] at h1
            exact h1, HKC.out.setCell (fun _ => hAb) _⟩⟩
          clear hGc hcell' hfr' d0 d1 hbc e
          go_wp2_with fail
          go_roundw
          case rel => exact R.out
          case measure => simp [intOf]; omega
        · obtain rfl : q = c := by omega
          obtain ⟨qn, rfl⟩ : ∃ qn : Nat, q = (qn : Int) := ⟨q.toNat, by omega⟩
          have hqm : qn ≤ mm := by omega
          have hDc := (HDA.out.keep HKX.out).kp HKC.out (fun i _ c e => c.2 e)
          have hbt := hDc.1.fore hqm
          have htl : (xd.take qn).length = qn := by rw [List.length_take]; omega
          have hgx : ga < wX.heap.size := (Array.getElem?_eq_some_iff.1 hXb).1
          have hszc := HKC.out.size
          have hCp : Calls Tryz.prog 26 #[.slice bo qn cc] wc.drew fun e w2 => e = .returned (.slice (some ⟨wc.heap.size, 0, none⟩) qn qn) ∧ Kp Noone wc.drew w2 ∧ DataP (fun i => (P i ∧ (i < w.heap.size ∨ wB.heap.size ≤ i)) ∧ ¬ A i) w2 (some ⟨wc.heap.size, 0, none⟩) qn qn (xd.take qn) := by
            refine (copy_exact bo qn cc (xd.take qn) wc.drew (hbt.keep ((Kp.refl _ _).drew)) (by omega)).mono ?_
            rintro e w8 ⟨he, hw8⟩
            obtain ⟨hbc, kw⟩ := copied2 hw8 htl (by unfold maxLen; omega)
            refine ⟨he, kw, ?_⟩
            have hcp := (congrArg (fun x => x.heap[wc.heap.size]?) hw8).trans (heap_alloc_new wc.drew _)
            have h1 := (Array.getElem?_eq_some_iff.1 hcp).1
            have hb := hbd.out
            exact (show DataP (fun i => i = wc.heap.size) w8 (some ⟨wc.heap.size, 0, none⟩) qn qn (xd.take qn) from ⟨hbc, fun _ a ha => by cases ha; exact ⟨rfl, h1⟩⟩).mono (fun i _ e => by
              subst e
              exact ⟨⟨HP.out _ (by omega), Or.inr (by omega)⟩, fun c => by have := hga1 _ c; omega⟩)
          have hcs : ∀ w', Kp A wc w' → (w'.cell? ⟨go, 0, none⟩ = some (.slice (some ⟨b, off, none⟩) n cap1) ∧ w'.cell? ⟨ga, 0, none⟩ = some (.string nm) ∧ w'.cell? ⟨ga, 1, none⟩ = some (.slice bo mm cc)) := fun w' k => by
            obtain ⟨y0, y1, y2, -⟩ := cells_three (k.heap hxbc (hAX _ (Or.inr (Nat.le_refl _))))
            exact ⟨(cells_five (k.heap hboxc (hAX _ (Or.inl hbd.out.1)))).1.1, y0, y1⟩
          have HGC := Lib.hid hGc
          have g0 := hfr' (off + j * 3)
          have g1 := hfr' (off + j * 3 + 1)
          have hst3 : Hid (crUp room keep L (j + 1) = M.set j (nm, ⟨xd.take qn, (qn : Int)⟩)) := Lib.hid (by rw [hst2.out, Int.toNat_natCast])
          have k0 : Kp A wc wc.drew := (Kp.refl _ _).drew
          have hpl : ∀ w2, Kp Noone wc.drew w2 → w2.cell? ⟨b, off + j * 3, none⟩ = some (.string nm) ∧ w2.cell? ⟨b, off + j * 3 + 1, none⟩ = some (.slice hs[j].1 hs[j].2.1 hs[j].2.2) ∧ w2.cell? ⟨b, off + j * 3 + 2, none⟩ = some (.int .i64 (qn : Int)) ∧
              w2.frozen? ⟨b, off + j * 3, none⟩ = false ∧ w2.frozen? ⟨b, off + j * 3 + 1, none⟩ = false ∧ w2.frozen? ⟨b, off + j * 3 + 2, none⟩ = false := fun w2 k2 => by
            have k3 := ((Kp.refl Noone wc).drew).trans k2
            obtain ⟨_, _, e, -, -, hfr2, hcell2⟩ := (HGC.out.keep k3).place (by omega)
            cases e
            obtain ⟨x0, x1, x2⟩ := hcell2 j (by rw [List.length_set]; exact hjl) hhl
            simp only [List.getElem_set_self] at x0 x2
            exact ⟨x0, x1, x2, hfr2 _, hfr2 _, hfr2 _⟩
          obtain ⟨y0, y1, y2, -⟩ := cells_three hxbc
          clear hGc hcell' hfr' hbc e hst2 hDc hbt hq1 hq2 hqc hcb d0 d1 d2 f2 g0 g1
          have hx0 : (0 : Int) ≤ (qn : Int) := by omega
          have hx1 : (qn : Int) ≤ (cc : Int) := by omega
          have hx2 : qn ≤ cc := by omega
          go_upto_region 11 with fail
          clear y0 y1 y2 q0 q1 q2 q3 q4
          go_region_held3 (fun w' => w'.cell? ⟨go, 0, none⟩ = some (.slice (some ⟨b, off, none⟩) n cap1) ∧ w'.cell? ⟨ga, 0, none⟩ = some (.string nm) ∧ w'.cell? ⟨ga, 1, none⟩ = some (.slice bo mm cc))
            (first | exact hcs _ k0 | exact hcs _ k2 | exact hcs _ (((k2.setCell (fun _ => hAb) _).setCell (fun _ => hAb) _).setCell (fun _ => hAb) _))
            ((go_at_call 26; refine hCp.mono ?_; rintro e w2 ⟨rfl, k1, hd2⟩; have k2 : Kp A wc w2 := k0.trans k1.none; obtain ⟨x0, x1, x2, x3, x4, x5⟩ := hpl _ k1))
          have k3 := ((Kp.refl Noone wc).drew).trans k1
          have hG3 := (HGC.out.keep k3).setAll hAb (k := j) (by rw [List.length_set]; exact hjl) (nm, ⟨xd.take qn, (qn : Int)⟩) _ _ _ hd2
          simp only [List.set_set] at hG3
          have R : Hid (CQ (fun i => P i ∧ (i < w.heap.size ∨ wB.heap.size ≤ i)) wB.heap.size A (some ⟨b, off, none⟩) n cap1 wC (fun j => crUp room keep L j) (.int .i64 ((j + 1 : Nat) : Int)) (((w2.setCell ⟨b, off + j * 3, none⟩ (.string nm)).setCell ⟨b, off + j * 3 + 1, none⟩ (.slice (some ⟨wc.heap.size, 0, none⟩) qn qn)).setCell ⟨b, off + j * 3 + 2, none⟩ (.int .i64 (qn : Int)))) := Lib.hid
            ⟨⟨j + 1, _, rfl, by omega, by
              show RGA _ _ _ _ _ _ _ _ (crUp room keep L (j + 1))
              rw [hst3.out]
              exact hG3, ((((HKR.out.trans HKX.out.none).trans (HKC.out.trans k3.none)).setCell (fun _ => hAb) _).setCell (fun _ => hAb) _).setCell (fun _ => hAb) _⟩⟩
          clear hG3 k3 k0 k1 k2 hd2 hpl hcs hCp x0 x1 x2 x3 x4 x5
          go_wp2_with fail
          go_roundw
          case rel => exact R.out
          case measure => simp [intOf]; omega
    · obtain rfl : j = n := by omega
      have hrr := kr.heap HR8.out (hAn _ (by have := hbd.out; omega))
      have hRA : RA (fun i => P i ∧ i ≠ w.heap.size + 1) wr ao1 j cap1 (crUp room keep L j) := hG.ra (fun i h1 _ => ⟨HP.out i (by have := hbd.out; omega), by have := hbd.out; omega⟩) (fun i _ c => ⟨c.1, by have := hbd.out; have := c.2; omega⟩)
      have hK : Kp Noone w wr := HKW.out.fin kr (fun i c => Or.inr (by have := (HALT.out i c).1; have := hbd.out; omega))
      have hlen := crUp_len room keep L j
      have HRA := Lib.hid hRA
      have HKK := Lib.hid hK
      obtain ⟨⟨q0, q1, q2, q3, q4⟩, -⟩ := cells_five hbox
      clear hG hRA hK kr hrel hbox
      generalize crUp room keep L j = M at *
      rw [hn] at hlen
      subst hlen
      go_wp2_with (refine wpList_store_disk (by dsimp only) (.tmp 4) (.tmp 87) (by dsimp only) (w.heap.size + 1) ao1 cap1 ⟨M, room, steps, 0, false⟩ (by rfl) (by rfl) hrr ?_)
      refine bodyPost_ret (v := rdV ao1 cap1 ⟨M, room, steps, 0, false⟩) (results_cell_row (ty := 26) rfl _ _ (w.heap.size + 1) _ _ _ _ rfl (putD_heap ao1 cap1 ⟨M, room, steps, 0, false⟩ hrr) Tryz.underlying26 rfl info_disk) rfl ?_
      have hE := HR.out
      subst hE
      exact ⟨ao1, cap1, rfl, (HRA.out.kp (putD_kp _ _ _ _ _) (fun i _ c e => c.2 e)).mono (fun i _ c => c.1), HKK.out.fin (putD_kp _ _ _ _ _) (fun j c => Or.inr (by omega))⟩

end Go.Proofs.YtigdhdclfdojgaaGreat

/-
  THE WALK of the document's why.
-/
namespace Go.Proofs.YtigdhdclfdojgaaGreat
open Go.RowKit

def opV (o : OpD) (bo : Option Addr) (bm bc : Nat) (ko : Option Addr) (km kc : Nat) : Value := .agg #[.int .i64 o.k, .string o.name, .string o.dest, .slice bo bm bc, .int .i64 o.n, .slice ko km kc]
theorem cells_six {w : World} {p e : Nat} {c0 c1 c2 c3 c4 c5 : Value} (h : w.heap[p]? = some (.cells #[c0, c1, c2, c3, c4, c5] e (0, 0))) :
    w.cell? ⟨p, 0, none⟩ = some c0 ∧ w.cell? ⟨p, 1, none⟩ = some c1 ∧ w.cell? ⟨p, 2, none⟩ = some c2 ∧ w.cell? ⟨p, 3, none⟩ = some c3 ∧ w.cell? ⟨p, 4, none⟩ = some c4 ∧ w.cell? ⟨p, 5, none⟩ = some c5 := by
  have hc : ∀ j v, #[c0, c1, c2, c3, c4, c5][j]? = some v → w.cell? ⟨p, j, none⟩ = some v := fun j v hv => by rw [cell_of_row w p j _ e (0, 0) h]; exact hv
  exact ⟨hc 0 _ rfl, hc 1 _ rfl, hc 2 _ rfl, hc 3 _ rfl, hc 4 _ rfl, hc 5 _ rfl⟩
def whyR (m : RD) (o : OpD) : Nat :=
  if m.down = true then 2
  else if nameOk o.name = false then 40
  else if 0 < o.k ∧ alGet o.name m.L = none then 41
  else if o.k = 0 then (if alGet o.name m.L = none ∧ 64 ≤ m.L.length then 43 else if 4194304 < ((get0 o.name m.L).data.length : Int) + o.b.length then 12 else 0)
  else if o.k = 1 then (if m.room < sumL m.L - (get0 o.name m.L).safe + (get0 o.name m.L).data.length then 42 else 0)
  else if o.k = 2 then (if o.n < 0 ∨ ((get0 o.name m.L).data.length : Int) < o.n then 1 else 0)
  else if o.k = 3 then (if nameOk o.dest = false then 40 else 0)
  else 0

set_option maxHeartbeats 4000000 in
set_option maxRecDepth 100000 in
theorem why_any (P : Nat → Prop) (ao : Option Addr) (cap : Nat) (m : RD) (o : OpD) (bo : Option Addr) (bm bc : Nat) (ko : Option Addr) (km kc : Nat) (w : World) (h : RA P w ao m.L.length cap m.L) (hok : ROk m) (hop : OpOk o 1048576) (hb : o.b.length = bm) (hK : 0 ≤ o.k ∧ o.k ≤ 5) :
    Calls Tryz.prog 36 #[rdV ao cap m, opV o bo bm bc ko km kc] w fun e w' => e = .returned (.int .i64 (whyR m o : Int)) ∧ Kp Noone w w' := by
  obtain ⟨L, room, steps, fuse, down⟩ := m
  obtain ⟨K, nm, tn, b, N, keep⟩ := o
  obtain ⟨n, hn⟩ : ∃ n, L.length = n := ⟨_, rfl⟩
  have h64 := hok.len
  have hsm := hok.fit.small h64
  have hfit := hok.fit
  have hroom := hok.room
  have hnm : nm.size ≤ 9223372036854775807 := by have := hop.name; unfold maxLen at this; simp only [] at this; omega
  have hto : tn.size ≤ 9223372036854775807 := by have := hop.dest; unfold maxLen at this; simp only [] at this; omega
  have hN := hop.n
  have hbl := hop.b
  simp only [] at h h64 hsm hfit hroom hN hbl hK hb
  rw [hn] at h h64
  have hsb := hsm.sum
  obtain ⟨RES, hRES⟩ : ∃ x, Hid (whyR ⟨L, room, steps, fuse, down⟩ ⟨K, nm, tn, b, N, keep⟩ = x) := ⟨_, Lib.hid rfl⟩
  rw [hRES.out]
  have hA := heap_alloc_new w (.cells #[.slice ao n cap, .int .i64 room, .int .i64 steps, .int .i64 fuse, .bool down] 26)
  have eA := alloc_size w (.cells #[.slice ao n cap, .int .i64 room, .int .i64 steps, .int .i64 fuse, .bool down] 26)
  have kA : Kp Noone w ((w.alloc (.cells #[.slice ao n cap, .int .i64 room, .int .i64 steps, .int .i64 fuse, .bool down] 26)).alloc (.cells #[.int .i64 K, .string nm, .string tn, .slice bo bm bc, .int .i64 N, .slice ko km kc] 50)) := ((Kp.refl _ _).alloc _).alloc _
  have hdA := ((Kp.refl Noone (w.alloc (.cells #[.slice ao n cap, .int .i64 room, .int .i64 steps, .int .i64 fuse, .bool down] 26))).alloc (.cells #[.int .i64 K, .string nm, .string tn, .slice bo bm bc, .int .i64 N, .slice ko km kc] 50)).heap hA id
  have hoA := heap_alloc_new (w.alloc (.cells #[.slice ao n cap, .int .i64 room, .int .i64 steps, .int .i64 fuse, .bool down] 26)) (.cells #[.int .i64 K, .string nm, .string tn, .slice bo bm bc, .int .i64 N, .slice ko km kc] 50)
  rw [eA] at hoA
  have HL := Lib.hid (h.keep kA)
  have HSM := Lib.hid hsm
  have HFIT := Lib.hid hfit
  have HKA := Lib.hid kA
  clear h hA eA hfit hok hop kA hsm
  unfold rdV rdC opV
  simp only [hn]
  go_enter Tryz.func36, Tryz.ntmps36
  go_upto_region 1 with fail
  generalize (w.alloc (.cells #[.slice ao n cap, .int .i64 room, .int .i64 steps, .int .i64 fuse, .bool down] 26)).alloc (.cells #[.int .i64 K, .string nm, .string tn, .slice bo bm bc, .int .i64 N, .slice ko km kc] 50) = wA at *
  obtain ⟨⟨q0, q1, q2, q3, q4⟩, -⟩ := cells_five hdA
  obtain ⟨z0, z1, z2, z3, z4, z5⟩ := cells_six hoA
  cases down with
  | true =>
    have HE : Hid (RES = 2) := Lib.hid (by rw [← hRES.out]; simp [whyR])
    go_wp2_with fail
    go_ret
    exact ⟨by rw [HE.out]; rfl, HKA.out⟩
  | false =>
    go_wp2_with fail
    refine (refRight_any nm wA hnm).mono ?_
    rintro e w1 ⟨rfl, rfl⟩
    cases hno : rightL nm.data.toList with
    | false =>
      have HE : Hid (RES = 40) := Lib.hid (by rw [← hRES.out]; simp [whyR, nameOk, hno])
      clear hno
      go_wp2_with fail
      go_ret
      exact ⟨by rw [HE.out]; rfl, HKA.out⟩
    | true =>
      have hW : Hid (RES = if 0 < K ∧ alGet nm L = none then 41
        else if K = 0 then (if alGet nm L = none ∧ 64 ≤ L.length then 43 else if 4194304 < ((get0 nm L).data.length : Int) + b.length then 12 else 0)
        else if K = 1 then (if room < sumL L - (get0 nm L).safe + (get0 nm L).data.length then 42 else 0)
        else if K = 2 then (if N < 0 ∨ ((get0 nm L).data.length : Int) < N then 1 else 0)
        else if K = 3 then (if nameOk tn = false then 40 else 0) else 0) := Lib.hid (by rw [← hRES.out]; unfold whyR nameOk; simp only [hno]; simp)
      clear hno hRES
      go_wp2_with fail
      refine (at_ref _ ao n cap L room steps fuse false nm wA HL.out (by omega)).mono ?_
      rintro e w2 ⟨rfl, k2⟩
      have hd2 := k2.heap hdA id
      have ho2 := k2.heap hoA id
      have HL2 := Lib.hid (HL.out.keep k2)
      have HK2 := Lib.hid (HKA.out.trans k2)
      clear q0 q1 q2 q3 q4 z0 z1 z2 z3 z4 z5 k2 hdA hoA HL HKA
      obtain ⟨⟨q0, q1, q2, q3, q4⟩, -⟩ := cells_five hd2
      obtain ⟨z0, z1, z2, z3, z4, z5⟩ := cells_six ho2
      by_cases hz : alGet nm L = none
      · have hat := atL_none hz
        have hg0 : get0 nm L = ⟨[], 0⟩ := by unfold get0; rw [hz]; rfl
        have hW2 := hW.out
        rw [hg0] at hW2
        simp only [hz, and_true, true_and, List.length_nil] at hW2
        clear hW hz hg0
        generalize atL L nm = pl at *
        subst hat
        by_cases hK0 : 0 < K
        · rw [if_pos hK0] at hW2
          have HE := Lib.hid hW2
          clear hW2
          go_wp2_with fail
          go_ret
          exact ⟨by rw [HE.out]; rfl, HK2.out⟩
        · obtain rfl : K = 0 := by omega
          rw [if_neg hK0, if_pos rfl] at hW2
          by_cases hfull : 64 ≤ L.length
          · rw [if_pos hfull] at hW2
            have HE := Lib.hid hW2
            have hge : (n : Int) ≥ 64 := by omega
            clear hW2 hfull
            go_wp2_with fail
            go_ret
            exact ⟨by rw [HE.out]; rfl, HK2.out⟩
          · rw [if_neg hfull] at hW2
            have hge : ¬ (n : Int) ≥ 64 := by omega
            have hng : ¬ (4194304 : Int) < ((0 : Nat) : Int) + (b.length : Int) := by omega
            rw [if_neg hng] at hW2
            have HE := Lib.hid hW2
            have hnb : ¬ (bm : Int) > 4194304 := by omega
            clear hW2 hfull hng
            go_upto_region 12 with fail
            go_quiet (fail)
            go_wp2_with fail
            go_ret
            exact ⟨by rw [HE.out]; rfl, HK2.out.drewN _⟩
      · obtain ⟨i, hi, hat, -, hget⟩ := atL_some hz
        obtain ⟨gb, off, xo, xm, xc, rfl, hgl, -, c0, c1, c2, hda⟩ := HL2.out.get i hi
        have hxf := HFIT.out _ (List.getElem_mem hi)
        have hg0 : get0 nm L = L[i].2 := by unfold get0; rw [hget]; rfl
        have hW2 := hW.out
        rw [hg0] at hW2
        simp only [hz, and_false, false_and, if_false] at hW2
        have hS := safe_ref _ (some ⟨gb, off, none⟩) n cap L room steps fuse false w2.drew (HL2.out.keep ((Kp.refl _ _).drew)) HSM.out
        clear hW hget hg0 hz
        generalize L[i] = x at *
        obtain ⟨nx, xd, xs⟩ := x
        have hxm : xd.length = xm := hda.1.len
        simp only [] at c1 c2 hW2 hxf
        rw [hxm] at hW2 hxf
        rw [hat]
        have hin : i < n := by omega
        clear hda hat hi
        generalize sumL L = sm at *
        rcases (show K = 0 ∨ K = 1 ∨ K = 2 ∨ K = 3 ∨ K = 4 ∨ K = 5 by omega) with rfl | rfl | rfl | rfl | rfl | rfl
        · simp only [if_true] at hW2
          have hw1 : IntKind.i64.wrap ((xm : Int) + (bm : Int)) = (xm : Int) + (bm : Int) := IntWalk.i64_in _ (by omega)
          by_cases hbig : (xm : Int) + (bm : Int) > 4194304
          · rw [if_pos (by omega)] at hW2
            have HE := Lib.hid hW2
            clear hW2 hS
            go_upto_region 12 with fail
            go_quiet (fail)
            go_wp2_with fail
            go_ret
            exact ⟨by rw [HE.out]; rfl, HK2.out.drewN _⟩
          · rw [if_neg (by omega)] at hW2
            have HE := Lib.hid hW2
            have hnb : ¬ (bm : Int) > 4194304 := by omega
            clear hW2 hS
            go_upto_region 12 with fail
            go_quiet (fail)
            go_wp2_with fail
            go_ret
            exact ⟨by rw [HE.out]; rfl, HK2.out.drewN _⟩
        · simp only [Int.reduceEq, if_false, if_true] at hW2
          have hw1 : IntKind.i64.wrap (sm - xs) = sm - xs := IntWalk.i64_in _ (by omega)
          have hw2 : IntKind.i64.wrap (sm - xs + (xm : Int)) = sm - xs + (xm : Int) := IntWalk.i64_in _ (by omega)
          have hcs : ∀ w', Kp Noone w2 w' → ((w'.cell? ⟨w.heap.size, 0, none⟩ = some (.slice (some ⟨gb, off, none⟩) n cap) ∧ w'.cell? ⟨w.heap.size, 1, none⟩ = some (.int .i64 room) ∧ w'.cell? ⟨w.heap.size, 2, none⟩ = some (.int .i64 steps) ∧ w'.cell? ⟨w.heap.size, 3, none⟩ = some (.int .i64 fuse) ∧ w'.cell? ⟨w.heap.size, 4, none⟩ = some (.bool false)) ∧
              w'.cell? ⟨gb, off + i * 3 + 1, none⟩ = some (.slice xo xm xc) ∧ w'.cell? ⟨gb, off + i * 3 + 2, none⟩ = some (.int .i64 xs)) := fun w' k => ⟨(cells_five (k.heap hd2 id)).1, k.cell c1 id, k.cell c2 id⟩
          have k0 : Kp Noone w2 w2.drew := (Kp.refl _ _).drew
          go_upto_region 15 with fail
          clear q0 q1 q2 q3 q4 z0 z1 z2 z3 z4 z5 c0 c1 c2
          go_region_held3 (fun w' => (w'.cell? ⟨w.heap.size, 0, none⟩ = some (.slice (some ⟨gb, off, none⟩) n cap) ∧ w'.cell? ⟨w.heap.size, 1, none⟩ = some (.int .i64 room) ∧ w'.cell? ⟨w.heap.size, 2, none⟩ = some (.int .i64 steps) ∧ w'.cell? ⟨w.heap.size, 3, none⟩ = some (.int .i64 fuse) ∧ w'.cell? ⟨w.heap.size, 4, none⟩ = some (.bool false)) ∧
              w'.cell? ⟨gb, off + i * 3 + 1, none⟩ = some (.slice xo xm xc) ∧ w'.cell? ⟨gb, off + i * 3 + 2, none⟩ = some (.int .i64 xs))
            (first | exact hcs _ k0 | exact hcs _ k4)
            ((go_at_call 27; refine hS.mono ?_; rintro e w4 ⟨rfl, k3⟩; have k4 : Kp Noone w2 w4 := k0.trans k3))
          have HK4 := Lib.hid (HK2.out.trans k4)
          clear hcs k0 k3 k4 hS
          by_cases hbig : sm - xs + (xm : Int) > room
          · rw [if_pos (by omega)] at hW2
            have HE := Lib.hid hW2
            clear hW2
            go_wp2_with fail
            go_ret
            exact ⟨by rw [HE.out]; rfl, HK4.out⟩
          · rw [if_neg (by omega)] at hW2
            have HE := Lib.hid hW2
            clear hW2
            go_wp2_with fail
            go_ret
            exact ⟨by rw [HE.out]; rfl, HK4.out⟩
        · simp only [Int.reduceEq, if_false, if_true] at hW2
          clear hS
          by_cases h0 : N < 0
          · rw [if_pos (Or.inl h0)] at hW2
            have HE := Lib.hid hW2
            clear hW2
            go_upto_region 18 with fail
            go_quiet (fail)
            go_wp2_with fail
            go_ret
            exact ⟨by rw [HE.out]; rfl, HK2.out.drewN _⟩
          · by_cases h1 : N > (xm : Int)
            · rw [if_pos (Or.inr (by omega))] at hW2
              have HE := Lib.hid hW2
              clear hW2
              go_upto_region 18 with fail
              go_quiet (fail)
              go_wp2_with fail
              go_ret
              exact ⟨by rw [HE.out]; rfl, HK2.out.drewN _⟩
            · rw [if_neg (by omega)] at hW2
              have HE := Lib.hid hW2
              clear hW2
              go_upto_region 18 with fail
              go_quiet (fail)
              go_wp2_with fail
              go_ret
              exact ⟨by rw [HE.out]; rfl, HK2.out.drewN _⟩
        · simp only [Int.reduceEq, if_false, if_true] at hW2
          clear hS
          go_wp2_with fail
          refine (refRight_any tn w2 hto).mono ?_
          rintro e w3 ⟨rfl, rfl⟩
          unfold nameOk at hW2
          cases hno : rightL tn.data.toList with
          | false =>
            rw [if_pos hno] at hW2
            have HE := Lib.hid hW2
            clear hW2 hno
            go_wp2_with fail
            go_ret
            exact ⟨by rw [HE.out]; rfl, HK2.out⟩
          | true =>
            rw [if_neg (by rw [hno]; simp)] at hW2
            have HE := Lib.hid hW2
            clear hW2 hno
            go_wp2_with fail
            go_ret
            exact ⟨by rw [HE.out]; rfl, HK2.out⟩
        · simp only [Int.reduceEq, if_false] at hW2
          have HE := Lib.hid hW2
          clear hW2 hS
          go_wp2_with fail
          go_ret
          exact ⟨by rw [HE.out]; rfl, HK2.out⟩
        · simp only [Int.reduceEq, if_false] at hW2
          have HE := Lib.hid hW2
          clear hW2 hS
          go_wp2_with fail
          go_ret
          exact ⟨by rw [HE.out]; rfl, HK2.out⟩

end Go.Proofs.YtigdhdclfdojgaaGreat

/-
  THE WALK of the document's change.
-/
namespace Go.Proofs.YtigdhdclfdojgaaGreat
open Go.RowKit

def changeL (L : Img) (o : OpD) : Img :=
  if o.k = 0 then withL L (o.name, ⟨(get0 o.name L).data ++ o.b, (get0 o.name L).safe⟩)
  else if o.k = 1 then withL L (o.name, ⟨(get0 o.name L).data, (get0 o.name L).data.length⟩)
  else if o.k = 2 then withL L (o.name, cutA (get0 o.name L) o.n)
  else if o.k = 3 then withL (withoutL L o.name) (o.dest, get0 o.name L)
  else withoutL L o.name
/-- What change asks. -/
structure ChOk (L : Img) (o : OpD) : Prop where
  k : 0 ≤ o.k ∧ o.k ≤ 4
  there : o.k ≠ 0 → alGet o.name L ≠ none
  cut : o.k = 2 → 0 ≤ o.n ∧ o.n ≤ (get0 o.name L).data.length
  app : o.k = 0 → (get0 o.name L).data.length + o.b.length ≤ 4194304

/-- Ahead of the last With. -/
structure ChT (P : Nat → Prop) (gd gr ga : Nat) (room steps fuse : Int) (down : Bool) (RESL : Img) (w wt : World) : Prop where
  ex : ∃ (ao1 : Option Addr) (cap1 : Nat) (L1 : Img) (k1 : ByteArray) (xo : Option Addr) (xm xc : Nat) (d1 : List UInt8) (s1 : Int),
    wt.heap[gd]? = some (.cells #[.slice ao1 L1.length cap1, .int .i64 room, .int .i64 steps, .int .i64 fuse, .bool down] 26 (0, 0)) ∧
    wt.heap[gr]? = some (.cells #[.slice none 0 0, .int .i64 0, .int .i64 0, .int .i64 0, .bool false] 26 (0, 0)) ∧
    wt.heap[ga]? = some (.cells #[.string k1, .slice xo xm xc, .int .i64 s1] 67 (0, 0)) ∧
    RA (fun i => P i ∧ i ≠ gd ∧ i ≠ gr ∧ i ≠ ga) wt ao1 L1.length cap1 L1 ∧ DataP (fun i => P i ∧ i ≠ gd ∧ i ≠ gr ∧ i ≠ ga) wt xo xm xc d1 ∧ Kp Noone w wt ∧ L1.length ≤ 1048576 ∧ RESL = withL L1 (k1, ⟨d1, s1⟩) ∧ ga < wt.heap.size

theorem get0_len {L : Img} (h : L.Fit) (k : ByteArray) : 0 ≤ (get0 k L).safe ∧ (get0 k L).safe ≤ (get0 k L).data.length ∧ (get0 k L).data.length ≤ 140737488355328 := by
  unfold get0
  cases hg : alGet k L with
  | none => simp
  | some a => exact h _ (alGet_mem hg)
theorem withoutL_le (L : Img) (k : ByteArray) : (withoutL L k).length ≤ L.length := by
  have h := withoutL_len k L L.length (Nat.le_refl _)
  rwa [List.take_length] at h

set_option maxHeartbeats 4000000 in
set_option maxRecDepth 100000 in
theorem change_any (P : Nat → Prop) (ao : Option Addr) (cap : Nat) (m : RD) (o : OpD) (bo : Option Addr) (bm bc : Nat) (ko : Option Addr) (km kc : Nat) (w : World) (h : RA P w ao m.L.length cap m.L) (hP : ∀ j, w.heap.size ≤ j → P j) (hok : ROk m) (hop : OpOk o 1048576) (hb : BS w bo bm bc o.b) (hch : ChOk m.L o) :
    Calls Tryz.prog 37 #[rdV ao cap m, opV o bo bm bc ko km kc] w fun e w' => ∃ ao' cap', e = .returned (rdV ao' cap' { m with L := changeL m.L o }) ∧ RA P w' ao' (changeL m.L o).length cap' (changeL m.L o) ∧ Kp Noone w w' := by
  obtain ⟨i0, hi, hz0, hz1, hz2⟩ := info_parts info_u8
  obtain ⟨L, room, steps, fuse, down⟩ := m
  obtain ⟨K, nm, tn, b, N, keep⟩ := o
  obtain ⟨n, hn⟩ : ∃ n, L.length = n := ⟨_, rfl⟩
  have h64 := hok.len
  have hfit := hok.fit
  have hN := hop.n
  have hlb := hb.len
  obtain ⟨hK, hth, hcu, hap⟩ := hch
  have hg0 := get0_len hok.fit nm
  simp only [] at h h64 hfit hN hK hth hcu hap hg0 hb hlb
  rw [hn] at h h64
  obtain ⟨RES, hRES⟩ : ∃ x, Hid (changeL L ⟨K, nm, tn, b, N, keep⟩ = x) := ⟨_, Lib.hid rfl⟩
  simp only []
  rw [hRES.out]
  have hA := heap_alloc_new w (.cells #[.slice ao n cap, .int .i64 room, .int .i64 steps, .int .i64 fuse, .bool down] 26)
  have eA := alloc_size w (.cells #[.slice ao n cap, .int .i64 room, .int .i64 steps, .int .i64 fuse, .bool down] 26)
  have kA : Kp Noone w ((w.alloc (.cells #[.slice ao n cap, .int .i64 room, .int .i64 steps, .int .i64 fuse, .bool down] 26)).alloc (.cells #[.int .i64 K, .string nm, .string tn, .slice bo bm bc, .int .i64 N, .slice ko km kc] 50)) := ((Kp.refl _ _).alloc _).alloc _
  have hdA := ((Kp.refl Noone (w.alloc (.cells #[.slice ao n cap, .int .i64 room, .int .i64 steps, .int .i64 fuse, .bool down] 26))).alloc (.cells #[.int .i64 K, .string nm, .string tn, .slice bo bm bc, .int .i64 N, .slice ko km kc] 50)).heap hA id
  have hoA := heap_alloc_new (w.alloc (.cells #[.slice ao n cap, .int .i64 room, .int .i64 steps, .int .i64 fuse, .bool down] 26)) (.cells #[.int .i64 K, .string nm, .string tn, .slice bo bm bc, .int .i64 N, .slice ko km kc] 50)
  have eB := alloc_size (w.alloc (.cells #[.slice ao n cap, .int .i64 room, .int .i64 steps, .int .i64 fuse, .bool down] 26)) (.cells #[.int .i64 K, .string nm, .string tn, .slice bo bm bc, .int .i64 N, .slice ko km kc] 50)
  rw [eA] at hoA eB
  unfold rdV rdC opV
  simp only [hn]
  go_enter Tryz.func37, Tryz.ntmps37
  go_upto_region 1 with fail
  generalize (w.alloc (.cells #[.slice ao n cap, .int .i64 room, .int .i64 steps, .int .i64 fuse, .bool down] 26)).alloc (.cells #[.int .i64 K, .string nm, .string tn, .slice bo bm bc, .int .i64 N, .slice ko km kc] 50) = wA at *
  have hrB := heap_alloc_new wA (.cells #[.slice none 0 0, .int .i64 0, .int .i64 0, .int .i64 0, .bool false] 26)
  have kB : Kp Noone wA (wA.alloc (.cells #[.slice none 0 0, .int .i64 0, .int .i64 0, .int .i64 0, .bool false] 26)) := (Kp.refl _ _).alloc _
  have esB := alloc_size wA (.cells #[.slice none 0 0, .int .i64 0, .int .i64 0, .int .i64 0, .bool false] 26)
  rw [eB] at hrB esB
  have hdB := kB.heap hdA id
  have hoB := kB.heap hoA id
  have KB := kA.trans kB
  generalize wA.alloc (.cells #[.slice none 0 0, .int .i64 0, .int .i64 0, .int .i64 0, .bool false] 26) = wB at *
  have haC := heap_alloc_new wB (.cells #[.string nm, .slice none 0 0, .int .i64 0] 67)
  have kC : Kp Noone wB (wB.alloc (.cells #[.string nm, .slice none 0 0, .int .i64 0] 67)) := (Kp.refl _ _).alloc _
  have esC := alloc_size wB (.cells #[.string nm, .slice none 0 0, .int .i64 0] 67)
  rw [esB] at haC esC
  have hdC := kC.heap hdB id
  have hoC := kC.heap hoB id
  have hrC := kC.heap hrB id
  have KC := Lib.hid (KB.trans kC)
  obtain ⟨z0, z1, z2, z3, z4, z5⟩ := cells_six hoB
  have HL := Lib.hid (h.mono (Q := fun j => P j ∧ j < w.heap.size) (fun i hi c => ⟨c, hi⟩))
  have HB := Lib.hid (hb.dataP (P := fun j => j < w.heap.size) (fun j hj => hj))
  have HP := Lib.hid hP
  have HF := Lib.hid hfit
  clear h hb hP hA eA hok hop kA hdA hoA eB hrB kB hdB KB kC hfit
  go_upto_region 2 with fail
  clear z0 z1 z2 z3 z4 z5 hoB
  generalize wB.alloc (.cells #[.string nm, .slice none 0 0, .int .i64 0] 67) = wC at *
  generalize hgr : w.heap.size + 1 + 1 = gr at *
  generalize hga : gr + 1 = ga at *
  obtain ⟨⟨q0, q1, q2, q3, q4⟩, -⟩ := cells_five hdC
  obtain ⟨z0, z1, z2, z3, z4, z5⟩ := cells_six hoC
  go_wp2_with fail
  refine (at_ref _ ao n cap L room steps fuse down nm wC (HL.out.keep KC.out) (by omega)).mono ?_
  rintro e w2 ⟨rfl, k2⟩
  have hd2 := k2.heap hdC id
  have ho2 := k2.heap hoC id
  have hr2 := k2.heap hrC id
  have ha2 := k2.heap haC id
  have HL2 := Lib.hid (HL.out.keep (KC.out.trans k2))
  have HB2 := Lib.hid (HB.out.keep (KC.out.trans k2))
  have HK2 := Lib.hid (KC.out.trans k2)
  have hsz2 : ga < w2.heap.size := (Array.getElem?_eq_some_iff.1 ha2).1
  clear q0 q1 q2 q3 q4 z0 z1 z2 z3 z4 z5 k2 hdC hoC hrC haC HL HB KC esC
  obtain ⟨a0, a1, a2, af0, af1, af2⟩ := cells_three ha2
  obtain ⟨⟨q0, q1, q2, q3, q4⟩, qf⟩ := cells_five hd2
  obtain ⟨D, hD⟩ : ∃ x, get0 nm L = x := ⟨_, rfl⟩
  obtain ⟨d, sf⟩ := D
  rw [hD] at hg0 hcu hap
  simp only [] at hg0 hcu hap
  have hHT := Lib.hid hth
  generalize hpl : atL L nm = pl at *
  have hcase : pl = -1 ∨ ∃ i : Nat, pl = (i : Int) := by
    by_cases hz : alGet nm L = none
    · exact Or.inl (by rw [← hpl]; exact atL_none hz)
    · obtain ⟨i, _, hat, _⟩ := atL_some hz
      exact Or.inr ⟨i, by rw [← hpl]; exact hat⟩
  go_upto_if 15 with fail
  go_cut [] from 14 to 20 (fun wx => Kp (fun i => i = ga) w2 wx ∧ ∃ xo xm xc, wx.heap[ga]? = some (.cells #[.string nm, .slice xo xm xc, .int .i64 sf] 67 (0, 0)) ∧ DataP (fun j => P j ∧ j < w.heap.size) wx xo xm xc d)
  case first =>
    by_cases hz : alGet nm L = none
    · have hat := atL_none hz
      have hde : d = [] ∧ sf = 0 := by
        unfold get0 at hD
        rw [hz] at hD
        simp only [Option.getD_none, AreaP.mk.injEq] at hD
        exact ⟨hD.1.symm, hD.2.symm⟩
      obtain ⟨rfl, rfl⟩ := hde
      clear hD hcu hap hth hRES hz
      rw [hpl] at hat
      subst hat
      clear hpl hcase
      go_wp2_with fail
      go_meet
      case rel => exact ⟨Kp.refl _ _, none, 0, 0, ha2, ⟨⟨rfl, Nat.le_refl _, by simp [maxLen], Row.nil _ _⟩, fun hx => absurd rfl hx⟩⟩
    · obtain ⟨i, hi', hat, hnx, hget⟩ := atL_some hz
      obtain ⟨gb, off, xo, xm, xc, rfl, hgl, hPg, c0, c1, c2, hda⟩ := HL2.out.get i hi'
      have hDx : L[i].2 = ⟨d, sf⟩ := by rw [← hD]; unfold get0; rw [hget]; rfl
      rw [hnx] at c0
      rw [hDx] at c2 hda
      simp only [] at c2 hda
      rw [hpl] at hat
      subst hat
      clear hpl hcase
      have hin : i < n := by omega
      have HDA := Lib.hid hda
      have kS : Kp (fun i => i = ga) w2 (((w2.setCell ⟨ga, 0, none⟩ (.string nm)).setCell ⟨ga, 1, none⟩ (.slice xo xm xc)).setCell ⟨ga, 2, none⟩ (.int .i64 sf)) := ((((Kp.refl (fun j => j = ga) w2).setCell (fun _ => rfl) _).setCell (fun _ => rfl) _).setCell (fun _ => rfl) _)
      have R : Hid (Kp (fun i => i = ga) w2 (((w2.setCell ⟨ga, 0, none⟩ (.string nm)).setCell ⟨ga, 1, none⟩ (.slice xo xm xc)).setCell ⟨ga, 2, none⟩ (.int .i64 sf)) ∧ ∃ xo' xm' xc', (((w2.setCell ⟨ga, 0, none⟩ (.string nm)).setCell ⟨ga, 1, none⟩ (.slice xo xm xc)).setCell ⟨ga, 2, none⟩ (.int .i64 sf)).heap[ga]? = some (.cells #[.string nm, .slice xo' xm' xc', .int .i64 sf] 67 (0, 0)) ∧ DataP (fun j => P j ∧ j < w.heap.size) (((w2.setCell ⟨ga, 0, none⟩ (.string nm)).setCell ⟨ga, 1, none⟩ (.slice xo xm xc)).setCell ⟨ga, 2, none⟩ (.int .i64 sf)) xo' xm' xc' d) := Lib.hid
        ⟨kS, xo, xm, xc, (heap_set_cell (heap_set_cell (heap_set_cell ha2))).trans (by simp), HDA.out.kp kS (fun j _ c e => by have := c.2; omega)⟩
      clear hda hDx hget hz hD hcu hap hth hRES hnx kS
      go_wp2_with fail
      go_meet
      case rel => exact R.out
  case rest =>
  obtain ⟨kx, xo, xm, xc, hac, hdc⟩ := hcut
  have hgd1 : w.heap.size ≠ ga ∧ w.heap.size ≠ gr ∧ gr ≠ ga ∧ w.heap.size + 1 ≠ ga ∧ w.heap.size < gr ∧ gr < ga := by omega
  have hdw := kx.heap hd2 hgd1.1
  have how := kx.heap ho2 hgd1.2.2.2.1
  have hrw := kx.heap hr2 hgd1.2.2.1
  have hszc : ga < wc.heap.size := Nat.lt_of_lt_of_le hsz2 kx.size
  have HLC := Lib.hid ((HL2.out.kp kx (fun j _ c e => by have := c.2; omega)).mono (Q := fun i => P i ∧ i ≠ w.heap.size ∧ i ≠ gr ∧ i ≠ ga) (fun j _ c => ⟨c.1, by have := c.2; omega, by have := c.2; omega, by have := c.2; omega⟩))
  have HDC := Lib.hid (hdc.mono (Q := fun i => P i ∧ i ≠ w.heap.size ∧ i ≠ gr ∧ i ≠ ga) (fun j _ c => ⟨c.1, by have := c.2; omega, by have := c.2; omega, by have := c.2; omega⟩))
  have HBC : Hid (BS wc bo bm bc b) := Lib.hid (HB2.out.kp kx (fun j _ c e => by omega)).1
  have HKC : Hid (Kp Noone w wc) := Lib.hid (HK2.out.fin kx (fun j c => Or.inr (by omega)))
  have hRES2 := hRES.out
  unfold changeL at hRES2
  simp only [hD] at hRES2
  have HRES := Lib.hid hRES2
  have hxm : d.length = xm := hdc.1.len
  clear hRES2 hRES hd2 ho2 hr2 ha2 kx hdc a0 a1 a2 af0 af1 af2 q0 q1 q2 q3 q4 qf HL2 HB2 HK2 hcase hpl hsz2
  obtain ⟨a0, a1, a2, af0, af1, af2⟩ := cells_three hac
  obtain ⟨⟨q0, q1, q2, q3, q4⟩, qf⟩ := cells_five hdw
  obtain ⟨z0, z1, z2, z3, z4, z5⟩ := cells_six how
  have qf0 := qf 0
  rcases (show K = 4 ∨ K = 0 ∨ K = 1 ∨ K = 2 ∨ K = 3 by omega) with rfl | rfl | rfl | rfl | rfl
  · have hR : Hid (RES = withoutL L nm) := Lib.hid (by have h := HRES.out; simp at h; exact h.symm)
    have hwo := without_any (fun i => P i ∧ i ≠ w.heap.size ∧ i ≠ gr ∧ i ≠ ga) ao n cap L nm wc HLC.out (fun j hj => ⟨HP.out j (by have := HKC.out.size; omega), by omega, by omega, by omega⟩) (by omega)
    rw [← hR.out] at hwo
    go_wp2_with fail
    refine hwo.mono ?_
    clear hwo
    rintro e w3 ⟨ao', cap', rfl, hra, k3⟩
    have hd3 := k3.heap hdw id
    have hr3 := k3.heap hrw id
    obtain ⟨⟨u0, -, -, -, -⟩, uf⟩ := cells_five hd3
    have uf0 := uf 0
    have kS : Kp (fun i => i = w.heap.size) w3 (w3.setCell ⟨w.heap.size, 0, none⟩ (.slice ao' RES.length cap')) := (Kp.refl (fun i => i = w.heap.size) w3).setCell (fun _ => rfl) _
    have hd4 : (w3.setCell ⟨w.heap.size, 0, none⟩ (.slice ao' RES.length cap')).heap[w.heap.size]? = some (.cells #[.slice ao' RES.length cap', .int .i64 room, .int .i64 steps, .int .i64 fuse, .bool down] 26 (0, 0)) := (heap_set_cell hd3).trans (by simp)
    have hr4 := kS.heap hr3 (by omega)
    have HRA := Lib.hid (hra.kp kS (fun j _ c e => c.2.1 e))
    have HK4 : Hid (Kp Noone w (w3.setCell ⟨w.heap.size, 0, none⟩ (.slice ao' RES.length cap'))) := Lib.hid ((HKC.out.trans k3).fin kS (fun j c => Or.inr (Nat.le_of_eq c.symm)))
    clear hra k3 hd3 hr3 uf kS q0 q1 q2 q3 q4 qf qf0 z0 z1 z2 z3 z4 z5 a0 a1 a2 af0 af1 af2
    go_upto_region 19 with fail
    generalize w3.setCell ⟨w.heap.size, 0, none⟩ (.slice ao' RES.length cap') = wt at *
    obtain ⟨⟨q0, q1, q2, q3, q4⟩, -⟩ := cells_five hd4
    go_wp2_with (refine wpList_store_disk (by dsimp only) (.tmp 4) (.tmp 74) (by dsimp only) gr ao' cap' ⟨RES, room, steps, fuse, down⟩ (by rfl) (by rfl) hr4 ?_)
    refine bodyPost_ret (v := rdV ao' cap' ⟨RES, room, steps, fuse, down⟩) (results_cell_row (ty := 26) rfl _ _ gr _ _ _ _ rfl (putD_heap ao' cap' ⟨RES, room, steps, fuse, down⟩ hr4) Tryz.underlying26 rfl info_disk) rfl ?_
    exact ⟨ao', cap', rfl, (HRA.out.kp (putD_kp _ _ _ _ _) (fun i _ c e => c.2.2.1 e)).mono (fun i _ c => c.1), HK4.out.fin (putD_kp _ _ _ _ _) (fun j c => Or.inr (by omega))⟩
  case' inr.inl =>
    have hE := HRES.out
    simp only [if_true] at hE
    have hap2 := hap rfl
    have hC : Calls Tryz.prog 26 #[.slice xo xm xc] wc.drew fun e w8 => e = .returned (.slice (some ⟨wc.heap.size, 0, none⟩) xm xm) ∧ Kp Noone wc w8 ∧ Own (fun i => i = wc.heap.size) w8 5 1 (some ⟨wc.heap.size, 0, none⟩) xm xm (bv d) := by
      refine (copy_exact xo xm xc d wc.drew (HDC.out.1.keep ((Kp.refl _ _).drew)) (by omega)).mono ?_
      rintro e w8 ⟨he, hw8⟩
      obtain ⟨hbc, kw⟩ := copied2 hw8 hxm (by unfold maxLen; omega)
      refine ⟨he, ((Kp.refl Noone wc).drew).trans kw, ?_⟩
      have hcp := (congrArg (fun x => x.heap[wc.heap.size]?) hw8).trans (heap_alloc_new wc.drew _)
      exact Own.fresh rfl hcp (by rw [length_bv, hxm, Nat.mul_one]) (by unfold maxLen; omega)
    have h8 : ∀ w8, Kp Noone wc w8 → w8.cell? ⟨w.heap.size + 1, 3, none⟩ = some (.slice bo bm bc) := fun w8 k => (cells_six (k.heap how id)).2.2.2.1
    have h9 : ∀ w8 w9, Kp Noone wc w8 → Kp (fun i => i = wc.heap.size) w8 w9 → w9.cell? ⟨ga, 1, none⟩ = some (.slice xo xm xc) ∧ w9.frozen? ⟨ga, 1, none⟩ = false := fun w8 w9 k8 k9 => by
      obtain ⟨-, y1, -, -, yf, -⟩ := cells_three (k9.heap (k8.heap hac id) (by omega))
      exact ⟨y1, yf⟩
    have hX : ∀ w8 w9 ao' cap', Kp Noone wc w8 → Kp (fun i => i = wc.heap.size) w8 w9 → Own (Ex (fun i => i = wc.heap.size) w8 w9) w9 5 1 ao' (xm + bm) cap' (bv d ++ bv b) →
        ChT P w.heap.size gr ga room steps fuse down RES w (w9.setCell ⟨ga, 1, none⟩ (.slice ao' (xm + bm) cap')) := fun w8 w9 ao' cap' k8 k9 ho => by
      have kS : Kp (fun i => i = ga) w9 (w9.setCell ⟨ga, 1, none⟩ (.slice ao' (xm + bm) cap')) := (Kp.refl (fun i => i = ga) w9).setCell (fun _ => rfl) _
      have kk : Kp Noone wc w9 := k8.fin k9 (fun j c => Or.inr (Nat.le_of_eq c.symm))
      have ha9 := kk.heap hac id
      rw [bv_append] at ho
      have hd9 : DataP (fun i => P i ∧ i ≠ w.heap.size ∧ i ≠ gr ∧ i ≠ ga) w9 ao' (xm + bm) cap' (d ++ b) := ho.dataP.mono (fun i _ c => by
        have hsz := k8.size
        have hi : wc.heap.size ≤ i := by
          rcases c with c | c
          · exact Nat.le_of_eq c.symm
          · omega
        exact ⟨HP.out _ (by omega), by omega, by omega, by omega⟩)
      exact ⟨⟨ao, cap, L, nm, ao', xm + bm, cap', d ++ b, sf, by rw [hn]; exact kS.heap (kk.heap hdw id) hgd1.1, kS.heap (kk.heap hrw id) hgd1.2.2.1, (heap_set_cell ha9).trans (by simp), by rw [hn]; exact (HLC.out.keep kk).kp kS (fun j _ c e => c.2.2.2 e), hd9.kp kS (fun j _ c e => c.2.2.2 e), (HKC.out.trans kk).fin kS (fun j c => Or.inr (by omega)), by omega, hE.symm, by have := kk.size; have := kS.size; omega⟩⟩
    have HBB := Lib.hid HBC.out.row
    go_upto_region 7 with fail
    clear q0 q1 q2 q3 q4 qf qf0 hdw how hrw
    apply wp_region_to (G := fun _ _ wt => ChT P w.heap.size gr ga room steps fuse down RES w wt)
    case h =>
      go_region_law (first
        | (refine step_append_gen rfl (.tmp 27) (.tmp 29) 42 (by dsimp only) 5 i0 (.int .u8 0) 1 1 Tryz.underlying42 hi hz0 hz1 hz2 rfl (some ⟨wc.heap.size, 0, none⟩) xm xm (by rfl) bo bm bc (by rfl) (fun i => i = wc.heap.size) (bv d) how8 (bv b) (by rw [length_bv, hlb, Nat.mul_one]) (HBB.out.keep k8) (bv_one _) (by omega) (by unfold maxLen; omega) ?_; intro ao' cap' w9 ho9 k9; obtain ⟨hcA, hcB⟩ := h9 _ _ k8 k9)
        | (go_simp; go_at_call 26; refine hC.mono ?_; rintro e w8 ⟨rfl, k8, how8⟩; have hcC := h8 _ k8))
      all_goals exact NoPanic.normal ⟨rfl, ao', cap', rfl, hX _ _ _ _ k8 k9 ho9⟩
    case' k =>
      intro ao' cap' wt hG
      have hT := Lib.hid hG
      clear hG hC h8 h9 hX a0 a1 a2 af0 af1 af2 z0 z1 z2 z3 z4 z5
      go_upto_region 20 with fail
  case' inr.inr.inl =>
    have hE := HRES.out
    simp only [Int.reduceEq, if_false, if_true] at hE
    have hw2 : (wc.setCell ⟨ga, 2, none⟩ (.int .i64 (xm : Int))).heap[ga]? = some (.cells #[.string nm, .slice xo xm xc, .int .i64 (xm : Int)] 67 (0, 0)) := (heap_set_cell hac).trans (by simp)
    have kS : Kp (fun i => i = ga) wc (wc.setCell ⟨ga, 2, none⟩ (.int .i64 (xm : Int))) := (Kp.refl (fun i => i = ga) wc).setCell (fun _ => rfl) _
    have hT := Lib.hid (ChT.mk (P := P) (gd := w.heap.size) (gr := gr) (RESL := RES) (w := w) (wt := wc.setCell ⟨ga, 2, none⟩ (.int .i64 (xm : Int))) ⟨ao, cap, L, nm, xo, xm, xc, d, (xm : Int), by rw [hn]; exact kS.heap hdw hgd1.1, kS.heap hrw hgd1.2.2.1, hw2, by rw [hn]; exact HLC.out.kp kS (fun j _ c e => c.2.2.2 e), HDC.out.kp kS (fun j _ c e => c.2.2.2 e), HKC.out.fin kS (fun j c => Or.inr (by omega)), by omega, by rw [← hE, hxm], Nat.lt_of_lt_of_le hszc kS.size⟩)
    clear hE hw2 kS
    go_upto_region 20 with fail
    clear a0 a1 a2 af0 af1 af2 q0 q1 q2 q3 q4 qf qf0 z0 z1 z2 z3 z4 z5
    generalize wc.setCell ⟨ga, 2, none⟩ (.int .i64 (xm : Int)) = wt at *
  case' inr.inr.inr.inl =>
    have hE := HRES.out
    simp only [Int.reduceEq, if_false, if_true] at hE
    have hcu2 := hcu rfl
    obtain ⟨q, rfl⟩ : ∃ q : Nat, N = (q : Int) := ⟨N.toNat, by omega⟩
    have hqm : q ≤ xm := by omega
    have hxc := HDC.out.1.le
    have hx0 : (0 : Int) ≤ (q : Int) := by omega
    have hx1 : (q : Int) ≤ (xc : Int) := by omega
    have hx2 : q ≤ xc := by omega
    have htl : (d.take q).length = q := by rw [List.length_take]; omega
    have hC : Calls Tryz.prog 26 #[.slice xo q xc] wc fun e w8 => e = .returned (.slice (some ⟨wc.heap.size, 0, none⟩) q q) ∧ Kp Noone wc w8 ∧ DataP (fun i => P i ∧ i ≠ w.heap.size ∧ i ≠ gr ∧ i ≠ ga) w8 (some ⟨wc.heap.size, 0, none⟩) q q (d.take q) := by
      refine (copy_exact xo q xc (d.take q) wc (HDC.out.1.fore hqm) (by omega)).mono ?_
      rintro e w8 ⟨he, hw8⟩
      obtain ⟨hbc, kw⟩ := copied2 hw8 htl (by unfold maxLen; omega)
      refine ⟨he, kw, ?_⟩
      have hcp := (congrArg (fun x => x.heap[wc.heap.size]?) hw8).trans (heap_alloc_new wc _)
      have h1 := (Array.getElem?_eq_some_iff.1 hcp).1
      exact (show DataP (fun i => i = wc.heap.size) w8 (some ⟨wc.heap.size, 0, none⟩) q q (d.take q) from ⟨hbc, fun _ a ha => by cases ha; exact ⟨rfl, h1⟩⟩).mono (fun i _ e => by
        subst e
        exact ⟨HP.out _ (by omega), by omega, by omega, by omega⟩)
    have HE := Lib.hid hE
    clear hE
    go_wp2_with fail
    refine hC.mono ?_
    clear hC
    rintro e w3 ⟨rfl, k3, hd3⟩
    have ha3 := k3.heap hac id
    obtain ⟨y0, y1, y2, yf0, yf1, yf2⟩ := cells_three ha3
    have kS : Kp (fun i => i = ga) w3 (w3.setCell ⟨ga, 1, none⟩ (.slice (some ⟨wc.heap.size, 0, none⟩) q q)) := (Kp.refl (fun i => i = ga) w3).setCell (fun _ => rfl) _
    have ha4 : (w3.setCell ⟨ga, 1, none⟩ (.slice (some ⟨wc.heap.size, 0, none⟩) q q)).heap[ga]? = some (.cells #[.string nm, .slice (some ⟨wc.heap.size, 0, none⟩) q q, .int .i64 sf] 67 (0, 0)) := (heap_set_cell ha3).trans (by simp)
    have hd4 := kS.heap (k3.heap hdw id) hgd1.1
    have hr4 := kS.heap (k3.heap hrw id) hgd1.2.2.1
    have ho4 := kS.heap (k3.heap how id) hgd1.2.2.2.1
    have HDA := Lib.hid (hd3.kp kS (fun j _ c e => c.2.2.2 e))
    have HLA := Lib.hid ((HLC.out.keep k3).kp kS (fun j _ c e => c.2.2.2 e))
    have HK4 : Hid (Kp Noone w (w3.setCell ⟨ga, 1, none⟩ (.slice (some ⟨wc.heap.size, 0, none⟩) q q))) := Lib.hid ((HKC.out.trans k3).fin kS (fun j c => Or.inr (by omega)))
    have hs4 : ga < (w3.setCell ⟨ga, 1, none⟩ (.slice (some ⟨wc.heap.size, 0, none⟩) q q)).heap.size := (Array.getElem?_eq_some_iff.1 ha4).1
    clear hd3 k3 kS ha3 q0 q1 q2 q3 q4 qf qf0 z0 z1 z2 z3 z4 z5 a0 a1 a2 af0 af1 af2
    go_upto_region 12 with fail
    clear y0 y1 y2 yf0 yf1 yf2
    generalize w3.setCell ⟨ga, 1, none⟩ (.slice (some ⟨wc.heap.size, 0, none⟩) q q) = w4 at *
    obtain ⟨z0, z1, z2, z3, z4, z5⟩ := cells_six ho4
    obtain ⟨a0, a1, a2, af0, af1, af2⟩ := cells_three ha4
    by_cases hsq : sf > (q : Int)
    case' pos =>
      have kS : Kp (fun i => i = ga) w4 (w4.setCell ⟨ga, 2, none⟩ (.int .i64 (q : Int))) := (Kp.refl (fun i => i = ga) w4).setCell (fun _ => rfl) _
      have hT := Lib.hid (ChT.mk (P := P) (gd := w.heap.size) (gr := gr) (RESL := RES) (w := w) (wt := w4.setCell ⟨ga, 2, none⟩ (.int .i64 (q : Int))) ⟨ao, cap, L, nm, some ⟨wc.heap.size, 0, none⟩, q, q, d.take q, (q : Int), by rw [hn]; exact kS.heap hd4 hgd1.1, kS.heap hr4 hgd1.2.2.1, (heap_set_cell ha4).trans (by simp), by rw [hn]; exact HLA.out.kp kS (fun j _ c e => c.2.2.2 e), HDA.out.kp kS (fun j _ c e => c.2.2.2 e), HK4.out.fin kS (fun j c => Or.inr (by omega)), by omega, by
        rw [← HE.out]; unfold cutA; simp only [Int.toNat_natCast]; rw [show min sf (q : Int) = (q : Int) by omega], Nat.lt_of_lt_of_le hs4 kS.size⟩)
      clear kS hd4 hr4 ho4 hs4
      go_upto_region 20 with fail
      clear a0 a1 a2 af0 af1 af2 z0 z1 z2 z3 z4 z5 ha4
      generalize w4.setCell ⟨ga, 2, none⟩ (.int .i64 (q : Int)) = wt at *
    case' neg =>
      have hT := Lib.hid (ChT.mk (P := P) (gd := w.heap.size) (gr := gr) (RESL := RES) (w := w) (wt := w4) ⟨ao, cap, L, nm, some ⟨wc.heap.size, 0, none⟩, q, q, d.take q, sf, by rw [hn]; exact hd4, hr4, ha4, by rw [hn]; exact HLA.out, HDA.out, HK4.out, by omega, by
        rw [← HE.out]; unfold cutA; simp only [Int.toNat_natCast]; rw [show min sf (q : Int) = sf by omega], hs4⟩)
      clear hd4 hr4 ho4 hs4
      go_upto_region 20 with fail
      clear a0 a1 a2 af0 af1 af2 z0 z1 z2 z3 z4 z5 ha4
  case' inr.inr.inr.inr =>
    have hE := HRES.out
    simp only [Int.reduceEq, if_false, if_true] at hE
    have hwo := without_any (fun i => P i ∧ i ≠ w.heap.size ∧ i ≠ gr ∧ i ≠ ga) ao n cap L nm wc HLC.out (fun j hj => ⟨HP.out j (by omega), by omega, by omega, by omega⟩) (by omega)
    have hle := withoutL_le L nm
    generalize withoutL L nm = L1 at *
    have HE := Lib.hid hE
    clear hE
    go_wp2_with fail
    refine hwo.mono ?_
    clear hwo
    rintro e w3 ⟨ao', cap', rfl, hra, k3⟩
    have hd3 := k3.heap hdw id
    have hr3 := k3.heap hrw id
    have ho3 := k3.heap how id
    have ha3 := k3.heap hac id
    obtain ⟨⟨u0, -, -, -, -⟩, uf⟩ := cells_five hd3
    have uf0 := uf 0
    have kS : Kp (fun i => i = w.heap.size) w3 (w3.setCell ⟨w.heap.size, 0, none⟩ (.slice ao' L1.length cap')) := (Kp.refl (fun i => i = w.heap.size) w3).setCell (fun _ => rfl) _
    have hd4 : (w3.setCell ⟨w.heap.size, 0, none⟩ (.slice ao' L1.length cap')).heap[w.heap.size]? = some (.cells #[.slice ao' L1.length cap', .int .i64 room, .int .i64 steps, .int .i64 fuse, .bool down] 26 (0, 0)) := (heap_set_cell hd3).trans (by simp)
    have hr4 := kS.heap hr3 (by omega)
    have ho4 := kS.heap ho3 (by omega)
    have ha4 := kS.heap ha3 (by omega)
    have HRA := Lib.hid (hra.kp kS (fun j _ c e => c.2.1 e))
    have HDA := Lib.hid ((HDC.out.keep k3).kp kS (fun j _ c e => c.2.1 e))
    have HK4 : Hid (Kp Noone w (w3.setCell ⟨w.heap.size, 0, none⟩ (.slice ao' L1.length cap'))) := Lib.hid ((HKC.out.trans k3).fin kS (fun j c => Or.inr (Nat.le_of_eq c.symm)))
    have hs4 : ga < (w3.setCell ⟨w.heap.size, 0, none⟩ (.slice ao' L1.length cap')).heap.size := (Array.getElem?_eq_some_iff.1 ha4).1
    clear hra k3 hd3 hr3 ho3 ha3 uf kS q0 q1 q2 q3 q4 qf qf0 z0 z1 z2 z3 z4 z5 a0 a1 a2 af0 af1 af2
    go_upto_region 16 with fail
    clear u0 uf0
    generalize w3.setCell ⟨w.heap.size, 0, none⟩ (.slice ao' L1.length cap') = w4 at *
    obtain ⟨z0, z1, z2, z3, z4, z5⟩ := cells_six ho4
    obtain ⟨a0, a1, a2, af0, af1, af2⟩ := cells_three ha4
    have kS : Kp (fun i => i = ga) w4 (w4.setCell ⟨ga, 0, none⟩ (.string tn)) := (Kp.refl (fun i => i = ga) w4).setCell (fun _ => rfl) _
    have hT := Lib.hid (ChT.mk (P := P) (gd := w.heap.size) (gr := gr) (RESL := RES) (w := w) (wt := w4.setCell ⟨ga, 0, none⟩ (.string tn)) ⟨ao', cap', L1, tn, xo, xm, xc, d, sf, kS.heap hd4 hgd1.1, kS.heap hr4 hgd1.2.2.1, (heap_set_cell ha4).trans (by simp), HRA.out.kp kS (fun j _ c e => c.2.2.2 e), HDA.out.kp kS (fun j _ c e => c.2.2.2 e), HK4.out.fin kS (fun j c => Or.inr (by omega)), by omega, HE.out.symm, Nat.lt_of_lt_of_le hs4 kS.size⟩)
    clear kS hd4 hr4 ho4 hs4
    go_upto_region 20 with fail
    clear a0 a1 a2 af0 af1 af2 z0 z1 z2 z3 z4 z5 ha4
    generalize w4.setCell ⟨ga, 0, none⟩ (.string tn) = wt at *
  all_goals (
    obtain ⟨ao1, cap1, L1, k1, yo, ym, yc, d1, s1, g1, g2, g3, hra, hda, hkw, hl1, hres, hgl⟩ := hT.out.ex
    have hwi := with_any (fun i => P i ∧ i ≠ w.heap.size ∧ i ≠ gr ∧ i ≠ ga) ao1 L1.length cap1 L1 k1 yo ym yc d1 s1 _ hra hda (fun j hj => ⟨HP.out j (by omega), by omega, by omega, by omega⟩) hl1
    rw [← hres] at hwi
    obtain ⟨⟨q0, q1, q2, q3, q4⟩, -⟩ := cells_five g1
    obtain ⟨a0, a1, a2, af0, af1, af2⟩ := cells_three g3
    go_wp2_with fail
    refine hwi.mono ?_
    clear hwi
    rintro e w3 ⟨ao', cap', rfl, hra', k3⟩
    have hd3 := k3.heap g1 id
    have hr3 := k3.heap g2 id
    clear q0 q1 q2 q3 q4 a0 a1 a2 af0 af1 af2
    obtain ⟨⟨u0, -, -, -, -⟩, uf⟩ := cells_five hd3
    have uf0 := uf 0
    have kS : Kp (fun i => i = w.heap.size) w3 (w3.setCell ⟨w.heap.size, 0, none⟩ (.slice ao' RES.length cap')) := (Kp.refl (fun i => i = w.heap.size) w3).setCell (fun _ => rfl) _
    have hd4 : (w3.setCell ⟨w.heap.size, 0, none⟩ (.slice ao' RES.length cap')).heap[w.heap.size]? = some (.cells #[.slice ao' RES.length cap', .int .i64 room, .int .i64 steps, .int .i64 fuse, .bool down] 26 (0, 0)) := (heap_set_cell hd3).trans (by simp)
    have hr4 := kS.heap hr3 (by omega)
    have HRA := Lib.hid (hra'.kp kS (fun j _ c e => c.2.1 e))
    have HK4 : Hid (Kp Noone w (w3.setCell ⟨w.heap.size, 0, none⟩ (.slice ao' RES.length cap'))) := Lib.hid ((hkw.trans k3).fin kS (fun j c => Or.inr (Nat.le_of_eq c.symm)))
    clear hra' k3 hd3 hr3 uf kS hra hda hkw hres g1 g2 g3
    go_upto_region 21 with fail
    generalize w3.setCell ⟨w.heap.size, 0, none⟩ (.slice ao' RES.length cap') = wu at *
    obtain ⟨⟨q0, q1, q2, q3, q4⟩, -⟩ := cells_five hd4
    go_wp2_with (refine wpList_store_disk (by dsimp only) (.tmp 4) (.tmp 80) (by dsimp only) gr ao' cap' ⟨RES, room, steps, fuse, down⟩ (by rfl) (by rfl) hr4 ?_)
    refine bodyPost_ret (v := rdV ao' cap' ⟨RES, room, steps, fuse, down⟩) (results_cell_row (ty := 26) rfl _ _ gr _ _ _ _ rfl (putD_heap ao' cap' ⟨RES, room, steps, fuse, down⟩ hr4) Tryz.underlying26 rfl info_disk) rfl ?_
    exact ⟨ao', cap', rfl, (HRA.out.kp (putD_kp _ _ _ _ _) (fun i _ c e => c.2.2.1 e)).mono (fun i _ c => c.1), HK4.out.fin (putD_kp _ _ _ _ _) (fun j c => Or.inr (by omega))⟩)

end Go.Proofs.YtigdhdclfdojgaaGreat

