/-
  ROWS OF AREAS that are changed in place; the document's crash in plain Lean.
-/
import Derived.Test.YtmmdojnjognccaaRefMount
namespace Go.Proofs.Ytmmdojnjognccaa
open Go.RowKit

theorem RA.row {P : Nat → Prop} {w : World} {ao : Option Addr} {n cap : Nat} {L : Img} (h : RA P w ao n cap L) :
    ∃ hs : Hs, hs.length = L.length ∧ Row w ao (imgC L hs) ∧ ∀ j (h1 : j < hs.length) (h2 : j < L.length), DataP P w hs[j].1 hs[j].2.1 hs[j].2.2 L[j].2.data := by
  have hex : ∀ i (hi : i < L.length), ∃ x : Option Addr × Nat × Nat, (∃ b off, ao = some ⟨b, off, none⟩ ∧ w.cell? ⟨b, off + i * 3, none⟩ = some (.string L[i].1) ∧ w.cell? ⟨b, off + i * 3 + 1, none⟩ = some (.slice x.1 x.2.1 x.2.2) ∧
      w.cell? ⟨b, off + i * 3 + 2, none⟩ = some (.int .i64 L[i].2.safe)) ∧ DataP P w x.1 x.2.1 x.2.2 L[i].2.data := fun i hi => by
    obtain ⟨b, off, bo, m, c, h1, h2, h3, h4, h5, h6, h7⟩ := h.get i hi
    exact ⟨(bo, m, c), ⟨b, off, h1, h4, h5, h6⟩, h7⟩
  obtain ⟨hs, hl, hp⟩ : ∃ hs : Hs, hs.length = L.length ∧ ∀ j (h1 : j < hs.length) (h2 : j < L.length), (∃ b off, ao = some ⟨b, off, none⟩ ∧ w.cell? ⟨b, off + j * 3, none⟩ = some (.string L[j].1) ∧ w.cell? ⟨b, off + j * 3 + 1, none⟩ = some (.slice hs[j].1 hs[j].2.1 hs[j].2.2) ∧
      w.cell? ⟨b, off + j * 3 + 2, none⟩ = some (.int .i64 L[j].2.safe)) ∧ DataP P w hs[j].1 hs[j].2.1 hs[j].2.2 L[j].2.data :=
    ⟨List.ofFn fun i : Fin L.length => Classical.choose (hex i.1 i.2), by simp, fun j h1 h2 => by
      simp only [List.getElem_ofFn]
      exact Classical.choose_spec (hex j h2)⟩
  refine ⟨hs, hl, ?_, fun j h1 h2 => (hp j h1 h2).2⟩
  have hc := imgC_length L hs hl
  by_cases h0 : L.length = 0
  · left
    exact List.eq_nil_of_length_eq_zero (by rw [hc, h0])
  · right
    obtain ⟨⟨b, off, hao, -⟩, -⟩ := hp 0 (by omega) (by omega)
    refine ⟨b, off, hao, fun k hk => ?_⟩
    have hq : k / 3 < L.length := by omega
    obtain ⟨⟨b', off', e, c0, c1, c2⟩, -⟩ := hp (k / 3) (by omega) hq
    rw [hao] at e
    obtain ⟨rfl, rfl⟩ : b = b' ∧ off = off' := by
      have e1 := Option.some.inj e
      exact ⟨congrArg Addr.block e1, congrArg Addr.off e1⟩
    obtain ⟨g0, g1, g2⟩ := imgC_get L hs (k / 3) hq (by omega)
    rw [← List.getElem?_eq_getElem hk]
    rcases (by omega : k = k / 3 * 3 ∨ k = k / 3 * 3 + 1 ∨ k = k / 3 * 3 + 2) with e | e | e
    · rw [e, g0, ← c0, ← e]
    · rw [e, g1, ← c1, Nat.add_assoc, ← e]
    · rw [e, g2, ← c2, Nat.add_assoc, ← e]

theorem imgC_set : ∀ (L : Img) (hs : Hs) (k : Nat) (x : ByteArray × AreaP) (g : Option Addr × Nat × Nat), hs.length = L.length →
    imgC (L.set k x) (hs.set k g) = (((imgC L hs).set (k * 3) (.string x.1)).set (k * 3 + 1) (.slice g.1 g.2.1 g.2.2)).set (k * 3 + 2) (.int .i64 x.2.safe)
  | [], [], _, _, _, _ => by simp [imgC]
  | y :: r, h :: t, 0, x, g, _ => by simp [imgC]
  | y :: r, h :: t, k + 1, x, g, e => by
    have := imgC_set r t k x g (by simpa using e)
    have e1 : (k + 1) * 3 = k * 3 + 1 + 1 + 1 := by omega
    rw [e1]
    simp [imgC, this]
  | [], _ :: _, _, _, _, e => by simp at e
  | _ :: _, [], _, _, _, e => by simp at e
theorem imgC_safe : ∀ (L : Img) (hs : Hs) (k : Nat) (h : k < L.length) (s : Int), hs.length = L.length → imgC (L.set k (L[k].1, ⟨L[k].2.data, s⟩)) hs = (imgC L hs).set (k * 3 + 2) (.int .i64 s)
  | y :: r, h :: t, 0, _, s, _ => by simp [imgC]
  | y :: r, h :: t, k + 1, hk, s, e => by
    have := imgC_safe r t k (by simpa using hk) s (by simpa using e)
    have e1 : (k + 1) * 3 = k * 3 + 1 + 1 + 1 := by omega
    rw [e1]
    simp [imgC, this]
  | [], _, _, h, _, _ => by simp at h
  | _ :: _, [], _, _, _, e => by simp at e
theorem sumL_set : ∀ (L : Img) (k : Nat) (h : k < L.length) (x : ByteArray × AreaP), sumL (L.set k x) = sumL L - L[k].2.safe + x.2.safe
  | y :: r, 0, _, x => by simp [sumL]; omega
  | y :: r, k + 1, h, x => by
    have := sumL_set r k (by simpa using h) x
    simp [sumL, this]; omega
  | [], _, h, _ => by simp at h

/-- Where a row that grows lies. -/
theorem RGA.place {P : Nat → Prop} {z : Nat} {A : Nat → Prop} {hs : Hs} {w : World} {ao : Option Addr} {n cap : Nat} {L : Img} (h : RGA P z A hs w ao n cap L) (h0 : 0 < n) :
    ∃ b off, ao = some ⟨b, off, none⟩ ∧ A b ∧ b < w.heap.size ∧ (∀ i, w.frozen? ⟨b, i, none⟩ = false) ∧
      ∀ k (h1 : k < L.length) (h2 : k < hs.length), w.cell? ⟨b, off + k * 3, none⟩ = some (.string L[k].1) ∧ w.cell? ⟨b, off + k * 3 + 1, none⟩ = some (.slice hs[k].1 hs[k].2.1 hs[k].2.2) ∧ w.cell? ⟨b, off + k * 3 + 2, none⟩ = some (.int .i64 L[k].2.safe) := by
  have hl := h.len
  have hhs := h.hlen
  rcases h.own with ⟨e1, e2, e3, e4⟩
  rcases e4 with e0 | ⟨b, off, cur, rfl, hA, hh, hsz, hr⟩
  · omega
  · refine ⟨b, off, rfl, hA, (Array.getElem?_eq_some_iff.1 hh).1, fun i => by simp [World.frozen?, hh], fun k h1 h2 => ?_⟩
    obtain ⟨g0, g1, g2⟩ := imgC_get L hs k h1 h2
    have hc : ∀ j v, (imgC L hs)[j]? = some v → w.cell? ⟨b, off + j, none⟩ = some v := fun j v hv => by
      obtain ⟨hj, rfl⟩ := List.getElem?_eq_some_iff.1 hv
      rw [cell_of_row w b _ cur _ (0, 0) hh]; exact hr j hj
    exact ⟨hc _ _ g0, by rw [Nat.add_assoc]; exact hc _ _ g1, by rw [Nat.add_assoc]; exact hc _ _ g2⟩
theorem RGA.setSafe {P : Nat → Prop} {z : Nat} {A : Nat → Prop} {hs : Hs} {w : World} {b off : Nat} {n cap : Nat} {L : Img} (h : RGA P z A hs w (some ⟨b, off, none⟩) n cap L) (hA : A b) {k : Nat} (hk : k < L.length) (s : Int) :
    RGA P z A hs (w.setCell ⟨b, off + k * 3 + 2, none⟩ (.int .i64 s)) (some ⟨b, off, none⟩) n cap (L.set k (L[k].1, ⟨L[k].2.data, s⟩)) := by
  have hl := h.len
  have hhs := h.hlen
  have hc := imgC_length L hs (by omega)
  have kk : Kp (fun j => j = b) w (w.setCell ⟨b, off + k * 3 + 2, none⟩ (.int .i64 s)) := (Kp.refl (fun j => j = b) w).setCell (fun _ => rfl) _
  refine ⟨fun j c => ⟨(h.base j c).1, Nat.lt_of_lt_of_le (h.base j c).2 kk.size⟩, by simpa using hl, hhs, ?_, fun j h1 h2 => ?_⟩
  · rw [imgC_safe L hs k hk s (by omega), Nat.add_assoc]
    exact h.own.set (by omega) _
  · have h3 : j < L.length := by simpa using h2
    have hd : (L.set k (L[k].1, ⟨L[k].2.data, s⟩))[j].2.data = L[j].2.data := by
      rw [List.getElem_set]
      split
      · rename_i e; subst e; rfl
      · rfl
    rw [hd]
    exact (h.data j h1 h3).kp kk (fun i _ c e => c.2 (by rw [e]; exact hA))
theorem RGA.setAll {P : Nat → Prop} {z : Nat} {A : Nat → Prop} {hs : Hs} {w : World} {b off : Nat} {n cap : Nat} {L : Img} (h : RGA P z A hs w (some ⟨b, off, none⟩) n cap L) (hA : A b) {k : Nat} (hk : k < L.length) (x : ByteArray × AreaP) (xo : Option Addr) (xm xc : Nat)
    (hd : DataP (fun j => P j ∧ ¬ A j) w xo xm xc x.2.data) :
    RGA P z A (hs.set k (xo, xm, xc)) (((w.setCell ⟨b, off + k * 3, none⟩ (.string x.1)).setCell ⟨b, off + k * 3 + 1, none⟩ (.slice xo xm xc)).setCell ⟨b, off + k * 3 + 2, none⟩ (.int .i64 x.2.safe)) (some ⟨b, off, none⟩) n cap (L.set k x) := by
  have hl := h.len
  have hhs := h.hlen
  have hc := imgC_length L hs (by omega)
  have kk : Kp (fun j => j = b) w (((w.setCell ⟨b, off + k * 3, none⟩ (.string x.1)).setCell ⟨b, off + k * 3 + 1, none⟩ (.slice xo xm xc)).setCell ⟨b, off + k * 3 + 2, none⟩ (.int .i64 x.2.safe)) :=
    ((((Kp.refl (fun j => j = b) w).setCell (fun _ => rfl) _).setCell (fun _ => rfl) _).setCell (fun _ => rfl) _)
  refine ⟨fun j c => ⟨(h.base j c).1, Nat.lt_of_lt_of_le (h.base j c).2 kk.size⟩, by simpa using hl, by simpa using hhs, ?_, fun j h1 h2 => ?_⟩
  · rw [imgC_set L hs k x _ (by omega), Nat.add_assoc, Nat.add_assoc]
    exact ((h.own.set (by omega) _).set (by rw [List.length_set]; omega) _).set (by rw [List.length_set, List.length_set]; omega) _
  · have h3 : j < L.length := by simpa using h2
    have h4 : j < hs.length := by simpa using h1
    by_cases e : k = j
    · subst e
      simp only [List.getElem_set_self]
      exact hd.kp kk (fun i _ c e => c.2 (by rw [e]; exact hA))
    · rw [List.getElem_set_ne e, List.getElem_set_ne e]
      exact (h.data j h4 h3).kp kk (fun i _ c e => c.2 (by rw [e]; exact hA))

/-! ### crash in plain Lean -/

/-- How much of an area is left. -/
def keepA (sum room : Int) (a : AreaP) (k : Option Int) : Int := max a.safe (min (keepN a k) (room - sum + a.safe))
def crX (sum room : Int) (x : ByteArray × AreaP) (k : Option Int) : ByteArray × AreaP := (x.1, ⟨x.2.data.take (keepA sum room x.2 k).toNat, keepA sum room x.2 k⟩)
def crR1 (room : Int) (M : Img) (i : Nat) (k : Option Int) : Img := match M[i]? with
  | some x => M.set i (crX (sumL M) room x k)
  | none => M
def crUp (room : Int) (keep : List Int) (L : Img) : Nat → Img
  | 0 => L
  | i + 1 => crR1 room (crUp room keep L i) i keep[i]?
def crashR (m : RD) (keep : List Int) : RD := ⟨crUp m.room keep m.L m.L.length, m.room, m.steps, 0, false⟩
theorem crR1_len (room : Int) (M : Img) (i : Nat) (k : Option Int) : (crR1 room M i k).length = M.length := by
  unfold crR1
  split <;> simp
theorem crUp_len (room : Int) (keep : List Int) (L : Img) (i : Nat) : (crUp room keep L i).length = L.length := by
  induction i with
  | zero => rfl
  | succ i ih => unfold crUp; rw [crR1_len, ih]
theorem crUp_succ (room : Int) (keep : List Int) (L : Img) (i : Nat) (h : i < (crUp room keep L i).length) : crUp room keep L (i + 1) = (crUp room keep L i).set i (crX (sumL (crUp room keep L i)) room (crUp room keep L i)[i] keep[i]?) := by
  show crR1 room (crUp room keep L i) i keep[i]? = _
  unfold crR1
  rw [List.getElem?_eq_getElem h]
/-- What holds of each area. -/
def Img.Fit (L : Img) : Prop := ∀ x ∈ L, 0 ≤ x.2.safe ∧ x.2.safe ≤ x.2.data.length ∧ x.2.data.length ≤ 140737488355328
theorem keepA_bounds {sum room : Int} {a : AreaP} {k : Option Int} (h : a.safe ≤ a.data.length) : a.safe ≤ keepA sum room a k ∧ keepA sum room a k ≤ a.data.length := by
  unfold keepA keepN
  cases k with
  | none => simp only []; omega
  | some v => simp only []; omega
theorem crUp_fit (room : Int) (keep : List Int) (L : Img) (h : L.Fit) (i : Nat) : (crUp room keep L i).Fit := by
  induction i with
  | zero => exact h
  | succ i ih =>
    show (crR1 room (crUp room keep L i) i keep[i]?).Fit
    unfold crR1
    split
    · rename_i x hx
      intro y hy
      rcases List.mem_or_eq_of_mem_set hy with hy | rfl
      · exact ih y hy
      · have h1 := ih x (List.mem_of_getElem? hx)
        have h2 := keepA_bounds (sum := sumL (crUp room keep L i)) (room := room) (k := keep[i]?) h1.2.1
        unfold crX
        simp only [List.length_take]
        omega
    · exact ih
theorem Img.Fit.small {L : Img} (h : L.Fit) (h64 : L.length ≤ 64) : L.Small := ⟨h64, fun x hx => by have := h x hx; omega⟩

end Go.Proofs.Ytmmdojnjognccaa
