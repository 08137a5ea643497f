/-
  wal: THE PLAIN LAW of WalFull: its start, its end, the bounds.
-/
import Derived.Test.YtigdhdclfdojgaaWalTrimsR
import Derived.Test.YtigdhdclfdojgaaWalFullQ
namespace Go.Proofs.Ytigdhdclfdojgaa
open Go.RowKit

theorem SmallD.crashUp (ns : List ByteArray) (keep : List Int) {s : DS} (h : SmallD s) : ∀ j, SmallD (crashUp ns keep s j)
  | 0 => h
  | j + 1 => (SmallD.crashUp ns keep h j).crash1 _ _
theorem SmallD.crash {s : DS} (h : SmallD s) (keep : List Int) : SmallD (crashF s keep) := h.crashUp (namesF s) keep _
theorem crash_steps (s : DS) (keep : List Int) : (crashF s keep).steps = s.steps := (crashUp_room (namesF s) keep s _).2
theorem lim_40 : limF 40 = 40 := by decide
theorem full_start (room : Int) : (openF (newF room) 40 = ((openF (newF room) 40).1, none, 42) ∧ listF (openF (newF room) 40).1 = []) ∨ ∃ l, openF (newF room) 40 = ((openF (newF room) 40).1, some (l, []), 0) ∧ FlS false 0 [] 0 (openF (newF room) 40).1 l [] firstPc 0 := by
  have hs := openNew_steps 40 room
  have hh := headerL_len 1 1
  rcases start_new room 40 with ⟨e, u, -⟩ | ⟨l, e, r, st⟩
  · left
    exact ⟨by rw [← e], by rw [u.names]; rfl⟩
  · right
    rw [lim_40] at st
    refine ⟨l, by rw [← e], st, rfl, Nat.le_refl _, rfl, fun _ => Or.inl rfl, Nat.le_refl _, Nat.le_refl _, Nat.le_refl _, by rw [pieceD_first]; omega, ?_⟩
    simp
    omega
theorem FlS.bounds {u : Bool} {i : Nat} {R : List (List UInt8)} {safe : Nat} {s : DS} {l : LogP} {ps : List PcS} {p : PcS} {j : Nat} (h : FlS u i R safe s l ps p j) (hi : i ≤ 51) : LOk l ∧ s.steps < 1000000 ∧ l.next < 1000000 ∧ l.size < 4611686018427380000 ∧ l.pieces.length ≤ 1000 := by
  have hp := h.st.pcs
  have hs := h.steps
  have hsz := h.sz
  have hcnt := h.cnt
  have hlen := h.len
  have hn : endOf 1 (ps ++ [p]) ≤ 101 := by
    rw [end_chain, h.all]
    omega
  have hok := pcs_ok (lim := 40) (by omega) h.st.each (by omega) (by omega : endOf 1 (ps ++ [p]) ≤ 1000000) (by omega)
  have hs2 : s.steps ≤ 10 * (i : Int) + 10 := by
    cases u
    · exact hs
    · have : s.steps ≤ 10 * (i : Int) + 8 := hs
      omega
  refine ⟨by rw [hp]; exact hok, by omega, ?_, ?_, ?_⟩
  · rw [hp]; show endOf 1 (ps ++ [p]) < _; omega
  · rw [hp]; show (pieceD p).length < _; omega
  · rw [hp]; show (heads (ps ++ [p])).length ≤ _; unfold heads; simp; omega
theorem till_ok {p : PcS} (h : PcOk p) (j : Nat) : PcOk (tillP p j) := ⟨h.num, h.first, fun d hd => h.recs d (List.mem_of_mem_take hd)⟩
theorem FlS.end {i : Nat} {R : List (List UInt8)} {safe : Nat} {s : DS} {l : LogP} {ps : List PcS} {p : PcS} {j : Nat} (h : FlS false i R safe s l ps p j) (hi : i ≤ 50) (hsm : SmallD s) :
    SmallD (crashF s []) ∧ (crashF s []).steps < 1000000 ∧ safe ≤ R.length ∧ ∃ s3 l3 recs, openF (crashF s []) 40 = (s3, some (l3, recs), 0) ∧ recs.length = safe ∧ ∀ k (h : k < recs.length) (h2 : k < R.length), recs[k].2 = R[k] := by
  obtain ⟨u, ok, er⟩ := crash_log h.st.up h.st.ok
  have hc := (chain_append ps [p] 1).1 h.st.chain
  have hc2 : Chain 1 (ps ++ [tillP p j]) := (chain_append ps [tillP p j] 1).2 ⟨hc.1, hc.2.1, trivial⟩
  have hk : ∀ x ∈ ps ++ [tillP p j], PcOk x := by
    intro x hx
    rcases List.mem_append.1 hx with hx | hx
    · exact h.st.each x (List.mem_append_left _ hx)
    · rw [List.mem_singleton.1 hx]
      exact till_ok (h.st.each p (by simp)) j
  have hsum : sumL (fullImg ps ++ [lastA (tillP p j) (pieceD (tillP p j)).length]) ≤ (crashF s []).room := by
    rw [er, sum_last]
    have h1 := h.st.fits
    rw [sum_last] at h1
    exact h1
  obtain ⟨s3, e3, -, -⟩ := again u ok hc2 hk h.st.others hsum 40
  have hR := h.all
  rw [allOf_append] at hR
  have hp : allOf [p] = p.recs := by simp [allOf]
  have ht : allOf [tillP p j] = p.recs.take j := by simp [allOf, tillP]
  rw [hp] at hR
  have hle := h.le
  have hsaf := h.saf
  have hRl := congrArg List.length hR
  rw [List.length_append] at hRl
  have hall : allOf (ps ++ [tillP p j]) = R.take safe := by
    rw [allOf_append, ht, ← hR, hsaf, List.take_length_add_append]
  rw [hall] at e3
  have hst := crash_steps s []
  have hb := (h.bounds (by omega)).2.1
  refine ⟨hsm.crash [], by omega, by omega, s3, _, _, e3, ?_, fun k hk1 hk2 => ?_⟩
  · rw [numbered_len, List.length_take]
    omega
  · rw [numbered_len] at hk1
    rw [numbered_get 1 (R.take safe) k (by rw [numbered_len]; exact hk1) hk1]
    simp only [List.getElem_take]

/-! ### In memory -/
theorem Ext.paint {B i : Nat} {col : Nat → Nat} {w w' : World} (hc : Cols B w col) (hB : B ≤ w.heap.size) (k : Kp (Col col i) w w') : Ext B (fun c => c = i) col w (paint col w w' i) w' := by
  refine ⟨hc.paint hB k.size i, fun j hj => ?_, fun j hj hn => ?_, k.mono (fun j _ c => c)⟩
  · unfold Proofs.Ytigdhdclfdojgaa.paint
    rw [if_neg (by omega)]
  · unfold Proofs.Ytigdhdclfdojgaa.paint at hn ⊢
    by_cases h : w.heap.size ≤ j ∧ j < w'.heap.size
    · rw [if_pos h]
    · rw [if_neg h] at hn
      have := hc j hn
      omega
theorem Lg.ext {B c i : Nat} {S : Nat → Prop} {col col' : Nat → Nat} {w w' : World} {p q : Nat} {s : DS} {l : LogP} (h : Lg c i col w p q s l) (hc : Cols B w col) (e : Ext B S col w col' w') (hd : ∀ c, S3 i c → ¬ S c) (h1 : ¬ S c) (h2 : ¬ S (c + 1)) : Lg c i col' w' p q s l := by
  obtain ⟨hk, po, pc, hl⟩ := h
  exact ⟨hk.ext hc e hd, po, pc, hl.ext e h1 h2⟩
abbrev Sls := List (Option Addr × Nat × Nat)
def hdrs (hs : Sls) : List Value := hs.map fun h => .slice h.1 h.2.1 h.2.2
/-- A list of texts that lie in an older world; the list's own block has colour c. -/
structure AllP (W : World) (c : Nat) (col : Nat → Nat) (w : World) (ao : Option Addr) (cap : Nat) (hs : Sls) (R : List (List UInt8)) : Prop where
  own : Own (Col col c) w 22 1 ao R.length cap (hdrs hs)
  len : hs.length = R.length
  get : ∀ i (h1 : i < hs.length) (h2 : i < R.length), BS W hs[i].1 hs[i].2.1 hs[i].2.2 R[i]
structure AllAt (W : World) (c : Nat) (col : Nat → Nat) (w : World) (ao : Option Addr) (cap : Nat) (R : List (List UInt8)) : Prop where
  ex : ∃ hs, AllP W c col w ao cap hs R
theorem AllAt.ext {W : World} {B c : Nat} {S : Nat → Prop} {col col' : Nat → Nat} {w w' : World} {ao : Option Addr} {cap : Nat} {R : List (List UInt8)} (h : AllAt W c col w ao cap R) (e : Ext B S col w col' w') (h1 : ¬ S c) : AllAt W c col' w' ao cap R := by
  obtain ⟨hs, ho, hl, hg⟩ := h.ex
  refine ⟨hs, ?_, hl, hg⟩
  exact ((ho.mono (G := fun j => Col col c j ∧ j < w.heap.size) (fun j hj d => ⟨d, hj⟩)).kp e.kp (fun j d a => by have d1 : col j = c := d.1; rw [d1] at a; exact h1 a)).mono (fun j _ d => (e.old j d.2).trans d.1)
theorem AllAt.keep {W : World} {c : Nat} {col : Nat → Nat} {w w' : World} {ao : Option Addr} {cap : Nat} {R : List (List UInt8)} (h : AllAt W c col w ao cap R) (k : Kp Noone w w') : AllAt W c col w' ao cap R := by
  obtain ⟨hs, ho, hl, hg⟩ := h.ex
  exact ⟨hs, ho.keep k, hl, hg⟩
theorem AllAt.nil {W : World} {c : Nat} {col : Nat → Nat} {w : World} (ao : Option Addr) : AllAt W c col w ao 0 [] := ⟨[], Own.nil _ _ _ _ _, rfl, fun i h => by simp at h⟩
theorem hdrs_snoc (hs : Sls) (x : Option Addr × Nat × Nat) : hdrs (hs ++ [x]) = hdrs hs ++ [.slice x.1 x.2.1 x.2.2] := by simp [hdrs]
theorem AllP.snoc {W : World} {c : Nat} {col : Nat → Nat} {w w' : World} {ao : Option Addr} {cap : Nat} {hs : Sls} {R : List (List UInt8)} (h : AllP W c col w ao cap hs R) {bo : Option Addr} {m bc : Nat} {d : List UInt8} (hb : BS W bo m bc d) {ao' : Option Addr} {cap' : Nat} {col' : Nat → Nat}
    (ho : Own (Col col' c) w' 22 1 ao' (R.length + 1) cap' (hdrs hs ++ [.slice bo m bc])) : AllAt W c col' w' ao' cap' (R ++ [d]) := by
  refine ⟨hs ++ [(bo, m, bc)], ?_, by rw [List.length_append, List.length_append, h.len]; rfl, fun j h1 h2 => ?_⟩
  · rw [hdrs_snoc, List.length_append]
    exact ho
  · by_cases hj : j < hs.length
    · have hj2 : j < R.length := by have := h.len; omega
      have e1 : (hs ++ [(bo, m, bc)])[j] = hs[j] := List.getElem_append_left hj
      have e2 : (R ++ [d])[j] = R[j] := List.getElem_append_left hj2
      rw [e1, e2]
      exact h.get j hj hj2
    · have hl := h.len
      have hj1 : j = hs.length := by rw [List.length_append] at h1; simp at h1; omega
      have e1 : (hs ++ [(bo, m, bc)])[j] = (bo, m, bc) := by subst hj1; simp
      have e2 : (R ++ [d])[j] = d := by
        have : j = R.length := by omega
        subst this
        simp
      rw [e1, e2]
      exact hb
theorem hdrs_one (bo : Option Addr) (m c : Nat) : ∀ u ∈ [Value.slice bo m c], u.oneCell' = true := by
  intro u hu
  simp at hu
  subst hu
  rfl
theorem AllAt.at {W : World} {c : Nat} {col : Nat → Nat} {w : World} {ao : Option Addr} {cap : Nat} {R : List (List UInt8)} (h : AllAt W c col w ao cap R) {j : Nat} (hj : j < R.length) : ∃ g off xo xm xc, ao = some ⟨g, off, none⟩ ∧ w.cell? ⟨g, off + j, none⟩ = some (.slice xo xm xc) ∧ BS W xo xm xc R[j] := by
  obtain ⟨hs, ho, hl, hg⟩ := h.ex
  have hj2 : j < hs.length := by omega
  have hlen : (hdrs hs).length = hs.length := by simp [hdrs]
  obtain ⟨g, off, rfl, -, -, hc1, -⟩ := ho.at (k := j) (by omega)
  refine ⟨g, off, hs[j].1, hs[j].2.1, hs[j].2.2, rfl, ?_, hg j hj2 hj⟩
  rw [hc1]
  simp [hdrs]

end Go.Proofs.Ytigdhdclfdojgaa
