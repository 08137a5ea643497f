/-
  THE DOCUMENT'S Save, Load, Clean (synodref10) in plain Lean, side by side with the code's.
-/
import Derived.Test.YtigdhdclfdojgaaGreatSnapPlain
import Derived.Test.YtigdhdclfdojgaaGreatRefDiskC
namespace Go.Proofs.YtigdhdclfdojgaaGreat
open Go.RowKit

def oDrop (k : ByteArray) : OpD := ⟨4, k, ByteArray.empty, [], 0, []⟩
def oApp (k : ByteArray) (b : List UInt8) : OpD := ⟨0, k, ByteArray.empty, b, 0, []⟩
def oSync (k : ByteArray) : OpD := ⟨1, k, ByteArray.empty, [], 0, []⟩
def oMove (f t : ByteArray) : OpD := ⟨3, f, t, [], 0, []⟩
def doE (m : RD) (o : OpD) : RD × Nat := ((doR m o).1, (doR m o).2.2)
def S2 (a : RD × Nat) (b : DS × Nat) : Prop := Sim a.1 b.1 ∧ a.2 = b.2
theorem sim_drop {m : RD} {s : DS} (h : Sim m s) (hd : DOk s) (k : ByteArray) : S2 (doE m (oDrop k)) (dropF s k) := by
  have h1 := sim_do h hd (oDrop k)
  exact ⟨h1.1, congrArg Prod.snd h1.2⟩
theorem sim_app {m : RD} {s : DS} (h : Sim m s) (hd : DOk s) (k : ByteArray) (b : List UInt8) : S2 (doE m (oApp k b)) (appendF s k b) := by
  have h1 := sim_do h hd (oApp k b)
  exact ⟨h1.1, congrArg Prod.snd h1.2⟩
theorem sim_sync {m : RD} {s : DS} (h : Sim m s) (hd : DOk s) (k : ByteArray) : S2 (doE m (oSync k)) (syncF s k) := by
  have h1 := sim_do h hd (oSync k)
  exact ⟨h1.1, congrArg Prod.snd h1.2⟩
theorem sim_move {m : RD} {s : DS} (h : Sim m s) (hd : DOk s) (f t : ByteArray) : S2 (doE m (oMove f t)) (moveF s f t) := by
  have h1 := sim_do h hd (oMove f t)
  exact ⟨h1.1, congrArg Prod.snd h1.2⟩

def currentR (m : RD) : Pap × Nat := if m.down = true then (pap0, 2) else if alGet ckNow m.L = none then (pap0, 0) else readPF (get0 ckNow m.L).data
def layEndR (r : RD × Nat) (k : ByteArray) : RD × Nat := if r.2 = 42 then (if (doE r.1 (oDrop k)).2 ≠ 0 then doE r.1 (oDrop k) else ((doE r.1 (oDrop k)).1, 42)) else r
def layR (m : RD) (k : ByteArray) (b : List UInt8) : RD × Nat :=
  if (doE m (oDrop k)).2 ≠ 0 ∧ (doE m (oDrop k)).2 ≠ 41 then doE m (oDrop k)
  else if (doE (doE m (oDrop k)).1 (oApp k b)).2 ≠ 0 then doE (doE m (oDrop k)).1 (oApp k b)
  else layEndR (doE (doE (doE m (oDrop k)).1 (oApp k b)).1 (oSync k)) k
def saveDR (r : RD × Nat) : RD × Nat := if r.2 = 41 then (r.1, 0) else r
def saveCR (r : RD × Nat) (t : Nat) : RD × Nat := if r.2 ≠ 0 then r else if 0 < t then saveDR (doE r.1 (oDrop (areaN t))) else (r.1, 0)
def saveBR (r : RD × Nat) (t : Nat) : RD × Nat := if r.2 ≠ 0 then r else saveCR (doE r.1 (oMove ckTmp ckNow)) t
def saveAR (r : RD × Nat) (t slot sum : Nat) : RD × Nat := if r.2 ≠ 0 then r else saveBR (layR r.1 ckTmp (paperL (t + 1) slot sum)) t
def saveR (m : RD) (slot : Int) (b : List UInt8) : RD × Nat :=
  if slot < 0 ∨ 1099511627776 < slot then (m, 1)
  else if 16384 < b.length then (m, 12)
  else if (currentR m).2 ≠ 0 then (m, (currentR m).2)
  else if 1099511627776 ≤ (currentR m).1.turn then (m, 43)
  else saveAR (layR m (areaN ((currentR m).1.turn + 1)) b) (currentR m).1.turn slot.toNat (sumN b)
def loadPR (m : RD) (p : Pap) : Nat × List UInt8 × Bool × Nat :=
  if alGet (areaN p.turn) m.L = none ∨ sumN (get0 (areaN p.turn) m.L).data ≠ p.sum ∨ 16384 < (get0 (areaN p.turn) m.L).data.length then (0, [], false, 44) else (p.slot, (get0 (areaN p.turn) m.L).data, true, 0)
def loadR (m : RD) : Nat × List UInt8 × Bool × Nat := if (currentR m).2 ≠ 0 ∨ (currentR m).1.turn = 0 then (0, [], false, (currentR m).2) else loadPR m (currentR m).1
def cleanLR (t : Nat) : List ByteArray → RD → RD × Nat
  | [], m => (m, 0)
  | k :: r, m => if staysN t k = true then cleanLR t r m else if (doE m (oDrop k)).2 ≠ 0 then doE m (oDrop k) else cleanLR t r (doE m (oDrop k)).1
def cleanR (m : RD) : RD × Nat := if (currentR m).2 ≠ 0 then (m, (currentR m).2) else cleanLR (currentR m).1.turn (m.L.map (·.1)) m

theorem now_ok : nameOk ckNow = true := by decide +kernel
theorem sim_current {m : RD} {s : DS} (h : Sim m s) : currentR m = currentF s := by
  unfold currentR currentF readF barsF
  rw [h.down, h.a.get, h.a.get0, now_ok]
  by_cases hd : s.down = true
  · rw [if_pos hd, if_pos hd]
    simp
  · rw [if_neg hd, if_neg hd]
    by_cases hg : alGet ckNow s.areas = none
    · simp [hg]
    · simp [hg]
theorem sim_layEnd {r : RD × Nat} {q : DS × Nat} (h : S2 r q) (hd : DOk q.1) (k : ByteArray) : S2 (layEndR r k) (layEnd q k) := by
  have h1 := sim_drop h.1 hd k
  unfold layEndR layEnd
  rw [h.2]
  by_cases h42 : q.2 = 42
  · rw [if_pos h42, if_pos h42, h1.2]
    by_cases h0 : (dropF q.1 k).2 ≠ 0
    · rw [if_pos h0, if_pos h0]; exact h1
    · rw [if_neg h0, if_neg h0]; exact ⟨h1.1, rfl⟩
  · rw [if_neg h42, if_neg h42]; exact h
theorem sim_lay {m : RD} {s : DS} (h : Sim m s) (hd : DOk s) (hst : s.steps < 4611686018427387900) (k : ByteArray) (b : List UInt8) : S2 (layR m k b) (layF s k b) := by
  have h1 := sim_drop h hd k
  have d1 := dropF_ok hd k (by omega)
  have s1 := dropF_steps s k
  have h2 := sim_app h1.1 d1 k b
  have d2 := appendF_ok d1 k b (by omega)
  have s2 := appendF_steps (dropF s k).1 k b
  have h3 := sim_sync h2.1 d2 k
  have d3 := syncF_ok d2 k (by omega)
  unfold layR layF
  rw [h1.2]
  by_cases c1 : (dropF s k).2 ≠ 0 ∧ (dropF s k).2 ≠ 41
  · rw [if_pos c1, if_pos c1]; exact h1
  · rw [if_neg c1, if_neg c1, h2.2]
    by_cases c2 : (appendF (dropF s k).1 k b).2 ≠ 0
    · rw [if_pos c2, if_pos c2]; exact h2
    · rw [if_neg c2, if_neg c2]; exact sim_layEnd h3 d3 k
theorem layEnd_ok {q : DS × Nat} (hd : DOk q.1) (hst : q.1.steps < 4611686018427387904) (k : ByteArray) : DOk (layEnd q k).1 := by
  have := dropF_ok hd k hst
  unfold layEnd
  split
  · split <;> exact this
  · exact hd
theorem layF_ok {s : DS} (hd : DOk s) (hst : s.steps < 4611686018427387900) (k : ByteArray) (b : List UInt8) : DOk (layF s k b).1 := by
  have d1 := dropF_ok hd k (by omega)
  have s1 := dropF_steps s k
  have d2 := appendF_ok d1 k b (by omega)
  have s2 := appendF_steps (dropF s k).1 k b
  have d3 := syncF_ok d2 k (by omega)
  have s3 := syncF_steps (appendF (dropF s k).1 k b).1 k
  unfold layF
  split
  · exact d1
  · split
    · exact d2
    · exact layEnd_ok d3 (by omega) k
theorem sim_save {m : RD} {s : DS} (h : Sim m s) (hd : DOk s) (hst : s.steps < 4611686018427387000) (slot : Int) (b : List UInt8) : S2 (saveR m slot b) (saveF s slot b) := by
  unfold saveR saveF
  rw [sim_current h]
  split
  · exact ⟨h, rfl⟩
  · split
    · exact ⟨h, rfl⟩
    · split
      · exact ⟨h, rfl⟩
      · split
        · exact ⟨h, rfl⟩
        · generalize (currentF s).1.turn = t
          have h1 := sim_lay h hd (by omega) (areaN (t + 1)) b
          have d1 := layF_ok hd (by omega) (areaN (t + 1)) b
          have s1 := layF_steps s (areaN (t + 1)) b
          generalize layF s (areaN (t + 1)) b = q1 at *
          generalize layR m (areaN (t + 1)) b = r1 at *
          unfold saveAR saveA
          rw [h1.2]
          by_cases c1 : q1.2 ≠ 0
          · rw [if_pos c1, if_pos c1]; exact h1
          · rw [if_neg c1, if_neg c1]
            have h2 := sim_lay h1.1 d1 (by omega) ckTmp (paperL (t + 1) slot.toNat (sumN b))
            have d2 := layF_ok d1 (by omega) ckTmp (paperL (t + 1) slot.toNat (sumN b))
            have s2 := layF_steps q1.1 ckTmp (paperL (t + 1) slot.toNat (sumN b))
            generalize layF q1.1 ckTmp (paperL (t + 1) slot.toNat (sumN b)) = q2 at *
            generalize layR r1.1 ckTmp (paperL (t + 1) slot.toNat (sumN b)) = r2 at *
            unfold saveBR saveB
            rw [h2.2]
            by_cases c2 : q2.2 ≠ 0
            · rw [if_pos c2, if_pos c2]; exact h2
            · rw [if_neg c2, if_neg c2]
              have h3 := sim_move h2.1 d2 ckTmp ckNow
              have d3 := moveF_ok d2 ckTmp ckNow (by omega)
              generalize moveF q2.1 ckTmp ckNow = q3 at *
              generalize doE r2.1 (oMove ckTmp ckNow) = r3 at *
              unfold saveCR saveC
              rw [h3.2]
              by_cases c3 : q3.2 ≠ 0
              · rw [if_pos c3, if_pos c3]; exact h3
              · rw [if_neg c3, if_neg c3]
                by_cases c4 : 0 < t
                · rw [if_pos c4, if_pos c4]
                  have h4 := sim_drop h3.1 d3 (areaN t)
                  unfold saveDR saveD
                  rw [h4.2]
                  by_cases c5 : (dropF q3.1 (areaN t)).2 = 41
                  · rw [if_pos c5, if_pos c5]; exact ⟨h4.1, rfl⟩
                  · rw [if_neg c5, if_neg c5]; exact h4
                · rw [if_neg c4, if_neg c4]; exact ⟨h3.1, rfl⟩
theorem sim_cleanL (t : Nat) : ∀ (N : List ByteArray) {m : RD} {s : DS}, Sim m s → DOk s → s.steps + N.length < 4611686018427387904 → S2 (cleanLR t N m) (cleanL t N s)
  | [], _, _, h, _, _ => ⟨h, rfl⟩
  | k :: N, m, s, h, hd, hst => by
    rw [List.length_cons] at hst
    have h1 := sim_drop h hd k
    have d1 := dropF_ok hd k (by omega)
    have s1 := dropF_steps s k
    unfold cleanLR cleanL
    by_cases c : staysN t k = true
    · rw [if_pos c, if_pos c]; exact sim_cleanL t N h hd (by omega)
    · rw [if_neg c, if_neg c, h1.2]
      by_cases c1 : (dropF s k).2 ≠ 0
      · rw [if_pos c1, if_pos c1]; exact h1
      · rw [if_neg c1, if_neg c1]; exact sim_cleanL t N h1.1 d1 (by omega)
theorem sim_clean {m : RD} {s : DS} (h : Sim m s) (hd : DOk s) (hst : s.steps < 4611686018427387000) : S2 (cleanR m) (cleanF s) := by
  unfold cleanR cleanF
  rw [sim_current h]
  by_cases c : (currentF s).2 ≠ 0
  · rw [if_pos c, if_pos c]; exact ⟨h, rfl⟩
  · rw [if_neg c, if_neg c]
    have hdn : s.down = false := by
      cases hx : s.down with
      | false => rfl
      | true =>
        exfalso
        apply c
        rw [← sim_current h]
        unfold currentR
        rw [h.down, if_pos hx]
        simp
    have hN : m.L.map (·.1) = listF s := by
      unfold listF namesF
      rw [if_neg (by rw [hdn]; simp), h.a.names]
    rw [hN]
    have hl : (listF s).length ≤ 64 := by
      rw [← hN, List.length_map, h.a.len]
      exact hd.len
    exact sim_cleanL _ _ h hd (by omega)
theorem sim_load {m : RD} {s : DS} (h : Sim m s) : loadR m = loadF s := by
  unfold loadR loadF
  rw [sim_current h]
  by_cases c : (currentF s).2 ≠ 0 ∨ (currentF s).1.turn = 0
  · rw [if_pos c, if_pos c]
  · rw [if_neg c, if_neg c]
    have hdn : s.down = false := by
      cases hx : s.down with
      | false => rfl
      | true =>
        exfalso
        apply c
        left
        rw [← sim_current h]
        unfold currentR
        rw [h.down, if_pos hx]
        simp
    generalize (currentF s).1 = p
    unfold loadPR loadP readF barsF
    rw [h.a.get, h.a.get0, hdn, areaN_ok]
    by_cases hg : alGet (areaN p.turn) s.areas = none
    · simp [hg]
    · simp [hg]

end Go.Proofs.YtigdhdclfdojgaaGreat
