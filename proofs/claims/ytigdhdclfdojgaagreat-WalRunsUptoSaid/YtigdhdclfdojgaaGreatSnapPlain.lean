/-
  A CHECKPOINT'S PLACE ON A DISK, in plain Lean: what Save, Load and Clean do.
-/
import Derived.Test.YtigdhdclfdojgaaGreatDiskWhole
import Derived.Test.YtigdhdclfdojgaaGreatPackSeal
import Derived.Lib.Strings
namespace Go.Proofs.YtigdhdclfdojgaaGreat
open Go.RowKit

def ckNow : ByteArray := { data := #[99, 107, 45, 110, 111, 119] }
def ckTmp : ByteArray := { data := #[99, 107, 45, 116, 109, 112] }
def ckA : ByteArray := { data := #[99, 107, 45, 97] }
def ckB : ByteArray := { data := #[99, 107, 45, 98] }
def areaN (t : Nat) : ByteArray := if t % 2 = 0 then ckA else ckB
structure Pap where
  turn : Nat
  slot : Nat
  sum : Nat
def sealL (l : List UInt8) : List UInt8 := l ++ eightL (sumN l)
def paperL (t s sum : Nat) : List UInt8 := sealL (numL t ++ numL s ++ numL sum)
def pap0 : Pap := ⟨0, 0, 0⟩
def papR1 (c : List UInt8) : (List UInt8 × Nat) × Nat := rcount c 0 1099511627776
def papR2 (c : List UInt8) : (List UInt8 × Nat) × Nat := rcount (papR1 c).1.1 (papR1 c).1.2 1099511627776
def papR3 (c : List UInt8) : (List UInt8 × Nat) × Nat := rnum (papR2 c).1.1 (papR2 c).1.2
def papR (c : List UInt8) : Pap × Nat := (⟨(papR1 c).2, (papR2 c).2, (papR3 c).2⟩, rdone (papR3 c).1.1 (papR3 c).1.2)
def readPF (b : List UInt8) : Pap × Nat := if openE b ≠ 0 then (pap0, 44) else if (papR (openL b)).2 ≠ 0 ∨ (papR (openL b)).1.turn = 0 then (pap0, 44) else ((papR (openL b)).1, 0)
def currentF (s : DS) : Pap × Nat := if (readF s ckNow).2 = 0 then readPF (readF s ckNow).1 else if (readF s ckNow).2 = 41 then (pap0, 0) else (pap0, (readF s ckNow).2)
def layEnd (r : DS × Nat) (k : ByteArray) : DS × Nat := if r.2 = 42 then (if (dropF r.1 k).2 ≠ 0 then dropF r.1 k else ((dropF r.1 k).1, 42)) else r
def layF (s : DS) (k : ByteArray) (b : List UInt8) : DS × Nat :=
  if (dropF s k).2 ≠ 0 ∧ (dropF s k).2 ≠ 41 then dropF s k
  else if (appendF (dropF s k).1 k b).2 ≠ 0 then appendF (dropF s k).1 k b
  else layEnd (syncF (appendF (dropF s k).1 k b).1 k) k
def saveD (r : DS × Nat) : DS × Nat := if r.2 = 41 then (r.1, 0) else r
def saveC (r : DS × Nat) (t : Nat) : DS × Nat := if r.2 ≠ 0 then r else if 0 < t then saveD (dropF r.1 (areaN t)) else (r.1, 0)
def saveB (r : DS × Nat) (t : Nat) : DS × Nat := if r.2 ≠ 0 then r else saveC (moveF r.1 ckTmp ckNow) t
def saveA (r : DS × Nat) (t slot sum : Nat) : DS × Nat := if r.2 ≠ 0 then r else saveB (layF r.1 ckTmp (paperL (t + 1) slot sum)) t
def saveF (s : DS) (slot : Int) (b : List UInt8) : DS × Nat :=
  if slot < 0 ∨ 1099511627776 < slot then (s, 1)
  else if 16384 < b.length then (s, 12)
  else if (currentF s).2 ≠ 0 then (s, (currentF s).2)
  else if 1099511627776 ≤ (currentF s).1.turn then (s, 43)
  else saveA (layF s (areaN ((currentF s).1.turn + 1)) b) (currentF s).1.turn slot.toNat (sumN b)
def loadP (s : DS) (p : Pap) : Nat × List UInt8 × Bool × Nat :=
  if (readF s (areaN p.turn)).2 = 41 ∨ ((readF s (areaN p.turn)).2 = 0 ∧ (sumN (readF s (areaN p.turn)).1 ≠ p.sum ∨ 16384 < (readF s (areaN p.turn)).1.length)) then (0, [], false, 44)
  else if (readF s (areaN p.turn)).2 ≠ 0 then (0, [], false, (readF s (areaN p.turn)).2)
  else (p.slot, (readF s (areaN p.turn)).1, true, 0)
def loadF (s : DS) : Nat × List UInt8 × Bool × Nat := if (currentF s).2 ≠ 0 ∨ (currentF s).1.turn = 0 then (0, [], false, (currentF s).2) else loadP s (currentF s).1
def preL : List UInt8 := [99, 107, 45]
def hasPre (k : ByteArray) : Bool := Lib.hasPrefix (toL k) preL
def staysN (t : Nat) (k : ByteArray) : Bool := !hasPre k || decide (k = ckNow) || (decide (0 < t) && decide (k = areaN t))
def cleanL (t : Nat) : List ByteArray → DS → DS × Nat
  | [], s => (s, 0)
  | k :: r, s => if staysN t k = true then cleanL t r s else if (dropF s k).2 ≠ 0 then dropF s k else cleanL t r (dropF s k).1
def cleanF (s : DS) : DS × Nat := if (currentF s).2 ≠ 0 then (s, (currentF s).2) else cleanL (currentF s).1.turn (listF s) s

/-! ### Bounds -/

theorem areaN_ok (t : Nat) : nameOk (areaN t) = true := by
  unfold areaN
  split <;> decide +kernel
theorem areaN_size (t : Nat) : (areaN t).size ≤ 9223372036854775807 := by
  unfold areaN
  split <;> decide
theorem rcount_most (left : List UInt8) (bad : Nat) {most : Int} (hm : 0 ≤ most) : ((rcount left bad most).2 : Int) ≤ most := by
  unfold rcount
  split
  · exact hm
  · rename_i h; omega
theorem papR_le (c : List UInt8) : (papR c).1.turn ≤ 1099511627776 ∧ (papR c).1.slot ≤ 1099511627776 ∧ W64 (papR c).1.sum :=
  ⟨by have := rcount_most c 0 (most := 1099511627776) (by omega); show (papR1 c).2 ≤ _; unfold papR1; omega,
   by have := rcount_most (papR1 c).1.1 (papR1 c).1.2 (most := 1099511627776) (by omega); show (papR2 c).2 ≤ _; unfold papR2; omega, rnum_lt _ _⟩
theorem readPF_le (b : List UInt8) : (readPF b).1.turn ≤ 1099511627776 ∧ (readPF b).1.slot ≤ 1099511627776 ∧ W64 (readPF b).1.sum := by
  unfold readPF
  split
  · unfold pap0 W64; simp
  · split
    · unfold pap0 W64; simp
    · exact papR_le _
theorem currentF_le (s : DS) : (currentF s).1.turn ≤ 1099511627776 ∧ (currentF s).1.slot ≤ 1099511627776 ∧ W64 (currentF s).1.sum := by
  unfold currentF
  split
  · exact readPF_le _
  · split <;> (unfold pap0 W64; simp)
theorem dropF_steps (s : DS) (k : ByteArray) : (dropF s k).1.steps ≤ s.steps + 1 := by
  unfold dropF stepF
  split
  · simp; omega
  · split
    · split <;> simp <;> omega
    · split <;> simp <;> omega
theorem appendF_steps (s : DS) (k : ByteArray) (d : List UInt8) : (appendF s k d).1.steps ≤ s.steps + 1 := by
  unfold appendF
  split
  · simp; omega
  · split
    · simp; omega
    · split
      · simp; omega
      · unfold stepF putF; split <;> simp <;> omega
theorem syncF_steps (s : DS) (k : ByteArray) : (syncF s k).1.steps ≤ s.steps + 1 := by
  unfold syncF
  split
  · simp; omega
  · split
    · simp; omega
    · unfold stepF putF; split <;> split <;> simp <;> omega
theorem moveF_steps (s : DS) (f t : ByteArray) : (moveF s f t).1.steps ≤ s.steps + 1 := by
  unfold moveF stepF
  split
  · simp; omega
  · split
    · simp; omega
    · split
      · split <;> simp <;> omega
      · split <;> simp <;> omega
theorem layEnd_steps (r : DS × Nat) (k : ByteArray) : (layEnd r k).1.steps ≤ r.1.steps + 1 := by
  have := dropF_steps r.1 k
  unfold layEnd
  split
  · split <;> omega
  · omega
theorem layF_steps (s : DS) (k : ByteArray) (b : List UInt8) : (layF s k b).1.steps ≤ s.steps + 4 := by
  have h1 := dropF_steps s k
  have h2 := appendF_steps (dropF s k).1 k b
  have h3 := syncF_steps (appendF (dropF s k).1 k b).1 k
  have h4 := layEnd_steps (syncF (appendF (dropF s k).1 k b).1 k) k
  unfold layF
  split
  · omega
  · split <;> omega
theorem saveC_steps (r : DS × Nat) (t : Nat) : (saveC r t).1.steps ≤ r.1.steps + 1 := by
  have h1 := dropF_steps r.1 (areaN t)
  unfold saveC saveD
  split
  · omega
  · split
    · split <;> (try simp only []) <;> omega
    · (try simp only []); omega
theorem saveB_steps (r : DS × Nat) (t : Nat) : (saveB r t).1.steps ≤ r.1.steps + 2 := by
  have h1 := moveF_steps r.1 ckTmp ckNow
  have h2 := saveC_steps (moveF r.1 ckTmp ckNow) t
  unfold saveB
  split <;> omega
theorem saveA_steps (r : DS × Nat) (t slot sum : Nat) : (saveA r t slot sum).1.steps ≤ r.1.steps + 6 := by
  have h1 := layF_steps r.1 ckTmp (paperL (t + 1) slot sum)
  have h2 := saveB_steps (layF r.1 ckTmp (paperL (t + 1) slot sum)) t
  unfold saveA
  split <;> omega
theorem saveF_steps (s : DS) (slot : Int) (b : List UInt8) : (saveF s slot b).1.steps ≤ s.steps + 10 := by
  have h1 := layF_steps s (areaN ((currentF s).1.turn + 1)) b
  have h2 := saveA_steps (layF s (areaN ((currentF s).1.turn + 1)) b) (currentF s).1.turn slot.toNat (sumN b)
  unfold saveF
  split
  · simp; omega
  · split
    · simp; omega
    · split
      · simp; omega
      · split
        · simp; omega
        · omega
theorem cleanL_steps (t : Nat) : ∀ (l : List ByteArray) (s : DS), (cleanL t l s).1.steps ≤ s.steps + l.length
  | [], s => by simp [cleanL]
  | k :: r, s => by
    have h1 := dropF_steps s k
    have h2 := cleanL_steps t r s
    have h3 := cleanL_steps t r (dropF s k).1
    unfold cleanL
    rw [List.length_cons]
    split
    · omega
    · split <;> omega

end Go.Proofs.YtigdhdclfdojgaaGreat
