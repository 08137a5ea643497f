/-
  PLAIN: the last sign (+ or -) of a text. No program.
-/
import Derived.Lib.AtoiAll
namespace Go.Proofs.YtfinbppmkffbhaaDoor

def isPM (b : UInt8) : Bool := b == 43 || b == 45
/-- The last sign among the first k bytes. -/
def lastPM (l : List UInt8) : Nat → Int
  | 0 => -1
  | k + 1 => if isPM (l.getD k 0) = true then (k : Int) else lastPM l k
theorem lastPM_lt (l : List UInt8) : ∀ k, -1 ≤ lastPM l k ∧ lastPM l k < k
  | 0 => by simp [lastPM]
  | k + 1 => by
    have := lastPM_lt l k
    unfold lastPM
    split <;> omega
theorem lastPM_succ (l : List UInt8) (k : Nat) : lastPM l (k + 1) = if isPM (l.getD k 0) = true then (k : Int) else lastPM l k := rfl

end Go.Proofs.YtfinbppmkffbhaaDoor
