/-
  PLAIN LAWS of a script of writes: what it lays down, and that it reads back.
-/
import Derived.Test.YtgbfbhkpjmgipaaOneLaw
import Derived.Test.YtgbfbhkpjmgipaaReadP
namespace Go.Proofs.Ytgbfbhkpjmgipaa
open Go.RowKit

def uN (i : Int) : Nat := (i % 18446744073709551616).toNat
theorem uN_lt (i : Int) : W64 (uN i) := by unfold uN W64; omega
theorem uN_wrap (i : Int) : IntKind.u64.wrap i = ((uN i : Nat) : Int) := by rw [IntKind.wrap_u64]; unfold uN; omega

def putL (p : PutL) : List UInt8 := if p.1 = 0 then numL (uN p.2.1) else if p.1 = 1 then numL (foldN p.2.1) else numL p.2.2.length ++ p.2.2
def outL (ps : List PutL) : List UInt8 := (ps.map putL).flatten

theorem putL_len (p : PutL) : (putL p).length ≤ p.2.2.length + 9 := by
  have h : ∀ u, (numL u).length ≤ 9 := fun u => by have := sizeN_le u; rw [length_numL]; omega
  unfold putL
  split
  · have := h (uN p.2.1); omega
  · split
    · have := h (foldN p.2.1); omega
    · rw [List.length_append]; have := h p.2.2.length; omega
theorem outL_len (ps : List PutL) : (outL ps).length ≤ (ps.map (·.2.2)).flatten.length + 9 * ps.length := by
  induction ps with
  | nil => simp [outL]
  | cons p r ih =>
    have := putL_len p
    simp only [outL, List.map_cons, List.flatten_cons, List.length_append, List.length_cons] at *
    omega
theorem outL_snoc (ps : List PutL) (k : Nat) (h : k < ps.length) : outL (ps.take (k + 1)) = outL (ps.take k) ++ putL ps[k] := by
  unfold outL
  rw [List.take_succ_eq_append_getElem h, List.map_append, List.flatten_append]
  simp
theorem outL_take_len (ps : List PutL) (k : Nat) : (outL (ps.take k)).length ≤ (outL ps).length := by
  conv => rhs; rw [← List.take_append_drop k ps]
  unfold outL
  rw [List.map_append, List.flatten_append, List.length_append]
  omega
theorem outL_drop (ps : List PutL) (k : Nat) (h : k < ps.length) : outL (ps.drop k) = putL ps[k] ++ outL (ps.drop (k + 1)) := by
  have e := (List.getElem_cons_drop h).symm
  unfold outL
  rw [e, List.map_cons, List.flatten_cons]

theorem rnum_numL (u : Nat) (hu : W64 u) (rest : List UInt8) : rnum (numL u ++ rest) 0 = ((rest, 0), u) := by
  have h8 := sizeN_le u
  have hlt := sizeN_lt u (by unfold W64 at hu; omega)
  have hc : (UInt8.ofNat (sizeN u)).toNat = sizeN u := by simp; omega
  have htk : (beN (sizeN u) u ++ rest).take (sizeN u) = beN (sizeN u) u := by
    have := List.take_left (l₁ := beN (sizeN u) u) (l₂ := rest)
    rwa [length_beN] at this
  have hdr : (beN (sizeN u) u ++ rest).drop (sizeN u) = rest := by
    have := List.drop_left (l₁ := beN (sizeN u) u) (l₂ := rest)
    rwa [length_beN] at this
  have hob : ofBE (beN (sizeN u) u) = u := by rw [ofBE_beN, Nat.mod_eq_of_lt hlt]
  have hl : sizeN u ≤ (beN (sizeN u) u ++ rest).length := by rw [List.length_append, length_beN]; omega
  have hz : ¬ (0 < sizeN u ∧ (beN (sizeN u) u ++ rest)[0]? = some 0) := by
    rw [← sizeN_read _ (sizeN u) h8 hl, htk, hob]
  show rnum (UInt8.ofNat (sizeN u) :: (beN (sizeN u) u ++ rest)) 0 = _
  rw [rnum_cons, hc, if_neg (by omega), if_neg (by omega), if_neg hz, hdr, htk, hob]

theorem rtext_back (b rest : List UInt8) (hb : b.length ≤ 140737488355328) : rtext (numL b.length ++ b ++ rest) 0 (b.length : Int) = ((rest, 0), b) := by
  have h1 : rcount (numL b.length ++ b ++ rest) 0 (b.length : Int) = ((b ++ rest, 0), b.length) := by
    unfold rcount
    rw [List.append_assoc, rnum_numL _ (by unfold W64; omega), if_neg (by simp)]
  unfold rtext
  rw [h1, if_neg (by simp), if_neg (by simp)]
  simp

end Go.Proofs.Ytgbfbhkpjmgipaa
