/-
  wal IN PLAIN LEAN: frames, pieces, what is found on a disk.
-/
import Derived.Test.YtigdhdclfdojgaaGreatWalName
import Derived.Test.YtigdhdclfdojgaaGreatSnapSteps
namespace Go.Proofs.YtigdhdclfdojgaaGreat
open Go.RowKit

def frameL (d : List UInt8) : List UInt8 := numL (d.length + 8) ++ sealL d
def headerL (num first : Nat) : List UInt8 := frameL (numL num ++ numL first)
theorem length_frameL (d : List UInt8) : (frameL d).length = sizeN (d.length + 8) + 1 + d.length + 8 := by
  unfold frameL
  rw [List.length_append, length_numL, length_sealL]
  omega
theorem frameL_pos (d : List UInt8) : 9 ≤ (frameL d).length := by rw [length_frameL]; omega
theorem frameL_le (d : List UInt8) : (frameL d).length ≤ d.length + 17 := by rw [length_frameL]; have := sizeN_le (d.length + 8); omega
/-- What the first frame of b holds. -/
def frame1 (b : List UInt8) : Option (List UInt8) := if (rtext b 0 8200).1.2 ≠ 0 ∨ openE (rtext b 0 8200).2 ≠ 0 then none else some (openL (rtext b 0 8200).2)
def splitN : Nat → List UInt8 → List (List UInt8)
  | 0, _ => []
  | k + 1, b => match frame1 b with
    | none => []
    | some d => d :: splitN k (b.drop (frameL d).length)
def splitL (b : List UInt8) : List (List UInt8) := splitN (b.length + 1) b

theorem open_back {t : List UInt8} (h : openE t = 0) : t = sealL (openL t) := by
  unfold openE at h
  by_cases ho : okSeal t = true
  · unfold openL sealL
    rw [if_pos ho]
    have h8 : 8 ≤ t.length := by
      unfold okSeal at ho
      simp at ho
      exact ho.1
    have hi := okSeal_iff (l := t) (m := t.length - 8) (by omega)
    rw [ho] at hi
    have he : eightL (sumN (t.take (t.length - 8))) = t.drop (t.length - 8) := by simpa using hi.symm
    rw [he, List.take_append_drop]
  · rw [if_neg ho] at h
    split at h <;> omega
theorem rnum_back' (left : List UInt8) (h : (rnum left 0).1.2 = 0) : left = numL (rnum left 0).2 ++ (rnum left 0).1.1 := by
  unfold rnum at *
  rw [if_neg (by simp)] at h ⊢
  cases left with
  | nil => simp at h
  | cons c r =>
    simp only [] at h ⊢
    by_cases c1 : 8 < c.toNat
    · rw [if_pos c1] at h; simp at h
    rw [if_neg c1] at h ⊢
    by_cases c2 : r.length < c.toNat
    · rw [if_pos c2] at h; simp at h
    rw [if_neg c2] at h ⊢
    by_cases c3 : 0 < c.toNat ∧ r[0]? = some 0
    · rw [if_pos c3] at h; simp at h
    rw [if_neg c3]
    have hs : sizeN (ofBE (r.take c.toNat)) = c.toNat := by
      rw [sizeN_read r c.toNat (by omega) (by omega)]
      exact c3
    unfold numL
    rw [hs]
    have hl : (r.take c.toNat).length = c.toNat := by rw [List.length_take]; omega
    have hb : beN c.toNat (ofBE (r.take c.toNat)) = r.take c.toNat := by
      have := beN_ofBE (r.take c.toNat)
      rw [hl] at this
      exact this
    rw [hb]
    simp
theorem frame1_some {b d : List UInt8} (h : frame1 b = some d) : ∃ r, b = frameL d ++ r ∧ d.length ≤ 8192 := by
  unfold frame1 at h
  by_cases hc : (rtext b 0 8200).1.2 ≠ 0 ∨ openE (rtext b 0 8200).2 ≠ 0
  · rw [if_pos hc] at h; cases h
  rw [if_neg hc] at h
  have hc1 : (rtext b 0 8200).1.2 = 0 := by
    by_cases h0 : (rtext b 0 8200).1.2 = 0
    · exact h0
    · exact absurd (Or.inl h0) hc
  have hc2 : openE (rtext b 0 8200).2 = 0 := by
    by_cases h0 : openE (rtext b 0 8200).2 = 0
    · exact h0
    · exact absurd (Or.inr h0) hc
  have hb := open_back hc2
  have hd : openL (rtext b 0 8200).2 = d := by injection h
  rw [hd] at hb
  unfold rtext at hb hc1
  unfold rcount at hb hc1
  by_cases c0 : (max 0 (8200 : Int)).toNat < (rnum b 0).2
  · simp only [c0, if_true] at hc1
    simp at hc1
  rw [if_neg c0] at hb hc1
  by_cases c1 : (rnum b 0).1.2 ≠ 0
  · rw [if_pos c1] at hc1; exact absurd hc1 c1
  rw [if_neg c1] at hb hc1
  by_cases c2 : (rnum b 0).1.1.length < (rnum b 0).2
  · rw [if_pos c2] at hc1; simp at hc1
  rw [if_neg c2] at hb
  simp only [] at hb
  have h0 : (rnum b 0).1.2 = 0 := by omega
  have hbk := rnum_back' b h0
  have hlen : (rnum b 0).2 = d.length + 8 := by
    have h1 := congrArg List.length hb
    rw [List.length_take, length_sealL] at h1
    omega
  refine ⟨(rnum b 0).1.1.drop (rnum b 0).2, ?_, ?_⟩
  · unfold frameL
    rw [← hlen, ← hb, List.append_assoc, List.take_append_drop]
    exact hbk
  · have e : (max 0 (8200 : Int)).toNat = 8200 := rfl
    omega
theorem splitN_fuel : ∀ (k j : Nat) (b : List UInt8), b.length < k → b.length < j → splitN k b = splitN j b
  | 0, _, _, h, _ => by omega
  | _, 0, _, _, h => by omega
  | k + 1, j + 1, b, h1, h2 => by
    unfold splitN
    cases hf : frame1 b with
    | none => rfl
    | some d =>
      obtain ⟨r, hr, -⟩ := frame1_some hf
      have hp := frameL_pos d
      have hl : (b.drop (frameL d).length).length + 9 ≤ b.length := by
        rw [List.length_drop]
        have : b.length = (frameL d).length + r.length := by rw [hr, List.length_append]
        omega
      simp only []
      rw [splitN_fuel k j _ (by omega) (by omega)]
theorem splitL_none {b : List UInt8} (h : frame1 b = none) : splitL b = [] := by unfold splitL splitN; rw [h]
theorem splitL_some {b d : List UInt8} (h : frame1 b = some d) : splitL b = d :: splitL (b.drop (frameL d).length) := by
  obtain ⟨r, hr, -⟩ := frame1_some h
  have hp := frameL_pos d
  have hl : (b.drop (frameL d).length).length + 9 ≤ b.length := by
    rw [List.length_drop]
    have : b.length = (frameL d).length + r.length := by rw [hr, List.length_append]
    omega
  unfold splitL
  conv => lhs; unfold splitN
  rw [h]
  simp only []
  rw [splitN_fuel b.length ((b.drop (frameL d).length).length + 1) _ (by omega) (by omega)]
theorem rtext_num (u : Nat) (hu : u ≤ 8200) (rest : List UInt8) (hl : u ≤ rest.length) : rtext (numL u ++ rest) 0 8200 = ((rest.drop u, 0), rest.take u) := by
  unfold rtext
  have h := rcount_num u 8200 (by omega) (by omega) rest
  rw [h]
  simp only []
  rw [if_neg (by simp), if_neg (by omega)]
theorem frame1_frame (d r : List UInt8) (h : d.length ≤ 8192) : frame1 (frameL d ++ r) = some d := by
  have hl : (sealL d).length = d.length + 8 := length_sealL d
  have ht : rtext (frameL d ++ r) 0 8200 = ((r, 0), sealL d) := by
    unfold frameL
    rw [List.append_assoc, rtext_num (d.length + 8) (by omega) _ (by rw [List.length_append]; omega)]
    rw [List.drop_left' (by omega), List.take_left' (by omega)]
  unfold frame1
  rw [ht]
  simp only []
  rw [openE_sealL, openL_sealL, if_neg (by simp)]
theorem splitL_frame (d r : List UInt8) (h : d.length ≤ 8192) : splitL (frameL d ++ r) = d :: splitL r := by
  rw [splitL_some (frame1_frame d r h), List.drop_left' rfl]
theorem frame1_nil : frame1 [] = none := by
  unfold frame1
  rw [if_pos]
  left
  show (rtext [] 0 8200).1.2 ≠ 0
  unfold rtext rcount rnum
  simp
theorem splitL_nil : splitL [] = [] := splitL_none frame1_nil
def frames (ds : List (List UInt8)) : List UInt8 := (ds.map frameL).flatten
theorem frames_nil : frames [] = [] := rfl
theorem frames_cons (d : List UInt8) (ds : List (List UInt8)) : frames (d :: ds) = frameL d ++ frames ds := by simp [frames]
theorem frames_append (a b : List (List UInt8)) : frames (a ++ b) = frames a ++ frames b := by simp [frames]
theorem splitL_frames : ∀ (ds : List (List UInt8)) (r : List UInt8), (∀ d ∈ ds, d.length ≤ 8192) → splitL (frames ds ++ r) = ds ++ splitL r
  | [], r, _ => by simp [frames_nil]
  | d :: ds, r, h => by
    rw [frames_cons, List.append_assoc, splitL_frame d _ (h d (by simp)), splitL_frames ds r (fun x hx => h x (by simp [hx]))]
    rfl
/-- What is read off is what lies in front. -/
theorem split_pre : ∀ (n : Nat) (b : List UInt8), b.length ≤ n → ∃ r, b = frames (splitL b) ++ r ∧ frame1 r = none ∧ ∀ d ∈ splitL b, d.length ≤ 8192
  | n, b, hn => by
    cases hf : frame1 b with
    | none => exact ⟨b, by rw [splitL_none hf]; rfl, hf, by rw [splitL_none hf]; simp⟩
    | some d =>
      obtain ⟨r, hr, hd⟩ := frame1_some hf
      have hp := frameL_pos d
      have hl : b.length = (frameL d).length + r.length := by rw [hr, List.length_append]
      have hdr : b.drop (frameL d).length = r := by rw [hr, List.drop_left' rfl]
      obtain ⟨r2, h1, h2, h3⟩ := split_pre (n - 1) r (by omega)
      rw [splitL_some hf, hdr]
      refine ⟨r2, ?_, h2, fun x hx => ?_⟩
      · rw [frames_cons, List.append_assoc, ← h1]; exact hr
      · rcases List.mem_cons.1 hx with e | e
        · rw [e]; exact hd
        · exact h3 x e
  termination_by n => n
  decreasing_by omega

/-- A piece's header. -/
def beginsF (d : List UInt8) (num : Nat) : Nat × Bool :=
  ((rcount (rcount d 0 999999).1.1 (rcount d 0 999999).1.2 1099511627776).2, decide (rdone (rcount (rcount d 0 999999).1.1 (rcount d 0 999999).1.2 1099511627776).1.1 (rcount (rcount d 0 999999).1.1 (rcount d 0 999999).1.2 1099511627776).1.2 = 0 ∧ (rcount d 0 999999).2 = num ∧ 0 < (rcount (rcount d 0 999999).1.1 (rcount d 0 999999).1.2 1099511627776).2))
theorem begins_header (num first : Nat) (hn : num ≤ 999999) (hf : first ≤ 1099511627776) (h0 : 0 < first) : beginsF (numL num ++ numL first) num = (first, true) := by
  have e1 := rcount_num num 999999 (by omega) (by omega) (numL first)
  have e2 := rcount_num first 1099511627776 (by omega) (by omega) []
  rw [List.append_nil] at e2
  unfold beginsF
  rw [e1]
  simp only []
  rw [e2]
  simp only []
  unfold rdone
  simp [h0]

/-- What is found on a disk. -/
structure FoundS where
  pieces : List (Nat × Nat)
  recs : List (Nat × List UInt8)
  next : Nat
  good : Nat
  whole : Bool
  rest : List Nat
def found0 : FoundS := ⟨[], [], 1, 0, true, []⟩
def numbered : Nat → List (List UInt8) → List (Nat × List UInt8)
  | _, [] => []
  | i, d :: r => (i, d) :: numbered (i + 1) r
def headOf (ds : List (List UInt8)) (num : Nat) : Nat × Bool := match ds with
  | [] => (0, false)
  | h :: _ => beginsF h num
/-- One area. -/
def scan1 (f : FoundS) (k : ByteArray) (b : List UInt8) : FoundS :=
  if numberN k = 0 then f
  else if f.whole = false ∨ (headOf (splitL b) (numberN k)).2 = false ∨ (0 < f.pieces.length ∧ (headOf (splitL b) (numberN k)).1 ≠ f.next) then { f with whole := false, rest := f.rest ++ [numberN k] }
  else ⟨f.pieces ++ [(numberN k, (headOf (splitL b) (numberN k)).1)], f.recs ++ numbered (headOf (splitL b) (numberN k)).1 (splitL b).tail, (headOf (splitL b) (numberN k)).1 + (splitL b).tail.length,
    (frames (splitL b)).length, decide ((frames (splitL b)).length = b.length), f.rest⟩
def scanL (L : List (ByteArray × List UInt8)) : FoundS := L.foldl (fun f x => scan1 f x.1 x.2) found0

end Go.Proofs.YtigdhdclfdojgaaGreat
