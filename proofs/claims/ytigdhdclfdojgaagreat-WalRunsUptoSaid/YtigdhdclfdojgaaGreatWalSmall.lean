/-
  A SMALL DISK: no area has more than 4194304 bytes; every call keeps that.
-/
import Derived.Test.YtigdhdclfdojgaaGreatWalOpen
import Derived.Test.YtigdhdclfdojgaaGreatSnapHead
namespace Go.Proofs.YtigdhdclfdojgaaGreat
open Go.RowKit

def SmallD (s : DS) : Prop := ∀ x ∈ s.areas, x.2.data.length ≤ 4194304
theorem SmallD.get0 {s : DS} (h : SmallD s) (k : ByteArray) : (get0 k s.areas).data.length ≤ 4194304 := by
  unfold Proofs.YtigdhdclfdojgaaGreat.get0
  cases hg : alGet k s.areas with
  | none => simp
  | some a => exact h (k, a) (alGet_mem hg)
theorem SmallD.read {s : DS} (h : SmallD s) (k : ByteArray) : (readF s k).1.length ≤ 4194304 := by
  unfold readF
  split
  · simp
  · exact h.get0 k
theorem SmallD.of {s t : DS} (h : SmallD s) (e : t.areas = s.areas) : SmallD t := fun x hx => h x (by rw [← e]; exact hx)
theorem SmallD.put {s : DS} (h : SmallD s) (k : ByteArray) (a : AreaP) (ha : a.data.length ≤ 4194304) : SmallD (putF s k a) := by
  intro x hx
  rcases mem_alPut hx with e | e
  · rw [e]; exact ha
  · exact h x e
theorem SmallD.step {s : DS} (h : SmallD s) : SmallD (stepF s).1 := h.of (stepF_areas s)
theorem SmallD.new (n : Int) : SmallD (newF n) := fun x hx => by cases hx
theorem SmallD.append {s : DS} (h : SmallD s) (k : ByteArray) (d : List UInt8) : SmallD (appendF s k d).1 := by
  unfold appendF
  split
  · exact h
  · split
    · exact h
    · split
      · exact h
      · refine SmallD.step (h.put _ _ ?_)
        simp only [List.length_append]
        omega
theorem SmallD.sync {s : DS} (h : SmallD s) (k : ByteArray) : SmallD (syncF s k).1 := by
  unfold syncF
  split
  · exact h
  · split
    · exact h
    · split
      · exact h.step
      · exact h.step.put _ _ (h.get0 k)
theorem SmallD.cut {s : DS} (h : SmallD s) (k : ByteArray) (n : Int) : SmallD (cutF s k n).1 := by
  unfold cutF
  split
  · exact h
  · split
    · exact h
    · split
      · exact h.step
      · refine h.step.put _ _ ?_
        unfold cutA
        have := h.get0 k
        simp only [List.length_take]
        omega
theorem SmallD.drop {s : DS} (h : SmallD s) (k : ByteArray) : SmallD (dropF s k).1 := by
  unfold dropF
  split
  · exact h
  · split
    · exact h.step
    · intro x hx
      exact h x (mem_alDel (k := k) (l := s.areas) hx)
theorem SmallD.crash1 {s : DS} (h : SmallD s) (k : ByteArray) (v : Option Int) : SmallD (crash1 s k v) := by
  unfold Proofs.YtigdhdclfdojgaaGreat.crash1
  refine h.put _ _ ?_
  have := h.get0 k
  simp only [List.length_take]
  omega
theorem SmallD.fuse {s : DS} (h : SmallD s) (n : Int) : SmallD (fuseF s n) := h
theorem SmallD.dropAll : ∀ (l : List Nat) {s : DS}, SmallD s → SmallD (dropAll l s).1
  | [], s, h => by rw [dropAll_nil]; exact h
  | n :: r, s, h => by
    rw [dropAll_cons]
    split
    · exact h.drop _
    · exact SmallD.dropAll r (h.drop _)
theorem SmallD.begin {s : DS} (h : SmallD s) (l : LogP) (a b : Nat) : SmallD (beginF s l a b).1 := by
  unfold beginF
  split
  · exact h.append _ _
  · unfold beginB
    split
    · split
      · exact ((h.append _ _).sync _).drop _
      · exact ((h.append _ _).sync _).drop _
    · split
      · exact (h.append _ _).sync _
      · exact (h.append _ _).sync _
theorem SmallD.open {s : DS} (h : SmallD s) (n : Int) : SmallD (openF s n).1 := by
  unfold openF
  split
  · exact h
  · have h1 := SmallD.dropAll (scanF s).rest.reverse h
    generalize Proofs.YtigdhdclfdojgaaGreat.dropAll (scanF s).rest.reverse s = t at *
    unfold openDrop
    split
    · exact h1
    · split
      · have h2 := h1.begin (freshL n) 1 1
        unfold openNew
        split
        · exact h2
        · exact h2
      · have h2 := h1.cut (walName (lastP (foundL (scanF s) n)).1) ((scanF s).good : Int)
        unfold openCut
        split
        · exact h2
        · have h3 := h2.sync (walName (lastP (foundL (scanF s) n)).1)
          unfold openSync
          split
          · exact h3
          · exact h3
theorem SmallD.appTail {s : DS} (h : SmallD s) (l : LogP) (d : List UInt8) : SmallD (appTail s l d).1 := by
  have h1 := h.append (walName (lastP l).1) (frameL d)
  unfold Proofs.YtigdhdclfdojgaaGreat.appTail
  split
  · exact h1
  · exact h1
theorem SmallD.appendL {s : DS} (h : SmallD s) (l : LogP) (d : List UInt8) : SmallD (appendLF s l d).1 := by
  unfold appendLF
  split
  · exact h
  · split
    · exact h
    · split
      · split
        · exact h
        · have h1 := h.sync (walName (lastP l).1)
          unfold rollF
          split
          · exact h1
          · have h2 := h1.begin l ((lastP l).1 + 1) l.next
            unfold roll2
            split
            · exact h2
            · exact h2.appTail _ d
      · exact h.appTail l d
theorem SmallD.syncL {s : DS} (h : SmallD s) (l : LogP) : SmallD (syncLF s l).1 := by
  unfold syncLF
  split
  · exact h
  · exact h.sync _

/-! ### A new disk -/
theorem listF_new (n : Int) : listF (newF n) = [] := by
  apply List.eq_nil_of_length_eq_zero
  rw [listF_length]
  rfl
theorem scanF_new (n : Int) : scanF (newF n) = found0 := by
  unfold scanF
  rw [listF_new]
  rfl
theorem openF_new (n m : Int) : openF (newF n) m = openNew (beginF (newF n) (freshL m) 1 1) := by
  unfold openF
  rw [scanF_new]
  rfl

end Go.Proofs.YtigdhdclfdojgaaGreat
