/-
  wal: OPEN, in plain Lean; what lies in memory behind the scan.
-/
import Derived.Test.YtigdhdclfdojgaaGreatWalTrim
namespace Go.Proofs.YtigdhdclfdojgaaGreat
open Go.RowKit

abbrev Recs := List (Nat × List UInt8)
def dropAll : List Nat → DS → DS × Nat
  | [], s => (s, 0)
  | n :: r, s => if (dropF s (walName n)).2 ≠ 0 then ((dropF s (walName n)).1, (dropF s (walName n)).2) else dropAll r (dropF s (walName n)).1
theorem dropAll_nil (s : DS) : dropAll [] s = (s, 0) := rfl
theorem dropAll_cons (n : Nat) (r : List Nat) (s : DS) : dropAll (n :: r) s = if (dropF s (walName n)).2 ≠ 0 then ((dropF s (walName n)).1, (dropF s (walName n)).2) else dropAll r (dropF s (walName n)).1 := rfl
def limF (n : Int) : Nat := (max 1 (min n 65536)).toNat
theorem limF_int (n : Int) : max 1 (min n 65536) = (limF n : Int) := by unfold limF; omega
theorem limF_le (n : Int) : limF n ≤ 65536 := by unfold limF; omega
def freshL (n : Int) : LogP := ⟨limF n, [], 0, 0, false⟩
def foundL (f : FoundS) (n : Int) : LogP := ⟨limF n, f.pieces, f.next, f.good, false⟩
abbrev OpenR := DS × Option (LogP × Recs) × Nat
def openSync (f : FoundS) (n : Int) (t : DS × Nat) : OpenR := if t.2 ≠ 0 then (t.1, none, t.2) else (t.1, some (foundL f n, f.recs), 0)
def openCut (f : FoundS) (n : Int) (k : ByteArray) (t : DS × Nat) : OpenR := if t.2 ≠ 0 then (t.1, none, t.2) else openSync f n (syncF t.1 k)
def openNew (t : DS × LogP × Nat) : OpenR := if t.2.2 ≠ 0 then (t.1, none, t.2.2) else (t.1, some (t.2.1, []), 0)
def openDrop (f : FoundS) (n : Int) (t : DS × Nat) : OpenR :=
  if t.2 ≠ 0 then (t.1, none, t.2)
  else if f.pieces = [] then openNew (beginF t.1 (freshL n) 1 1)
  else openCut f n (walName (lastP (foundL f n)).1) (cutF t.1 (walName (lastP (foundL f n)).1) (f.good : Int))
def openF (s : DS) (n : Int) : OpenR := if s.down = true then (s, none, 2) else openDrop (scanF s) n (dropAll (scanF s).rest.reverse s)

/-- Bounds of what is found. -/
structure SBd (j : Nat) (f : FoundS) : Prop where
  rest : f.rest.length ≤ j
  pieces : f.pieces.length ≤ j
  nums : ∀ x ∈ f.pieces, x.1 ≤ 999999
  firsts : ∀ x ∈ f.pieces, x.2 ≤ 1099511627776
  rests : ∀ x ∈ f.rest, x ≤ 999999
  next : f.next ≤ 1099515822080
  good : f.good ≤ 4194304
theorem split_count (b : List UInt8) : (splitL b).length * 9 ≤ b.length := by
  have h1 := frames_len (splitL b)
  have h2 := split_len b
  omega
theorem scan1_bd {j : Nat} {f : FoundS} (h : SBd j f) (k : ByteArray) (b : List UInt8) (hb : b.length ≤ 4194304) : SBd (j + 1) (scan1 f k b) := by
  have hn := numberN_le k
  have hh := headOf_le (splitL b) (numberN k)
  have h1 := split_len b
  have h2 := split_count b
  unfold scan1
  split
  · exact ⟨by have := h.rest; omega, by have := h.pieces; omega, h.nums, h.firsts, h.rests, h.next, h.good⟩
  · split
    · refine ⟨?_, by have := h.pieces; simp only []; omega, h.nums, h.firsts, ?_, h.next, h.good⟩
      · have := h.rest
        simp only [List.length_append, List.length_cons, List.length_nil]
        omega
      · intro x hx
        simp only [List.mem_append, List.mem_cons, List.not_mem_nil, or_false] at hx
        rcases hx with hx | hx
        · exact h.rests x hx
        · rw [hx]; exact hn
    · refine ⟨by have := h.rest; simp only []; omega, ?_, ?_, ?_, h.rests, ?_, ?_⟩
      · have := h.pieces
        simp only [List.length_append, List.length_cons, List.length_nil]
        omega
      · intro x hx
        simp only [List.mem_append, List.mem_cons, List.not_mem_nil, or_false] at hx
        rcases hx with hx | hx
        · exact h.nums x hx
        · rw [hx]; exact hn
      · intro x hx
        simp only [List.mem_append, List.mem_cons, List.not_mem_nil, or_false] at hx
        rcases hx with hx | hx
        · exact h.firsts x hx
        · rw [hx]; exact hh
      · simp only [List.length_tail]
        omega
      · simp only []
        omega
theorem scanL_bd (hs : List (ByteArray × List UInt8)) (hb : ∀ x ∈ hs, x.2.length ≤ 4194304) : ∀ (j : Nat) (f : FoundS), SBd j f → SBd (j + hs.length) (hs.foldl (fun f x => scan1 f x.1 x.2) f) := by
  induction hs with
  | nil => intro j f h; exact h
  | cons x r ih =>
    intro j f h
    have h1 := ih (fun y hy => hb y (List.mem_cons_of_mem _ hy)) (j + 1) _ (scan1_bd h x.1 x.2 (hb x (List.mem_cons_self ..)))
    simp only [List.foldl_cons, List.length_cons]
    rw [show j + (r.length + 1) = j + 1 + r.length by omega]
    exact h1
theorem scanF_bd {s : DS} (h : DOk s) (hsm : ∀ k, (readF s k).1.length ≤ 4194304) : SBd 64 (scanF s) := by
  have h1 := scanL_bd ((listF s).map fun k => (k, (readF s k).1)) (by
    intro x hx
    obtain ⟨k, -, rfl⟩ := List.mem_map.1 hx
    exact hsm k) 0 found0 ⟨by simp [found0], by simp [found0], by simp [found0], by simp [found0], by simp [found0], by simp [found0], by simp [found0]⟩
  have h2 := listF_len h
  rw [List.length_map] at h1
  unfold scanF scanL
  exact ⟨by have := h1.rest; omega, by have := h1.pieces; omega, h1.nums, h1.firsts, h1.rests, h1.next, h1.good⟩
theorem foundL_ok {f : FoundS} (h : SBd 64 f) (h0 : f.pieces ≠ []) (n : Int) : LOk (foundL f n) := by
  refine ⟨limF_le n, h0, h.nums, fun x hx => ?_, ?_, ?_, ?_⟩
  · have := h.firsts x hx; omega
  · have := h.next; unfold foundL; simp only []; omega
  · have := h.good; unfold foundL; simp only []; omega
  · have := h.pieces; unfold foundL; simp only []; omega
theorem cutF_steps (s : DS) (k : ByteArray) (n : Int) : (cutF s k n).1.steps ≤ s.steps + 1 := by
  unfold cutF
  split
  · simp; omega
  · split
    · simp; omega
    · unfold stepF putF; split <;> split <;> simp <;> omega
theorem dropAll_steps : ∀ (l : List Nat) (s : DS), (dropAll l s).1.steps ≤ s.steps + l.length
  | [], s => by rw [dropAll_nil]; simp
  | n :: r, s => by
    have h1 := dropF_steps s (walName n)
    have h2 := dropAll_steps r (dropF s (walName n)).1
    rw [dropAll_cons]
    split
    · simp only [List.length_cons]; omega
    · simp only [List.length_cons]; omega

/-! ### In memory, behind the scan -/
def opCol (col fcol : Nat → Nat) (m c : Nat) : Nat → Nat := fun k => if k < m then col k else if k = m then c else if fcol k = 1 then c + 1 else 0
structure OpAt (c i : Nat) (D : Nat → Nat) (w : World) (p q pv m : Nat) (n : Int) (s : DS) (f : FoundS) (po : Option Addr) (pc : Nat) (ro : Option Addr) (rc : Nat) (so : Option Addr) (sc : Nat) (rh : RH) : Prop where
  dk : Dk D i w p s
  box : w.heap[q]? = some (.cells (logC p (freshL n) none 0) 100 (0, 0))
  qc : D q = c
  var : w.heap[pv]? = some (.cells (fndC po pc ro rc so sc f) 103 (0, 0))
  vc : D pv = 0
  pieces : Own (Col D (c + 1)) w 97 2 po f.pieces.length pc (piecesV f.pieces)
  recs : Own (fun k => (D k = 0 ∧ m ≤ k) ∧ k < w.heap.size) w 118 2 ro f.recs.length rc (recsV rh)
  rdat : RecsAt (fun k => D k = 0 ∧ m ≤ k) w rh f.recs
  rest : Own (fun k => D k = 0 ∧ k < w.heap.size) w 3 1 so f.rest.length sc (restV f.rest)
theorem OpAt.ext {B c i : Nat} {D D' : Nat → Nat} {w w' : World} {p q pv m : Nat} {n : Int} {s s' : DS} {f : FoundS} {po : Option Addr} {pc : Nat} {ro : Option Addr} {rc : Nat} {so : Option Addr} {sc : Nat} {rh : RH} (h : OpAt c i D w p q pv m n s f po pc ro rc so sc rh) (hci : c ≠ 0 ∧ (c + 1 ≤ i ∨ i + 3 < c)) (e : Ext B (S3 i) D w D' w') (hd : Dk D' i w' p s') : OpAt c i D' w' p q pv m n s' f po pc ro rc so sc rh := by
  have hq := (Array.getElem?_eq_some_iff.1 h.box).1
  have hv := (Array.getElem?_eq_some_iff.1 h.var).1
  have n0 : ¬ S3 i 0 := by unfold S3; omega
  have nc : ¬ S3 i c := by unfold S3; omega
  have nc1 : ¬ S3 i (c + 1) := by unfold S3; omega
  have hz := e.size
  refine ⟨hd, e.kp.heap h.box (by rw [h.qc]; exact nc), (e.old q hq).trans h.qc, e.kp.heap h.var (by rw [h.vc]; exact n0), (e.old pv hv).trans h.vc, ?_, ?_, ?_, ?_⟩
  · exact ((h.pieces.mono (G := fun j => Col D (c + 1) j ∧ j < w.heap.size) (fun j hj d => ⟨d, hj⟩)).kp e.kp (fun j d a => by have d1 : D j = c + 1 := d.1; rw [d1] at a; exact nc1 a)).mono (fun j _ d => (e.old j d.2).trans d.1)
  · exact (h.recs.kp e.kp (fun j d a => by rw [d.1.1] at a; exact n0 a)).mono (fun j _ d => ⟨⟨(e.old j d.2).trans d.1.1, d.1.2⟩, by have := d.2; omega⟩)
  · exact ((h.rdat.mono (Q := fun k => (D k = 0 ∧ m ≤ k) ∧ k < w.heap.size) (fun j hj d => ⟨d, hj⟩)).kp e.kp (fun j _ d a => by rw [d.1.1] at a; exact n0 a)).mono (fun j _ d => ⟨(e.old j d.2).trans d.1.1, d.1.2⟩)
  · exact (h.rest.kp e.kp (fun j d a => by rw [d.1] at a; exact n0 a)).mono (fun j _ d => ⟨(e.old j d.2).trans d.1, by have := d.2; omega⟩)
theorem OpAt.keep {c i : Nat} {D : Nat → Nat} {w w' : World} {p q pv m : Nat} {n : Int} {s : DS} {f : FoundS} {po : Option Addr} {pc : Nat} {ro : Option Addr} {rc : Nat} {so : Option Addr} {sc : Nat} {rh : RH} (h : OpAt c i D w p q pv m n s f po pc ro rc so sc rh) (k : Kp Noone w w') : OpAt c i D w' p q pv m n s f po pc ro rc so sc rh :=
  ⟨h.dk.keep k, k.heap h.box id, h.qc, k.heap h.var id, h.vc, h.pieces.keep k, (h.recs.keep k).mono (fun _ hj d => ⟨d.1, hj⟩), h.rdat.keep k, (h.rest.keep k).mono (fun _ hj d => ⟨d.1, hj⟩)⟩
/-- Behind the scan. -/
theorem OpAt.start {B c i : Nat} {col fcol : Nat → Nat} {w w1 w2 w3 : World} {p pf : Nat} {n : Int} {s : DS} {f : FoundS} {po : Option Addr} {pc : Nat} {ro : Option Addr} {rc : Nat} {so : Option Addr} {sc : Nat} {rh : RH} (hd : Dk col i w p s) (hc : Cols B w col) (hBw : B ≤ w.heap.size) (hw1 : w1 = w.alloc (.cells (logC p (freshL n) none 0) 100)) (hp : w1.heap.size ≤ pf) (hF : FAt pf fcol pf w2 f po pc ro rc so sc rh) (k2 : Kp Noone w1 w2) (hw3 : w3 = w2.alloc (.cells (fndC po pc ro rc so sc f) 103)) :
    Ext B (SL i c) col w (opCol col fcol w.heap.size c) w3 ∧ OpAt c i (opCol col fcol w.heap.size c) w3 p w.heap.size w2.heap.size w.heap.size n s f po pc ro rc so sc rh := by
  have e1 : w1.heap.size = w.heap.size + 1 := by rw [hw1]; exact alloc_size _ _
  have k1 : Kp Noone w w1 := by rw [hw1]; exact (Kp.refl _ _).alloc _
  have k3 : Kp Noone w2 w3 := by rw [hw3]; exact (Kp.refl _ _).alloc _
  have e3 : w3.heap.size = w2.heap.size + 1 := by rw [hw3]; exact alloc_size _ _
  have z2 := k2.size
  have kA : Kp Noone w w3 := (k1.trans k2).trans k3
  have hf : ∀ j, fcol j ≠ 0 → pf ≤ j ∧ j < w2.heap.size := fun j hj => hF.cols j hj
  have hnew : ∀ j, w.heap.size < j → fcol j = 1 → opCol col fcol w.heap.size c j = c + 1 := fun j h1 h2 => by unfold opCol; rw [if_neg (by omega), if_neg (by omega), if_pos h2]
  have hzero : ∀ j, w.heap.size < j → fcol j ≠ 1 → opCol col fcol w.heap.size c j = 0 := fun j h1 h2 => by unfold opCol; rw [if_neg (by omega), if_neg (by omega), if_neg h2]
  have hq : opCol col fcol w.heap.size c w.heap.size = c := by unfold opCol; rw [if_neg (by omega), if_pos rfl]
  have hold : ∀ j, j < w.heap.size → opCol col fcol w.heap.size c j = col j := fun j hj => by unfold opCol; rw [if_pos hj]
  have hcols : Cols B w3 (opCol col fcol w.heap.size c) := by
    intro j hj
    rcases Nat.lt_trichotomy j w.heap.size with h1 | h1 | h1
    · rw [hold j h1] at hj
      have := hc j hj
      omega
    · omega
    · by_cases h2 : fcol j = 1
      · have := hf j (by omega)
        omega
      · rw [hzero j h1 h2] at hj
        exact absurd rfl hj
  have hext : Ext B (SL i c) col w (opCol col fcol w.heap.size c) w3 := by
    refine ⟨hcols, hold, fun j hj hn => ?_, kA.none⟩
    by_cases h1 : j = w.heap.size
    · rw [h1, hq]; exact Or.inr (Or.inl rfl)
    · by_cases h2 : fcol j = 1
      · rw [hnew j (by omega) h2]; exact Or.inr (Or.inr rfl)
      · rw [hzero j (by omega) h2] at hn
        exact absurd rfl hn
  have hF3 := hF.keep k3
  refine ⟨hext, ⟨?_, ?_, hq, ?_, ?_, ?_, ?_, ?_, ?_⟩⟩
  · obtain ⟨⟨r, hr⟩, hi⟩ := hd
    exact ⟨⟨r, (hr.recol hc hold).keep kA⟩, hi⟩
  · have hb : w1.heap[w.heap.size]? = some (.cells (logC p (freshL n) none 0) 100 (0, 0)) := by rw [hw1]; exact heap_alloc_new _ _
    exact (k2.trans k3).heap hb id
  · rw [hw3]; exact heap_alloc_new _ _
  · refine hzero _ (by omega) (fun e => ?_)
    have := hf w2.heap.size (by omega)
    omega
  · exact hF3.pieces.mono (fun j _ d => by have d1 : fcol j = 1 := d; exact hnew j (by have := hf j (by omega); omega) d1)
  · exact hF3.recs.mono (fun j hj d => by have d1 : fcol j = 2 := d; have := hf j (by omega); exact ⟨⟨hzero j (by omega) (by omega), by omega⟩, hj⟩)
  · exact hF3.rdat.mono (fun j _ d => ⟨hzero j (by omega) (by omega), by omega⟩)
  · exact hF3.rest.mono (fun j hj d => by have d1 : fcol j = 3 := d; have := hf j (by omega); exact ⟨hzero j (by omega) (by omega), hj⟩)

/-- What Open answers. -/
structure OpTo (B c i : Nat) (col : Nat → Nat) (w : World) (p : Nat) (R : OpenR) (e : Ending) (w' : World) : Prop where
  ex : ∃ col', Ext B (SL i c) col w col' w' ∧ Dk col' i w' p R.1 ∧ ((R.2.1 = none ∧ e = .returned (.tuple #[.pointer none, .slice none 0 0, .int .i64 (R.2.2 : Int)])) ∨
    ∃ l recs q ro rc rh, R.2.1 = some (l, recs) ∧ R.2.2 = 0 ∧ e = .returned (.tuple #[.pointer (some ⟨q, 0, none⟩), .slice ro recs.length rc, .int .i64 0]) ∧ w.heap.size ≤ q ∧ Lg c i col' w' p q R.1 l ∧
      Own (fun k => (col' k = 0 ∧ w.heap.size ≤ k) ∧ k < w'.heap.size) w' 118 2 ro recs.length rc (recsV rh) ∧ RecsAt (fun k => col' k = 0 ∧ w.heap.size ≤ k) w' rh recs)
theorem OpTo.fail {B c i : Nat} {col col' : Nat → Nat} {w w' : World} {p : Nat} {s : DS} {e : Nat} (x : Ext B (SL i c) col w col' w') (d : Dk col' i w' p s) : OpTo B c i col w p (s, none, e) (.returned (.tuple #[.pointer none, .slice none 0 0, .int .i64 (e : Int)])) w' := ⟨col', x, d, Or.inl ⟨rfl, rfl⟩⟩

end Go.Proofs.YtigdhdclfdojgaaGreat
