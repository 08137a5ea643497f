/-
  The texts WalOpenP, WalOpen, SnapHead, WalSmall, WalHeadSame, WalNums in one: what the claim reaches of them.
-/
import Derived.Test.YtgbgbokcohfnpaaGreatP12
import Derived.Test.YtgbgbokcohfnpaaGreatP09
import Derived.Test.YtgbgbokcohfnpaaGreatP04
import Derived.Test.YtgbgbokcohfnpaaGreatP05
/-
  wal: OPEN, in plain Lean; what lies in memory behind the scan.
-/
namespace Go.Proofs.YtgbgbokcohfnpaaGreat
open Go.RowKit

abbrev Recs := List (Nat × List UInt8)
def dropAll : List Nat → DS → DS × Nat
  | [], s => (s, 0)
  | n :: r, s => if (dropF s (walName n)).2 ≠ 0 then ((dropF s (walName n)).1, (dropF s (walName n)).2) else dropAll r (dropF s (walName n)).1
theorem dropAll_nil (s : DS) : dropAll [] s = (s, 0) := rfl
theorem dropAll_cons (n : Nat) (r : List Nat) (s : DS) : dropAll (n :: r) s = if (dropF s (walName n)).2 ≠ 0 then ((dropF s (walName n)).1, (dropF s (walName n)).2) else dropAll r (dropF s (walName n)).1 := rfl
def limF (n : Int) : Nat := (max 1 (min n 65536)).toNat
theorem limF_int (n : Int) : max 1 (min n 65536) = (limF n : Int) := by unfold limF; omega
theorem limF_le (n : Int) : limF n ≤ 65536 := by unfold limF; omega
def freshL (n : Int) : LogP := ⟨limF n, [], 0, 0, false⟩
def foundL (f : FoundS) (n : Int) : LogP := ⟨limF n, f.pieces, f.next, f.good, false⟩
abbrev OpenR := DS × Option (LogP × Recs) × Nat
def openSync (f : FoundS) (n : Int) (t : DS × Nat) : OpenR := if t.2 ≠ 0 then (t.1, none, t.2) else (t.1, some (foundL f n, f.recs), 0)
def openCut (f : FoundS) (n : Int) (k : ByteArray) (t : DS × Nat) : OpenR := if t.2 ≠ 0 then (t.1, none, t.2) else openSync f n (syncF t.1 k)
def openNew (t : DS × LogP × Nat) : OpenR := if t.2.2 ≠ 0 then (t.1, none, t.2.2) else (t.1, some (t.2.1, []), 0)
def openDrop (f : FoundS) (n : Int) (t : DS × Nat) : OpenR :=
  if t.2 ≠ 0 then (t.1, none, t.2)
  else if f.pieces = [] then openNew (beginF t.1 (freshL n) 1 1)
  else openCut f n (walName (lastP (foundL f n)).1) (cutF t.1 (walName (lastP (foundL f n)).1) (f.good : Int))
def openF (s : DS) (n : Int) : OpenR := if s.down = true then (s, none, 2) else openDrop (scanF s) n (dropAll (scanF s).rest.reverse s)

/-- Bounds of what is found. -/
structure SBd (j : Nat) (f : FoundS) : Prop where
  rest : f.rest.length ≤ j
  pieces : f.pieces.length ≤ j
  nums : ∀ x ∈ f.pieces, x.1 ≤ 999999
  firsts : ∀ x ∈ f.pieces, x.2 ≤ 1099511627776
  rests : ∀ x ∈ f.rest, x ≤ 999999
  next : f.next ≤ 1099515822080
  good : f.good ≤ 4194304
theorem split_count (b : List UInt8) : (splitL b).length * 9 ≤ b.length := by
  have h1 := frames_len (splitL b)
  have h2 := split_len b
  omega
theorem scan1_bd {j : Nat} {f : FoundS} (h : SBd j f) (k : ByteArray) (b : List UInt8) (hb : b.length ≤ 4194304) : SBd (j + 1) (scan1 f k b) := by
  have hn := numberN_le k
  have hh := headOf_le (splitL b) (numberN k)
  have h1 := split_len b
  have h2 := split_count b
  unfold scan1
  split
  · exact ⟨by have := h.rest; omega, by have := h.pieces; omega, h.nums, h.firsts, h.rests, h.next, h.good⟩
  · split
    · refine ⟨?_, by have := h.pieces; simp only []; omega, h.nums, h.firsts, ?_, h.next, h.good⟩
      · have := h.rest
        simp only [List.length_append, List.length_cons, List.length_nil]
        omega
      · intro x hx
        simp only [List.mem_append, List.mem_cons, List.not_mem_nil, or_false] at hx
        rcases hx with hx | hx
        · exact h.rests x hx
        · rw [hx]; exact hn
    · refine ⟨by have := h.rest; simp only []; omega, ?_, ?_, ?_, h.rests, ?_, ?_⟩
      · have := h.pieces
        simp only [List.length_append, List.length_cons, List.length_nil]
        omega
      · intro x hx
        simp only [List.mem_append, List.mem_cons, List.not_mem_nil, or_false] at hx
        rcases hx with hx | hx
        · exact h.nums x hx
        · rw [hx]; exact hn
      · intro x hx
        simp only [List.mem_append, List.mem_cons, List.not_mem_nil, or_false] at hx
        rcases hx with hx | hx
        · exact h.firsts x hx
        · rw [hx]; exact hh
      · simp only [List.length_tail]
        omega
      · simp only []
        omega
theorem scanL_bd (hs : List (ByteArray × List UInt8)) (hb : ∀ x ∈ hs, x.2.length ≤ 4194304) : ∀ (j : Nat) (f : FoundS), SBd j f → SBd (j + hs.length) (hs.foldl (fun f x => scan1 f x.1 x.2) f) := by
  induction hs with
  | nil => intro j f h; exact h
  | cons x r ih =>
    intro j f h
    have h1 := ih (fun y hy => hb y (List.mem_cons_of_mem _ hy)) (j + 1) _ (scan1_bd h x.1 x.2 (hb x (List.mem_cons_self ..)))
    simp only [List.foldl_cons, List.length_cons]
    rw [show j + (r.length + 1) = j + 1 + r.length by omega]
    exact h1
theorem scanF_bd {s : DS} (h : DOk s) (hsm : ∀ k, (readF s k).1.length ≤ 4194304) : SBd 64 (scanF s) := by
  have h1 := scanL_bd ((listF s).map fun k => (k, (readF s k).1)) (by
    intro x hx
    obtain ⟨k, -, rfl⟩ := List.mem_map.1 hx
    exact hsm k) 0 found0 ⟨by simp [found0], by simp [found0], by simp [found0], by simp [found0], by simp [found0], by simp [found0], by simp [found0]⟩
  have h2 := listF_len h
  rw [List.length_map] at h1
  unfold scanF scanL
  exact ⟨by have := h1.rest; omega, by have := h1.pieces; omega, h1.nums, h1.firsts, h1.rests, h1.next, h1.good⟩
theorem foundL_ok {f : FoundS} (h : SBd 64 f) (h0 : f.pieces ≠ []) (n : Int) : LOk (foundL f n) := by
  refine ⟨limF_le n, h0, h.nums, fun x hx => ?_, ?_, ?_, ?_⟩
  · have := h.firsts x hx; omega
  · have := h.next; unfold foundL; simp only []; omega
  · have := h.good; unfold foundL; simp only []; omega
  · have := h.pieces; unfold foundL; simp only []; omega
theorem cutF_steps (s : DS) (k : ByteArray) (n : Int) : (cutF s k n).1.steps ≤ s.steps + 1 := by
  unfold cutF
  split
  · simp; omega
  · split
    · simp; omega
    · unfold stepF putF; split <;> split <;> simp <;> omega
theorem dropAll_steps : ∀ (l : List Nat) (s : DS), (dropAll l s).1.steps ≤ s.steps + l.length
  | [], s => by rw [dropAll_nil]; simp
  | n :: r, s => by
    have h1 := dropF_steps s (walName n)
    have h2 := dropAll_steps r (dropF s (walName n)).1
    rw [dropAll_cons]
    split
    · simp only [List.length_cons]; omega
    · simp only [List.length_cons]; omega

/-! ### In memory, behind the scan -/
def opCol (col fcol : Nat → Nat) (m c : Nat) : Nat → Nat := fun k => if k < m then col k else if k = m then c else if fcol k = 1 then c + 1 else 0
structure OpAt (c i : Nat) (D : Nat → Nat) (w : World) (p q pv m : Nat) (n : Int) (s : DS) (f : FoundS) (po : Option Addr) (pc : Nat) (ro : Option Addr) (rc : Nat) (so : Option Addr) (sc : Nat) (rh : RH) : Prop where
  dk : Dk D i w p s
  box : w.heap[q]? = some (.cells (logC p (freshL n) none 0) 125 (0, 0))
  qc : D q = c
  var : w.heap[pv]? = some (.cells (fndC po pc ro rc so sc f) 127 (0, 0))
  vc : D pv = 0
  pieces : Own (Col D (c + 1)) w 132 2 po f.pieces.length pc (piecesV f.pieces)
  recs : Own (fun k => (D k = 0 ∧ m ≤ k) ∧ k < w.heap.size) w 76 2 ro f.recs.length rc (recsV rh)
  rdat : RecsAt (fun k => D k = 0 ∧ m ≤ k) w rh f.recs
  rest : Own (fun k => D k = 0 ∧ k < w.heap.size) w 3 1 so f.rest.length sc (restV f.rest)
theorem OpAt.ext {B c i : Nat} {D D' : Nat → Nat} {w w' : World} {p q pv m : Nat} {n : Int} {s s' : DS} {f : FoundS} {po : Option Addr} {pc : Nat} {ro : Option Addr} {rc : Nat} {so : Option Addr} {sc : Nat} {rh : RH} (h : OpAt c i D w p q pv m n s f po pc ro rc so sc rh) (hci : c ≠ 0 ∧ (c + 1 ≤ i ∨ i + 3 < c)) (e : Ext B (S3 i) D w D' w') (hd : Dk D' i w' p s') : OpAt c i D' w' p q pv m n s' f po pc ro rc so sc rh := by
  have hq := (Array.getElem?_eq_some_iff.1 h.box).1
  have hv := (Array.getElem?_eq_some_iff.1 h.var).1
  have n0 : ¬ S3 i 0 := by unfold S3; omega
  have nc : ¬ S3 i c := by unfold S3; omega
  have nc1 : ¬ S3 i (c + 1) := by unfold S3; omega
  have hz := e.size
  refine ⟨hd, e.kp.heap h.box (by rw [h.qc]; exact nc), (e.old q hq).trans h.qc, e.kp.heap h.var (by rw [h.vc]; exact n0), (e.old pv hv).trans h.vc, ?_, ?_, ?_, ?_⟩
  · exact ((h.pieces.mono (G := fun j => Col D (c + 1) j ∧ j < w.heap.size) (fun j hj d => ⟨d, hj⟩)).kp e.kp (fun j d a => by have d1 : D j = c + 1 := d.1; rw [d1] at a; exact nc1 a)).mono (fun j _ d => (e.old j d.2).trans d.1)
  · exact (h.recs.kp e.kp (fun j d a => by rw [d.1.1] at a; exact n0 a)).mono (fun j _ d => ⟨⟨(e.old j d.2).trans d.1.1, d.1.2⟩, by have := d.2; omega⟩)
  · exact ((h.rdat.mono (Q := fun k => (D k = 0 ∧ m ≤ k) ∧ k < w.heap.size) (fun j hj d => ⟨d, hj⟩)).kp e.kp (fun j _ d a => by rw [d.1.1] at a; exact n0 a)).mono (fun j _ d => ⟨(e.old j d.2).trans d.1.1, d.1.2⟩)
  · exact (h.rest.kp e.kp (fun j d a => by rw [d.1] at a; exact n0 a)).mono (fun j _ d => ⟨(e.old j d.2).trans d.1, by have := d.2; omega⟩)
theorem OpAt.keep {c i : Nat} {D : Nat → Nat} {w w' : World} {p q pv m : Nat} {n : Int} {s : DS} {f : FoundS} {po : Option Addr} {pc : Nat} {ro : Option Addr} {rc : Nat} {so : Option Addr} {sc : Nat} {rh : RH} (h : OpAt c i D w p q pv m n s f po pc ro rc so sc rh) (k : Kp Noone w w') : OpAt c i D w' p q pv m n s f po pc ro rc so sc rh :=
  ⟨h.dk.keep k, k.heap h.box id, h.qc, k.heap h.var id, h.vc, h.pieces.keep k, (h.recs.keep k).mono (fun _ hj d => ⟨d.1, hj⟩), h.rdat.keep k, (h.rest.keep k).mono (fun _ hj d => ⟨d.1, hj⟩)⟩
/-- Behind the scan. -/
theorem OpAt.start {B c i : Nat} {col fcol : Nat → Nat} {w w1 w2 w3 : World} {p pf : Nat} {n : Int} {s : DS} {f : FoundS} {po : Option Addr} {pc : Nat} {ro : Option Addr} {rc : Nat} {so : Option Addr} {sc : Nat} {rh : RH} (hd : Dk col i w p s) (hc : Cols B w col) (hBw : B ≤ w.heap.size) (hw1 : w1 = w.alloc (.cells (logC p (freshL n) none 0) 125)) (hp : w1.heap.size ≤ pf) (hF : FAt pf fcol pf w2 f po pc ro rc so sc rh) (k2 : Kp Noone w1 w2) (hw3 : w3 = w2.alloc (.cells (fndC po pc ro rc so sc f) 127)) :
    Ext B (SL i c) col w (opCol col fcol w.heap.size c) w3 ∧ OpAt c i (opCol col fcol w.heap.size c) w3 p w.heap.size w2.heap.size w.heap.size n s f po pc ro rc so sc rh := by
  have e1 : w1.heap.size = w.heap.size + 1 := by rw [hw1]; exact alloc_size _ _
  have k1 : Kp Noone w w1 := by rw [hw1]; exact (Kp.refl _ _).alloc _
  have k3 : Kp Noone w2 w3 := by rw [hw3]; exact (Kp.refl _ _).alloc _
  have e3 : w3.heap.size = w2.heap.size + 1 := by rw [hw3]; exact alloc_size _ _
  have z2 := k2.size
  have kA : Kp Noone w w3 := (k1.trans k2).trans k3
  have hf : ∀ j, fcol j ≠ 0 → pf ≤ j ∧ j < w2.heap.size := fun j hj => hF.cols j hj
  have hnew : ∀ j, w.heap.size < j → fcol j = 1 → opCol col fcol w.heap.size c j = c + 1 := fun j h1 h2 => by unfold opCol; rw [if_neg (by omega), if_neg (by omega), if_pos h2]
  have hzero : ∀ j, w.heap.size < j → fcol j ≠ 1 → opCol col fcol w.heap.size c j = 0 := fun j h1 h2 => by unfold opCol; rw [if_neg (by omega), if_neg (by omega), if_neg h2]
  have hq : opCol col fcol w.heap.size c w.heap.size = c := by unfold opCol; rw [if_neg (by omega), if_pos rfl]
  have hold : ∀ j, j < w.heap.size → opCol col fcol w.heap.size c j = col j := fun j hj => by unfold opCol; rw [if_pos hj]
  have hcols : Cols B w3 (opCol col fcol w.heap.size c) := by
    intro j hj
    rcases Nat.lt_trichotomy j w.heap.size with h1 | h1 | h1
    · rw [hold j h1] at hj
      have := hc j hj
      omega
    · omega
    · by_cases h2 : fcol j = 1
      · have := hf j (by omega)
        omega
      · rw [hzero j h1 h2] at hj
        exact absurd rfl hj
  have hext : Ext B (SL i c) col w (opCol col fcol w.heap.size c) w3 := by
    refine ⟨hcols, hold, fun j hj hn => ?_, kA.none⟩
    by_cases h1 : j = w.heap.size
    · rw [h1, hq]; exact Or.inr (Or.inl rfl)
    · by_cases h2 : fcol j = 1
      · rw [hnew j (by omega) h2]; exact Or.inr (Or.inr rfl)
      · rw [hzero j (by omega) h2] at hn
        exact absurd rfl hn
  have hF3 := hF.keep k3
  refine ⟨hext, ⟨?_, ?_, hq, ?_, ?_, ?_, ?_, ?_, ?_⟩⟩
  · obtain ⟨⟨r, hr⟩, hi⟩ := hd
    exact ⟨⟨r, (hr.recol hc hold).keep kA⟩, hi⟩
  · have hb : w1.heap[w.heap.size]? = some (.cells (logC p (freshL n) none 0) 125 (0, 0)) := by rw [hw1]; exact heap_alloc_new _ _
    exact (k2.trans k3).heap hb id
  · rw [hw3]; exact heap_alloc_new _ _
  · refine hzero _ (by omega) (fun e => ?_)
    have := hf w2.heap.size (by omega)
    omega
  · exact hF3.pieces.mono (fun j _ d => by have d1 : fcol j = 1 := d; exact hnew j (by have := hf j (by omega); omega) d1)
  · exact hF3.recs.mono (fun j hj d => by have d1 : fcol j = 2 := d; have := hf j (by omega); exact ⟨⟨hzero j (by omega) (by omega), by omega⟩, hj⟩)
  · exact hF3.rdat.mono (fun j _ d => ⟨hzero j (by omega) (by omega), by omega⟩)
  · exact hF3.rest.mono (fun j hj d => by have d1 : fcol j = 3 := d; have := hf j (by omega); exact ⟨hzero j (by omega) (by omega), hj⟩)

/-- What Open answers. -/
structure OpTo (B c i : Nat) (col : Nat → Nat) (w : World) (p : Nat) (R : OpenR) (e : Ending) (w' : World) : Prop where
  ex : ∃ col', Ext B (SL i c) col w col' w' ∧ Dk col' i w' p R.1 ∧ ((R.2.1 = none ∧ e = .returned (.tuple #[.pointer none, .slice none 0 0, .int .i64 (R.2.2 : Int)])) ∨
    ∃ l recs q ro rc rh, R.2.1 = some (l, recs) ∧ R.2.2 = 0 ∧ e = .returned (.tuple #[.pointer (some ⟨q, 0, none⟩), .slice ro recs.length rc, .int .i64 0]) ∧ w.heap.size ≤ q ∧ Lg c i col' w' p q R.1 l ∧
      Own (fun k => (col' k = 0 ∧ w.heap.size ≤ k) ∧ k < w'.heap.size) w' 76 2 ro recs.length rc (recsV rh) ∧ RecsAt (fun k => col' k = 0 ∧ w.heap.size ≤ k) w' rh recs)
theorem OpTo.fail {B c i : Nat} {col col' : Nat → Nat} {w w' : World} {p : Nat} {s : DS} {e : Nat} (x : Ext B (SL i c) col w col' w') (d : Dk col' i w' p s) : OpTo B c i col w p (s, none, e) (.returned (.tuple #[.pointer none, .slice none 0 0, .int .i64 (e : Int)])) w' := ⟨col', x, d, Or.inl ⟨rfl, rfl⟩⟩

end Go.Proofs.YtgbgbokcohfnpaaGreat

/-
  wal: THE WALK of Open.
-/
namespace Go.Proofs.YtgbgbokcohfnpaaGreat
open Go.RowKit

/-- Between two strays. -/
structure OpR (B c i : Nat) (col : Nat → Nat) (w : World) (p q pv : Nat) (n : Int) (s0 : DS) (f : FoundS) (po : Option Addr) (pc : Nat) (ro : Option Addr) (rc : Nat) (so : Option Addr) (sc : Nat) (rh : RH) (T : DS × Nat) (v : Value) (wr : World) : Prop where
  ex : ∃ (j : Nat) (D : Nat → Nat) (s : DS), v = .int .i64 ((j : Int) - 1) ∧ j ≤ f.rest.length ∧ Ext B (SL i c) col w D wr ∧ OpAt c i D wr p q pv q n s f po pc ro rc so sc rh ∧ s.steps + j ≤ s0.steps + 64 ∧ dropAll (f.rest.take j).reverse s = T

theorem own0_ext {B c i q m : Nat} {D D' : Nat → Nat} {w w' : World} {e sz : Nat} {ao : Option Addr} {n cap : Nat} {xs : List Value} (hci : c ≠ 0 ∧ (c + 1 ≤ i ∨ i + 3 < c)) (h : Own (fun k => (D k = 0 ∧ q ≤ k) ∧ k < m) w e sz ao n cap xs) (hm : m ≤ w.heap.size) (x : Ext B (SL i c) D w D' w') : Own (fun k => (D' k = 0 ∧ q ≤ k) ∧ k < w'.heap.size) w' e sz ao n cap xs :=
  (h.kp x.kp (fun j d a => by rw [d.1.1] at a; unfold SL S3 at a; omega)).mono (fun j hj d => ⟨⟨(x.old j (by have := d.2; omega)).trans d.1.1, d.1.2⟩, hj⟩)
theorem recs0_ext {B c i q m : Nat} {D D' : Nat → Nat} {w w' : World} {rh : RH} {recs : Recs} (hci : c ≠ 0 ∧ (c + 1 ≤ i ∨ i + 3 < c)) (h : RecsAt (fun k => (D k = 0 ∧ q ≤ k) ∧ k < m) w rh recs) (hm : m ≤ w.heap.size) (x : Ext B (SL i c) D w D' w') : RecsAt (fun k => D' k = 0 ∧ q ≤ k) w' rh recs :=
  (h.kp x.kp (fun j _ d a => by rw [d.1.1] at a; unfold SL S3 at a; omega)).mono (fun j _ d => ⟨(x.old j (by have := d.2; omega)).trans d.1.1, d.1.2⟩)
attribute [local irreducible] dropF syncF cutF walName scanF beginF
set_option maxHeartbeats 8000000 in
set_option maxRecDepth 100000 in
theorem open_l (B c i : Nat) (col : Nat → Nat) (w : World) (p : Nat) (s : DS) (n : Int) (h : Dk col i w p s) (hc : Cols B w col) (hBw : B ≤ w.heap.size) (hci : c ≠ 0 ∧ (c + 1 ≤ i ∨ i + 3 < c)) (hst : s.steps < 4611686018420000000) (hsm : ∀ k, (readF s k).1.length ≤ 4194304) :
    Calls Tryz.prog 21 #[.pointer (some ⟨p, 0, none⟩), .int .i64 n] w fun e w' => OpTo B c i col w p (openF s n) e w' := by
  obtain ⟨RES, hRES⟩ : ∃ x, Hid (openF s n = x) := ⟨_, Lib.hid rfl⟩
  rw [hRES.out]
  have HR := hRES.out
  unfold openF at HR
  have hdn := down_dk col i p s w h
  by_cases hds : s.down = true
  · rw [if_pos hds] at HR
    subst HR
    rw [hds] at hdn
    have HD := Lib.hid h
    clear h hRES
    go_enter Tryz.func21, Tryz.ntmps21
    go_wp2_with fail
    refine hdn.mono ?_
    rintro e w' ⟨rfl, rfl⟩
    go_wp2_with fail
    go_ret3
    exact OpTo.fail (e := 2) (Ext.quiet hc (Kp.refl _ _)) HD.out
  rw [if_neg hds] at HR
  have hdf : s.down = false := by simpa using hds
  rw [hdf] at hdn
  have hmm := limF_int n
  have hkA : Kp Noone w (w.alloc (.cells (logC p (freshL n) none 0) 125)) := (Kp.refl _ _).alloc _
  have hscan := scan_w B col i p s _ (h.keep hkA) (hc.keep hkA.size) hsm
  have hbd := scanF_bd h.2 hsm
  generalize scanF s = f at *
  have HRR := Lib.hid HR
  have HD := Lib.hid h
  have HBD := Lib.hid hbd
  have HWA := Lib.hid hkA
  have eA : w.alloc (.cells (logC p (freshL n) none 0) 125) = w.alloc (.cells #[.pointer (some ⟨p, 0, none⟩), .int .i64 (limF n : Int), .slice none 0 0, .int .i64 0, .int .i64 0, .bool false] 125) := rfl
  clear HR hRES hds hdf h hsm hbd hkA
  go_enter Tryz.func21, Tryz.ntmps21
  go_wp2_with fail
  refine hdn.mono ?_
  clear hdn
  rintro e w' ⟨rfl, rfl⟩
  go_upto_region 6 with fail
  rw [← eA]
  clear eA
  generalize hwA : w.alloc (.cells (logC p (freshL n) none 0) 125) = wA at *
  have HEA := Lib.hid hwA.symm
  clear hwA
  go_wp2_with fail
  refine hscan.mono ?_
  clear hscan
  rintro e w2 hto
  obtain ⟨fcol, pf, po, pc, ro, rc, so, sc, rh, rfl, hpf, hF, k2⟩ := hto.ex
  obtain ⟨x0, at0⟩ := OpAt.start (i := i) (c := c) HD.out hc hBw HEA.out hpf hF k2 rfl
  have hv := hF.box
  clear hto hF
  unfold fndC at *
  generalize hqw : w.heap.size = q at *
  have HQW := Lib.hid hqw
  go_upto_region 7 with fail
  generalize w2.heap.size = pv at *
  generalize w2.alloc (.cells #[.slice po f.pieces.length pc, .slice ro f.recs.length rc, .int .i64 (f.next : Int), .int .i64 (f.good : Int), .bool f.whole, .slice so f.rest.length sc] 127) = w3 at *
  generalize opCol col fcol q c = D0 at *
  have hv3 := at0.var
  unfold fndC at hv3
  obtain ⟨⟨y0, y1, y2, y3, y4, y5⟩, -⟩ := cells_6f hv3
  have hrl := HBD.out.rest
  have hwr : IntKind.i64.wrap ((f.rest.length : Int) - 1) = (f.rest.length : Int) - 1 := IntWalk.i64_in _ (by omega)
  have HRL := Lib.hid hrl
  obtain ⟨T, hT⟩ : ∃ x, Hid (dropAll f.rest.reverse s = x) := ⟨_, Lib.hid rfl⟩
  have hR2 := HRR.out
  rw [hT.out] at hR2
  have HR2 := Lib.hid hR2
  have R0 : Hid (OpR B c i col w p q pv n s f po pc ro rc so sc rh T (.int .i64 ((f.rest.length : Int) - 1)) w3) := Lib.hid ⟨⟨f.rest.length, D0, s, rfl, Nat.le_refl _, x0, at0, by omega, by rw [List.take_length]; exact hT.out⟩⟩
  clear hR2 HRR hT hrl hv hv3 x0 at0 hqw hmm hpf k2
  go_wp2_with fail
  go_loopw [9] (fun v wr => OpR B c i col w p q pv n s f po pc ro rc so sc rh T v wr) (fun v _ => (intOf v + 1).toNat)
  case atStart => exact R0.out
  case round =>
    clear R0 y0 y1 y2 y3 y4 y5
    obtain ⟨j, D, s2, rfl, hj, X, at2, hst2, hfold⟩ := hrel.ex
    clear hrel
    have hv3 := at2.var
    unfold fndC at hv3
    obtain ⟨⟨y0, y1, y2, y3, y4, y5⟩, -⟩ := cells_6f hv3
    clear hv3
    cases j with
    | succ k =>
      rw [show ((k + 1 : Nat) : Int) - 1 = (k : Int) by omega]
      have hB2 : B ≤ wr.heap.size := by have := X.size; have := HQW.out; omega
      obtain ⟨g, off, hso, -, -, hcell, -⟩ := at2.rest.at (k := k) (by unfold restV; rw [List.length_map]; omega)
      subst hso
      have hkr : k < f.rest.length := by omega
      have hnum := HBD.out.rests f.rest[k] (List.getElem_mem hkr)
      have hcl : wr.cell? ⟨g, off + k, none⟩ = some (.int .i64 ((f.rest[k] : Nat) : Int)) := by
        rw [hcell]
        unfold restV
        rw [List.getElem_map]
      have htk : (f.rest.take (k + 1)).reverse = f.rest[k] :: (f.rest.take k).reverse := by rw [take_snocG _ _ hkr, List.reverse_append]; rfl
      rw [htk, dropAll_cons] at hfold
      generalize f.rest[k] = num at *
      have hki : (k : Int) < (f.rest.length : Int) := by omega
      have hk0 : (0 : Int) ≤ (k : Int) := by omega
      have hwk : IntKind.i64.wrap ((k : Int) - 1) = (k : Int) - 1 := IntWalk.i64_in _ (by have := HRL.out; omega)
      have har := area_w num wr hnum
      have hns := walName_size num
      have hst3 : s2.steps < 4611686018427387904 := by omega
      have hdr := fun W (K : Kp Noone wr W) => drop_dk B D i p s2 (walName num) W (at2.dk.keep K) (X.cols.keep K.size) (by rw [hns]; omega) hst3
      have hdq := dropF_steps s2 (walName num)
      generalize walName num = nm at *
      generalize dropF s2 nm = r2 at *
      obtain ⟨s3, e2⟩ := r2
      simp only [] at hfold hdr hdq
      have HAT := Lib.hid at2
      have HX := Lib.hid X
      have HF := Lib.hid hfold
      have HST := Lib.hid hst2
      have HDQ := Lib.hid hdq
      have HJ := Lib.hid hj
      clear hcell htk at2 X hfold hst2 hst3 hns hdq hj hnum
      go_wp2_with fail
      refine har.mono ?_
      clear har
      rintro e wa ⟨rfl, ka⟩
      have hdr := hdr wa ka
      go_wp2_with fail
      refine hdr.mono ?_
      clear hdr
      rintro e wb ⟨rfl, D2, x2, d2⟩
      have HX2 := Lib.hid (HX.out.trans ((Ext.quiet HX.out.cols ka).trans (x2.mono (fun x hx => Or.inl hx))))
      have HAT2 := Lib.hid ((HAT.out.keep ka).ext hci x2 d2)
      clear ka x2 d2 y0 y1 y2 y3 y4 y5 hcl
      by_cases he : e2 = 0
      case neg =>
        have h1 := HF.out
        rw [if_pos he] at h1
        have hR3 := HR2.out
        subst h1
        unfold openDrop at hR3
        simp only [] at hR3
        rw [if_pos he] at hR3
        subst hR3
        have n2 : ((e2 : Int) != 0) = true := by simpa using he
        clear he HF HR2
        go_wp2_with fail
        go_ret3
        exact OpTo.fail HX2.out HAT2.out.dk
      subst he
      have h1 := HF.out
      rw [if_neg (by simp)] at h1
      rw [Int.natCast_zero]
      have HH := Lib.hid h1
      clear h1 HF
      go_wp2_with fail
      refine ⟨⟨k, D2, s3, rfl, by have := HJ.out; omega, HX2.out, HAT2.out, by have := HST.out; have := HDQ.out; omega, HH.out⟩, ?_⟩
      unfold intOf
      simp only []
      omega
    | zero =>
      rw [show ((0 : Nat) : Int) - 1 = -1 by omega]
      have hB2 : B ≤ wr.heap.size := by have := X.size; have := HQW.out; omega
      have hT0 : dropAll (f.rest.take 0).reverse s2 = (s2, 0) := rfl
      rw [hT0] at hfold
      subst hfold
      have hR3 := HR2.out
      unfold openDrop at hR3
      simp only [] at hR3
      rw [if_neg (by simp)] at hR3
      have hst3 : s2.steps < 4611686018427000000 := by omega
      clear hT0 HR2 hst2
      by_cases hp : f.pieces = []
      case pos =>
        rw [if_pos hp] at hR3
        have hp0 : f.pieces.length = 0 := by rw [hp]; rfl
        rw [hp0] at y0
        have k1 : Kp Noone wr (wr.alloc (.cells #[.int .i64 1, .int .i64 1] 132)) := (Kp.refl _ _).alloc _
        have hg1 := heap_alloc_new wr (.cells #[.int .i64 1, .int .i64 1] 132)
        have at3 := at2.keep k1
        have hbg := begin_l B c i D _ p q s2 (freshL n) 1 1 ⟨at3.dk, none, 0, at3.box, at3.qc, Own.nil _ _ _ _ _⟩ (X.cols.keep k1.size) (Nat.le_trans hB2 k1.size) hci (by omega) (by omega) (by omega) (by unfold freshL; simp)
        rw [show ((1 : Nat) : Int) = 1 from rfl] at hbg
        generalize beginF s2 (freshL n) 1 1 = r3 at *
        obtain ⟨s4, l4, e4⟩ := r3
        simp only [] at hbg
        have HX1 := Lib.hid (X.trans (Ext.quiet X.cols k1))
        have HR4 := Lib.hid hR3
        clear hR3 at2 at3 X k1 hst3
        obtain ⟨z0, z1, -, -⟩ := cells_two hg1
        clear hg1
        generalize hwB : wr.alloc (.cells #[.int .i64 1, .int .i64 1] 132) = wB at *
        go_upto_region 15 with fail
        clear hwB
        go_wp2_with fail
        refine hbg.mono ?_
        clear hbg
        rintro e w5 hto
        obtain ⟨D5, rfl, x5, h5⟩ := hto.ex
        have HX5 := Lib.hid (HX1.out.trans x5)
        clear hto x5
        have hR5 := HR4.out
        unfold openNew at hR5
        simp only [] at hR5
        by_cases he : e4 = 0
        case neg =>
          rw [if_pos he] at hR5
          subst hR5
          have n2 : ((e4 : Int) != 0) = true := by simpa using he
          clear he HR4
          go_wp2_with fail
          go_ret3
          exact OpTo.fail HX5.out h5.dk
        subst he
        rw [if_neg (by simp)] at hR5
        subst hR5
        rw [Int.natCast_zero]
        clear HR4
        go_wp2_with fail
        go_ret3
        exact ⟨D5, HX5.out, h5.dk, Or.inr ⟨l4, [], q, none, 0, [], rfl, rfl, rfl, by have := HQW.out; omega, h5, Own.nil _ _ _ _ _, RecsAt.nil _ _⟩⟩
      rw [if_neg hp] at hR3
      obtain ⟨np, hnp⟩ : ∃ x, Hid (f.pieces.length = x) := ⟨_, Lib.hid rfl⟩
      have hnp0 : ((np : Int) == 0) = false := by
        have h0 := List.length_pos_iff.2 hp
        have := hnp.out
        simp
        omega
      rw [hnp.out] at y0
      have hbq : wr.heap[q]? = some (.cells #[.pointer (some ⟨p, 0, none⟩), .int .i64 (limF n : Int), .slice none 0 0, .int .i64 0, .int .i64 0, .bool false] 125 (0, 0)) := at2.box
      have hqp : ¬ q = pv := fun e => by have h1 := at2.qc; rw [e, at2.vc] at h1; exact hci.1 h1.symm
      have HAT := Lib.hid at2
      have HX := Lib.hid X
      have HR4 := Lib.hid hR3
      have HP := Lib.hid hp
      clear hp hR3 at2 X
      obtain ⟨⟨x0, x1, x2, x3, x4, x5⟩, xf⟩ := cells_6f hbq
      go_upto_region 19 with fail
      have xf2 := xf 2
      have xf3 := xf 3
      have xf4 := xf 4
      clear xf x0 x1 x5 hwr y1 y4 y5 hj
      have HNP := Lib.hid hnp0
      clear hnp0
      have kd : Kp (fun j => j = q) wr wr.drew := (Kp.refl _ _).drew
      have hbq' : wr.drew.heap[q]? = _ := hbq
      apply wp_region_zero (G := fun wz => wz.heap[q]? = some (.cells #[.pointer (some ⟨p, 0, none⟩), .int .i64 (limF n : Int), .slice po np pc, .int .i64 (f.next : Int), .int .i64 (f.good : Int), .bool false] 125 (0, 0)) ∧ Kp (fun j => j = q) wr wz)
      case h =>
        go_region
        refine NoPanic.normal ⟨rfl, rfl, ?_, ?_⟩
        · refine (heap_set_cell (heap_set_cell (heap_set_cell hbq'))).trans ?_
          simp
        · exact (((kd.setCell (p := ⟨q, 2, none⟩) (fun _ => rfl) _).setCell (p := ⟨q, 3, none⟩) (fun _ => rfl) _).setCell (p := ⟨q, 4, none⟩) (fun _ => rfl) _)
      case k =>
        intro wz hG
        obtain ⟨hbz, kz⟩ := hG
        have hatz := HAT.out
        have hbz2 : wz.heap[q]? = some (.cells (logC p (foundL f n) po pc) 125 (0, 0)) := by
          rw [hbz]
          unfold logC foundL
          simp only [hnp.out]
        have hvz := kz.heap hatz.var (fun e => hqp e.symm)
        have hcq := hatz.qc
        have hlz : LAt c D wz p q (foundL f n) po pc := ⟨hbz2, hcq, hatz.pieces.kp kz (fun j d e => by have d1 : D j = c + 1 := d; rw [e] at d1; omega)⟩
        have hxz : Ext B (SL i c) col w D wz := HX.out.trans (box_extS HX.out.cols (kz.mono (fun j _ e => by rw [e, hcq]; exact Or.inr (Or.inl rfl))))
        have hdz : Dk D i wz p s2 := by
          obtain ⟨⟨r7, hr7⟩, hi7⟩ := hatz.dk
          exact ⟨⟨r7, hr7.beside (S := fun x => x = c) (kz.mono (fun j _ e => by rw [e]; exact hcq)) (fun x a b => by unfold S3 at a; omega)⟩, hi7⟩
        have hrz := hatz.recs.kp kz (fun j d e => by have d1 := d.1.1; rw [e, hcq] at d1; exact hci.1 d1)
        have hrd := (hatz.rdat.mono (Q := fun k => (D k = 0 ∧ q ≤ k) ∧ k < wr.heap.size) (fun j hj d => ⟨d, hj⟩)).kp kz (fun j _ d e => by have d1 := d.1.1; rw [e, hcq] at d1; exact hci.1 d1)
        have hBz : B ≤ wz.heap.size := Nat.le_trans hB2 kz.size
        have hzs := kz.size
        have hok := foundL_ok HBD.out HP.out n
        have hlst := last_l c i D wz p q s2 (foundL f n) ⟨hdz, po, pc, hlz⟩ hok
        have hns := walName_size (lastP (foundL f n)).1
        have hR5 := HR4.out
        generalize walName (lastP (foundL f n)).1 = nm at *
        have hct := fun W (K : Kp Noone wz W) => cut_lg B c i D W p q s2 (foundL f n) nm (f.good : Int) (Lg.keep ⟨hdz, po, pc, hlz⟩ K) (hxz.cols.keep K.size) (Nat.le_trans hBz K.size) hci (by omega) (by omega)
        have hcs := cutF_steps s2 nm (f.good : Int)
        generalize cutF s2 nm (f.good : Int) = r3 at *
        obtain ⟨s3, e3⟩ := r3
        unfold openCut at hR5
        simp only [] at hR5 hct hcs
        have HR6 := Lib.hid hR5
        have HZX := Lib.hid hxz
        have HRZ := Lib.hid hrz
        have HRD := Lib.hid hrd
        have HVZ := Lib.hid hvz
        have hvc := hatz.vc
        unfold fndC at hvz
        obtain ⟨⟨v0, v1, v2, v3, v4, v5⟩, -⟩ := cells_6f hvz
        clear hR5 HR4 hbz kz hatz hbz2 hvz hlz hxz hdz hrz hrd hok hbq hbq' kd y0 y2 y3 x2 x3 x4 xf2 xf3 xf4 v0 v1 v2 v4 v5
        go_wp2_with fail
        refine hlst.mono ?_
        clear hlst
        rintro e w4 ⟨rfl, k4⟩
        have v3 := k4.cell v3 id
        have hct := hct w4 k4
        go_wp2_with fail
        refine hct.mono ?_
        clear hct
        rintro e w5 hto
        obtain ⟨D5, rfl, x5, h5⟩ := hto.ex
        have HX5 := Lib.hid ((Ext.quiet (S := SL i c) HZX.out.cols k4).trans x5)
        clear hto x5 k4 v3
        by_cases he : e3 = 0
        case neg =>
          have hR7 := HR6.out
          rw [if_pos he] at hR7
          subst hR7
          have n2 : ((e3 : Int) != 0) = true := by simpa using he
          clear he HR6
          go_wp2_with fail
          go_ret3
          exact OpTo.fail (HZX.out.trans HX5.out) h5.dk
        subst he
        have hR7 := HR6.out
        rw [if_neg (by simp)] at hR7
        rw [Int.natCast_zero]
        have hsy := sync_lg B c i D5 w5 p q s3 (foundL f n) nm h5 HX5.out.cols (by have := HX5.out.size; omega) hci (by omega) (by omega)
        generalize syncF s3 nm = r4 at *
        obtain ⟨s4, e4⟩ := r4
        unfold openSync at hR7
        simp only [] at hR7 hsy
        have HR7 := Lib.hid hR7
        clear hR7 HR6 h5
        go_wp2_with fail
        refine hsy.mono ?_
        clear hsy
        rintro e w6 hto
        obtain ⟨D6, rfl, x6, h6⟩ := hto.ex
        have HX6 := Lib.hid (HX5.out.trans x6)
        clear hto x6
        by_cases he : e4 = 0
        case neg =>
          have hR8 := HR7.out
          rw [if_pos he] at hR8
          subst hR8
          have n2 : ((e4 : Int) != 0) = true := by simpa using he
          clear he HR7
          go_wp2_with fail
          go_ret3
          exact OpTo.fail (HZX.out.trans HX6.out) h6.dk
        subst he
        have hR8 := HR7.out
        rw [if_neg (by simp)] at hR8
        subst hR8
        rw [Int.natCast_zero]
        have hv6 := HX6.out.kp.heap HVZ.out (by rw [hvc]; unfold SL S3; omega)
        unfold fndC at hv6
        obtain ⟨⟨v0, v1, v2, v3, v4, v5⟩, -⟩ := cells_6f hv6
        have HH6 := Lib.hid h6
        clear HR7 v0 v2 v3 v4 v5 hv6 h6
        go_upto_region 27 with fail
        go_quiet (fail)
        go_wp2_with fail
        go_ret3
        have hm := HQW.out
        refine ⟨D6, HZX.out.trans (HX6.out.drewN _), HH6.out.dk.keep ((Kp.refl _ _).drewN _), Or.inr ⟨foundL f n, f.recs, q, ro, rc, rh, rfl, rfl, rfl, by omega, HH6.out.keep ((Kp.refl _ _).drewN _), ?_, ?_⟩⟩
        · rw [hm]; exact own0_ext hci HRZ.out hzs (HX6.out.drewN _)
        · rw [hm]; exact recs0_ext hci HRD.out hzs (HX6.out.drewN _)

end Go.Proofs.YtgbgbokcohfnpaaGreat

/-
  THE WALK of the laws' head (snap).
-/
namespace Go.Proofs.YtgbgbokcohfnpaaGreat
open Go.RowKit

def sh1 : DS := (saveF (newF 1000) 5 [97, 98, 99]).1
def sh2 : DS := (saveF sh1 9 [100]).1
theorem listF_length (s : DS) : (listF s).length = if s.down = true then 0 else s.areas.length := by
  unfold listF
  split
  · rfl
  · unfold namesF
    rw [sortN_length, List.length_map]
attribute [local irreducible] saveF newF listF sh1 sh2
end Go.Proofs.YtgbgbokcohfnpaaGreat

/-
  A SMALL DISK: no area has more than 4194304 bytes; every call keeps that.
-/
namespace Go.Proofs.YtgbgbokcohfnpaaGreat
open Go.RowKit

def SmallD (s : DS) : Prop := ∀ x ∈ s.areas, x.2.data.length ≤ 4194304
theorem SmallD.get0 {s : DS} (h : SmallD s) (k : ByteArray) : (get0 k s.areas).data.length ≤ 4194304 := by
  unfold Proofs.YtgbgbokcohfnpaaGreat.get0
  cases hg : alGet k s.areas with
  | none => simp
  | some a => exact h (k, a) (alGet_mem hg)
theorem SmallD.read {s : DS} (h : SmallD s) (k : ByteArray) : (readF s k).1.length ≤ 4194304 := by
  unfold readF
  split
  · simp
  · exact h.get0 k
theorem SmallD.of {s t : DS} (h : SmallD s) (e : t.areas = s.areas) : SmallD t := fun x hx => h x (by rw [← e]; exact hx)
theorem SmallD.put {s : DS} (h : SmallD s) (k : ByteArray) (a : AreaP) (ha : a.data.length ≤ 4194304) : SmallD (putF s k a) := by
  intro x hx
  rcases mem_alPut hx with e | e
  · rw [e]; exact ha
  · exact h x e
theorem SmallD.step {s : DS} (h : SmallD s) : SmallD (stepF s).1 := h.of (stepF_areas s)
theorem SmallD.new (n : Int) : SmallD (newF n) := fun x hx => by cases hx
theorem SmallD.append {s : DS} (h : SmallD s) (k : ByteArray) (d : List UInt8) : SmallD (appendF s k d).1 := by
  unfold appendF
  split
  · exact h
  · split
    · exact h
    · split
      · exact h
      · refine SmallD.step (h.put _ _ ?_)
        simp only [List.length_append]
        omega
theorem SmallD.sync {s : DS} (h : SmallD s) (k : ByteArray) : SmallD (syncF s k).1 := by
  unfold syncF
  split
  · exact h
  · split
    · exact h
    · split
      · exact h.step
      · exact h.step.put _ _ (h.get0 k)
theorem SmallD.cut {s : DS} (h : SmallD s) (k : ByteArray) (n : Int) : SmallD (cutF s k n).1 := by
  unfold cutF
  split
  · exact h
  · split
    · exact h
    · split
      · exact h.step
      · refine h.step.put _ _ ?_
        unfold cutA
        have := h.get0 k
        simp only [List.length_take]
        omega
theorem SmallD.drop {s : DS} (h : SmallD s) (k : ByteArray) : SmallD (dropF s k).1 := by
  unfold dropF
  split
  · exact h
  · split
    · exact h.step
    · intro x hx
      exact h x (mem_alDel (k := k) (l := s.areas) hx)
theorem SmallD.crash1 {s : DS} (h : SmallD s) (k : ByteArray) (v : Option Int) : SmallD (crash1 s k v) := by
  unfold Proofs.YtgbgbokcohfnpaaGreat.crash1
  refine h.put _ _ ?_
  have := h.get0 k
  simp only [List.length_take]
  omega
theorem SmallD.fuse {s : DS} (h : SmallD s) (n : Int) : SmallD (fuseF s n) := h
theorem SmallD.dropAll : ∀ (l : List Nat) {s : DS}, SmallD s → SmallD (dropAll l s).1
  | [], s, h => by rw [dropAll_nil]; exact h
  | n :: r, s, h => by
    rw [dropAll_cons]
    split
    · exact h.drop _
    · exact SmallD.dropAll r (h.drop _)
theorem SmallD.begin {s : DS} (h : SmallD s) (l : LogP) (a b : Nat) : SmallD (beginF s l a b).1 := by
  unfold beginF
  split
  · exact h.append _ _
  · unfold beginB
    split
    · split
      · exact ((h.append _ _).sync _).drop _
      · exact ((h.append _ _).sync _).drop _
    · split
      · exact (h.append _ _).sync _
      · exact (h.append _ _).sync _
theorem SmallD.open {s : DS} (h : SmallD s) (n : Int) : SmallD (openF s n).1 := by
  unfold openF
  split
  · exact h
  · have h1 := SmallD.dropAll (scanF s).rest.reverse h
    generalize Proofs.YtgbgbokcohfnpaaGreat.dropAll (scanF s).rest.reverse s = t at *
    unfold openDrop
    split
    · exact h1
    · split
      · have h2 := h1.begin (freshL n) 1 1
        unfold openNew
        split
        · exact h2
        · exact h2
      · have h2 := h1.cut (walName (lastP (foundL (scanF s) n)).1) ((scanF s).good : Int)
        unfold openCut
        split
        · exact h2
        · have h3 := h2.sync (walName (lastP (foundL (scanF s) n)).1)
          unfold openSync
          split
          · exact h3
          · exact h3
theorem SmallD.appTail {s : DS} (h : SmallD s) (l : LogP) (d : List UInt8) : SmallD (appTail s l d).1 := by
  have h1 := h.append (walName (lastP l).1) (frameL d)
  unfold Proofs.YtgbgbokcohfnpaaGreat.appTail
  split
  · exact h1
  · exact h1
theorem SmallD.appendL {s : DS} (h : SmallD s) (l : LogP) (d : List UInt8) : SmallD (appendLF s l d).1 := by
  unfold appendLF
  split
  · exact h
  · split
    · exact h
    · split
      · split
        · exact h
        · have h1 := h.sync (walName (lastP l).1)
          unfold rollF
          split
          · exact h1
          · have h2 := h1.begin l ((lastP l).1 + 1) l.next
            unfold roll2
            split
            · exact h2
            · exact h2.appTail _ d
      · exact h.appTail l d
theorem SmallD.syncL {s : DS} (h : SmallD s) (l : LogP) : SmallD (syncLF s l).1 := by
  unfold syncLF
  split
  · exact h
  · exact h.sync _

/-! ### A new disk -/
theorem listF_new (n : Int) : listF (newF n) = [] := by
  apply List.eq_nil_of_length_eq_zero
  rw [listF_length]
  rfl
theorem scanF_new (n : Int) : scanF (newF n) = found0 := by
  unfold scanF
  rw [listF_new]
  rfl
theorem openF_new (n m : Int) : openF (newF n) m = openNew (beginF (newF n) (freshL m) 1 1) := by
  unfold openF
  rw [scanF_new]
  rfl

end Go.Proofs.YtgbgbokcohfnpaaGreat

/-
  WalHead, WalSame in one text.
-/
/-
  wal: THE WALK of the laws' head.
-/
namespace Go.Proofs.YtgbgbokcohfnpaaGreat
open Go.RowKit

attribute [local irreducible] openF newF appendLF imageF walName
end Go.Proofs.YtgbgbokcohfnpaaGreat

/-
  THE WALK of the document's Same, at records that are the same.
-/
namespace Go.Proofs.YtgbgbokcohfnpaaGreat
open Go.RowKit

/-- A slice of records. -/
def RSl (w : World) (ro : Option Addr) (rc : Nat) (recs : Recs) : Prop := ∃ F P rh, Own F w 76 2 ro recs.length rc (recsV rh) ∧ RecsAt P w rh recs
theorem RSl.keep {w w' : World} {ro : Option Addr} {rc : Nat} {recs : Recs} (h : RSl w ro rc recs) (k : Kp Noone w w') : RSl w' ro rc recs := by
  obtain ⟨F, P, rh, ho, hr⟩ := h
  exact ⟨F, P, rh, ho.keep k, hr.keep k⟩
theorem RSl.at {w : World} {ro : Option Addr} {rc : Nat} {recs : Recs} (h : RSl w ro rc recs) {j : Nat} (hj : j < recs.length) : ∃ g off xo xm xc, ro = some ⟨g, off, none⟩ ∧ w.cell? ⟨g, off + j * 2, none⟩ = some (.int .i64 (recs[j].1 : Int)) ∧ w.cell? ⟨g, off + j * 2 + 1, none⟩ = some (.slice xo xm xc) ∧ BS w xo xm xc recs[j].2 := by
  obtain ⟨F, P, rh, ho, hr⟩ := h
  have hl := hr.len
  have hj2 : j < rh.length := by omega
  have hg := recsV_get rh j hj2
  have hlen := length_recsV rh
  obtain ⟨hi, hd⟩ := hr.get j hj2 hj
  obtain ⟨g, off, rfl, -, -, hc1, -⟩ := ho.at (k := j * 2) (by omega)
  obtain ⟨g2, off2, hgo, -, -, hc2, -⟩ := ho.at (k := j * 2 + 1) (by omega)
  cases hgo
  refine ⟨g, off, rh[j].2.1, rh[j].2.2.1, rh[j].2.2.2, rfl, ?_, ?_, hd.1⟩
  · rw [hc1]
    have h1 := hg.1
    rw [List.getElem?_eq_getElem (by omega), hi] at h1
    exact h1
  · rw [show off + j * 2 + 1 = off + (j * 2 + 1) by omega, hc2]
    have h1 := hg.2
    rw [List.getElem?_eq_getElem (by omega)] at h1
    exact h1

end Go.Proofs.YtgbgbokcohfnpaaGreat

/-
  wal: names and numbers, in plain Lean.
-/
namespace Go.Proofs.YtgbgbokcohfnpaaGreat
open Go.RowKit

theorem toL_walName (n : Nat) : toL (walName n) = walL n := rfl
theorem numD_go {c : UInt8} {r : List UInt8} {n : Nat} (h1 : 48 ≤ c.toNat) (h2 : c.toNat ≤ 57) : numD (c :: r) n = numD r (10 * n + (c.toNat - 48)) := by
  rw [numD_cons, if_neg (by omega)]
theorem numD_dg (x : Nat) (r : List UInt8) (n : Nat) : numD (dg x :: r) n = numD r (10 * n + x % 10) := by
  have h := dg_val x
  rw [numD_go (by omega) (by omega), h, Nat.add_sub_cancel_left]
theorem number_of (n : Nat) (hn : n ≤ 999999) : numberN (walName n) = n := by
  have hp : Lib.hasPrefix (toL (walName n)) walPre = true ∧ (toL (walName n)).length = 10 := ⟨List.isPrefixOf_iff_prefix.2 ⟨dig6 n, rfl⟩, length_walL n⟩
  unfold numberN
  rw [if_pos hp]
  have hd : (toL (walName n)).drop 4 = dig6 n := rfl
  rw [hd]
  unfold dig6
  rw [numD_dg, numD_dg, numD_dg, numD_dg, numD_dg, numD_dg, numD_nil]
  omega
theorem dg_lt (x y : Nat) : dg x < dg y ↔ x % 10 < y % 10 := by
  rw [UInt8.lt_iff_toNat_lt, dg_val, dg_val]
  omega
theorem dg_eq (x y : Nat) : dg x = dg y ↔ x % 10 = y % 10 := by
  rw [← UInt8.toNat_inj, dg_val, dg_val]
  omega
theorem lt_step {x y : Nat} (h : x < y) : x / 10 < y / 10 ∨ (x / 10 = y / 10 ∧ x % 10 < y % 10) := by omega
theorem walName_lt {a b : Nat} (h : a < b) (hb : b ≤ 999999) : toL (walName a) < toL (walName b) := by
  have d2 : ∀ n : Nat, n / 100 = n / 10 / 10 := fun n => by omega
  have d3 : ∀ n : Nat, n / 1000 = n / 10 / 10 / 10 := fun n => by omega
  have d4 : ∀ n : Nat, n / 10000 = n / 10 / 10 / 10 / 10 := fun n => by omega
  have d5 : ∀ n : Nat, n / 100000 = n / 10 / 10 / 10 / 10 / 10 := fun n => by omega
  have hb5 : b / 10 / 10 / 10 / 10 / 10 ≤ 9 := by rw [← d5]; omega
  rw [toL_walName, toL_walName]
  unfold walL walPre dig6
  simp only [List.cons_append, List.nil_append, List.cons_lt_cons_iff, UInt8.lt_irrefl, false_or, true_and, dg_lt, dg_eq, List.lt_irrefl, and_false, or_false, d2, d3, d4, d5]
  rcases lt_step h with h1 | ⟨e, l⟩
  · rcases lt_step h1 with h2 | ⟨e, l⟩
    · rcases lt_step h2 with h3 | ⟨e, l⟩
      · rcases lt_step h3 with h4 | ⟨e, l⟩
        · rcases lt_step h4 with h5 | ⟨e, l⟩
          · refine Or.inl ?_
            rw [Nat.mod_eq_of_lt (by omega), Nat.mod_eq_of_lt (by omega)]
            exact h5
          · rw [e]
            exact Or.inr ⟨rfl, Or.inl l⟩
        · rw [e]
          exact Or.inr ⟨rfl, Or.inr ⟨rfl, Or.inl l⟩⟩
      · rw [e]
        exact Or.inr ⟨rfl, Or.inr ⟨rfl, Or.inr ⟨rfl, Or.inl l⟩⟩⟩
    · rw [e]
      exact Or.inr ⟨rfl, Or.inr ⟨rfl, Or.inr ⟨rfl, Or.inr ⟨rfl, Or.inl l⟩⟩⟩⟩
  · rw [e]
    exact Or.inr ⟨rfl, Or.inr ⟨rfl, Or.inr ⟨rfl, Or.inr ⟨rfl, Or.inr ⟨rfl, l⟩⟩⟩⟩⟩
theorem okc_dg (x : Nat) : okc (dg x) = true := by
  have h : ∀ y : Fin 10, okc (UInt8.ofNat (48 + y.1)) = true := by decide
  exact h ⟨x % 10, by omega⟩
theorem nameOk_wal (n : Nat) : nameOk (walName n) = true := by
  show rightL (walL n) = true
  unfold rightL walL dig6
  simp only [List.all_append, List.all_cons, List.all_nil, okc_dg, Bool.and_true]
  rfl

end Go.Proofs.YtgbgbokcohfnpaaGreat
