/-
  wal: AN OPEN LOG, in plain Lean and in memory; its small methods.
-/
import Derived.Test.YtigdhdclfdojgaaGreatWalScan
namespace Go.Proofs.YtigdhdclfdojgaaGreat
open Go.RowKit

structure LogP where
  limit : Nat
  pieces : List (Nat × Nat)
  next : Nat
  size : Nat
  shut : Bool
def lastP (l : LogP) : Nat × Nat := l.pieces.getLastD (0, 0)
def logC (p : Nat) (l : LogP) (po : Option Addr) (pc : Nat) : Array Value := #[.pointer (some ⟨p, 0, none⟩), .int .i64 (l.limit : Int), .slice po l.pieces.length pc, .int .i64 (l.next : Int), .int .i64 (l.size : Int), .bool l.shut]
/-- What holds of every open log. -/
structure LOk (l : LogP) : Prop where
  limit : l.limit ≤ 65536
  pieces : l.pieces ≠ []
  nums : ∀ x ∈ l.pieces, x.1 ≤ 999999
  firsts : ∀ x ∈ l.pieces, x.2 ≤ 4611686018427387904
  next : l.next ≤ 4611686018427387904
  size : l.size ≤ 4611686018427387904
  len : l.pieces.length ≤ 1048576
structure LAt (c : Nat) (col : Nat → Nat) (w : World) (p q : Nat) (l : LogP) (po : Option Addr) (pc : Nat) : Prop where
  box : w.heap[q]? = some (.cells (logC p l po pc) 100 (0, 0))
  qc : col q = c
  pieces : Own (Col col (c + 1)) w 97 2 po l.pieces.length pc (piecesV l.pieces)
/-- A log over its disk. -/
structure Lg (c i : Nat) (col : Nat → Nat) (w : World) (p q : Nat) (s : DS) (l : LogP) : Prop where
  dk : Dk col i w p s
  lg : ∃ po pc, LAt c col w p q l po pc
/-- The colours that a log's methods may change. -/
def SL (i c : Nat) : Nat → Prop := fun x => S3 i x ∨ x = c ∨ x = c + 1
theorem LAt.keep {c : Nat} {col : Nat → Nat} {w w' : World} {p q : Nat} {l : LogP} {po : Option Addr} {pc : Nat} (h : LAt c col w p q l po pc) (k : Kp Noone w w') : LAt c col w' p q l po pc := ⟨k.heap h.box id, h.qc, h.pieces.keep k⟩
theorem LAt.ext {B c : Nat} {S : Nat → Prop} {col col' : Nat → Nat} {w w' : World} {p q : Nat} {l : LogP} {po : Option Addr} {pc : Nat} (h : LAt c col w p q l po pc) (e : Ext B S col w col' w') (h1 : ¬ S c) (h2 : ¬ S (c + 1)) : LAt c col' w' p q l po pc := by
  have hq := (Array.getElem?_eq_some_iff.1 h.box).1
  refine ⟨e.kp.heap h.box (by rw [h.qc]; exact h1), (e.old q hq).trans h.qc, ?_⟩
  exact ((h.pieces.mono (G := fun j => Col col (c + 1) j ∧ j < w.heap.size) (fun j hj d => ⟨d, hj⟩)).kp e.kp (fun j d a => by have d1 : col j = c + 1 := d.1; rw [d1] at a; exact h2 a)).mono (fun j _ d => (e.old j d.2).trans d.1)
/-- A cell of the log that is no list takes another value. -/
theorem LAt.set {c : Nat} {col : Nat → Nat} {w w' : World} {p q : Nat} {l l' : LogP} {po : Option Addr} {pc : Nat} (h : LAt c col w p q l po pc) (k : Kp (fun j => j = q) w w') (hb : w'.heap[q]? = some (.cells (logC p l' po pc) 100 (0, 0))) (e : l'.pieces = l.pieces) : LAt c col w' p q l' po pc :=
  ⟨hb, h.qc, by rw [e]; exact h.pieces.kp k (fun j d a => by have d1 : col j = c + 1 := d; have := h.qc; subst a; omega)⟩
theorem Lg.keep {c i : Nat} {col : Nat → Nat} {w w' : World} {p q : Nat} {s : DS} {l : LogP} (h : Lg c i col w p q s l) (k : Kp Noone w w') : Lg c i col w' p q s l := by
  obtain ⟨hd, po, pc, hl⟩ := h
  exact ⟨hd.keep k, po, pc, hl.keep k⟩
theorem box_extS {B : Nat} {S : Nat → Prop} {col : Nat → Nat} {w w3 : World} (hc : Cols B w col) (k03 : Kp (fun j => S (col j)) w w3) : Ext B S col w col w3 :=
  ⟨hc.keep k03.size, fun _ _ => rfl, fun j hj hn => by have := hc j hn; omega, k03⟩
/-- What a method answers. -/
structure LgTo (B c i : Nat) (col : Nat → Nat) (w : World) (p q : Nat) (s : DS) (l : LogP) (v : Value) (e : Ending) (w' : World) : Prop where
  ex : ∃ col', e = .returned v ∧ Ext B (SL i c) col w col' w' ∧ Lg c i col' w' p q s l

def metF (l : LogP) (e : Nat) : LogP := if e = 2 then { l with shut := true } else l
def aliveF (s : DS) (l : LogP) : LogP × Nat := if l.shut = true ∨ s.down = true then ({ l with shut := true }, 2) else (l, 0)
theorem metF_ok {l : LogP} (h : LOk l) (e : Nat) : LOk (metF l e) := by
  unfold metF
  split
  · exact ⟨h.limit, h.pieces, h.nums, h.firsts, h.next, h.size, h.len⟩
  · exact h
/-- The log's struct alone changes. -/
theorem Lg.set {B c i : Nat} {col : Nat → Nat} {w w' : World} {p q : Nat} {s : DS} {l l' : LogP} {po : Option Addr} {pc : Nat} (hd : Dk col i w p s) (hl : LAt c col w p q l po pc) (hc : Cols B w col) (hci : c ≠ 0 ∧ (c + 1 ≤ i ∨ i + 3 < c)) (k : Kp (fun j => j = q) w w') (hb : w'.heap[q]? = some (.cells (logC p l' po pc) 100 (0, 0))) (e : l'.pieces = l.pieces) : Ext B (SL i c) col w col w' ∧ Lg c i col w' p q s l' := by
  refine ⟨box_extS hc (k.mono (fun j _ a => by subst a; rw [hl.qc]; exact Or.inr (Or.inl rfl))), ?_, po, pc, hl.set k hb e⟩
  obtain ⟨⟨r, hr⟩, hi⟩ := hd
  exact ⟨⟨r, hr.beside (S := fun x => x = c) (k.mono (fun j _ a => by subst a; exact hl.qc)) (fun x a b => by unfold S3 at a; omega)⟩, hi⟩

set_option maxHeartbeats 1000000 in
theorem met_l (B c i : Nat) (col : Nat → Nat) (w : World) (p q : Nat) (s : DS) (l : LogP) (e : Nat) (h : Lg c i col w p q s l) (hc : Cols B w col) (hci : c ≠ 0 ∧ (c + 1 ≤ i ∨ i + 3 < c)) :
    Calls Tryz.prog 53 #[.pointer (some ⟨q, 0, none⟩), .int .i64 (e : Int)] w fun e' w' => LgTo B c i col w p q s (metF l e) (.int .i64 (e : Int)) e' w' := by
  obtain ⟨hd, po, pc, hl⟩ := h
  have hb := hl.box
  unfold logC at hb
  obtain ⟨⟨y0, y1, y2, y3, y4, y5⟩, yf⟩ := cells_6f hb
  have yf5 := yf 5
  by_cases h2 : e = 2
  · have hm : metF l e = { l with shut := true } := by unfold metF; rw [if_pos h2]
    have hs := Lg.set (l' := { l with shut := true }) hd hl hc hci ((Kp.refl (fun j => j = q) w).setCell (p := ⟨q, 5, none⟩) (fun _ => rfl) (.bool true)) ((heap_set_cell hl.box).trans (by unfold logC; simp)) rfl
    rw [hm]
    have HS := Lib.hid hs
    subst h2
    clear hs hd hl hb hm
    go_enter Tryz.func53, Tryz.ntmps53
    go_wp2_with fail
    go_ret
    exact ⟨⟨col, rfl, HS.out.1, HS.out.2⟩⟩
  · have hm : metF l e = l := by unfold metF; rw [if_neg h2]
    rw [hm]
    have he : ((e : Int) == 2) = false := by simp; omega
    have HS : Hid (Lg c i col w p q s l) := Lib.hid ⟨hd, po, pc, hl⟩
    clear hd hl hb hm h2
    go_enter Tryz.func53, Tryz.ntmps53
    go_wp2_with fail
    go_ret
    exact ⟨⟨col, rfl, Ext.quiet hc (Kp.refl _ _), HS.out⟩⟩

set_option maxHeartbeats 1000000 in
theorem alive_l (B c i : Nat) (col : Nat → Nat) (w : World) (p q : Nat) (s : DS) (l : LogP) (h : Lg c i col w p q s l) (hc : Cols B w col) (hci : c ≠ 0 ∧ (c + 1 ≤ i ∨ i + 3 < c)) :
    Calls Tryz.prog 52 #[.pointer (some ⟨q, 0, none⟩)] w fun e' w' => LgTo B c i col w p q s (aliveF s l).1 (.int .i64 ((aliveF s l).2 : Int)) e' w' := by
  obtain ⟨hd, po, pc, hl⟩ := h
  have hb := hl.box
  unfold logC at hb
  obtain ⟨⟨y0, y1, y2, y3, y4, y5⟩, yf⟩ := cells_6f hb
  have yf5 := yf 5
  have hdn := down_dk col i p s w hd
  by_cases h2 : l.shut = true ∨ s.down = true
  · have hm : aliveF s l = ({ l with shut := true }, 2) := by unfold aliveF; rw [if_pos h2]
    have hs := Lg.set (l' := { l with shut := true }) hd hl hc hci ((Kp.refl (fun j => j = q) w).setCell (p := ⟨q, 5, none⟩) (fun _ => rfl) (.bool true)) ((heap_set_cell hl.box).trans (by unfold logC; simp)) rfl
    rw [hm]
    have HS := Lib.hid hs
    have hcs : l.shut = true ∨ (l.shut = false ∧ s.down = true) := by
      cases hx : l.shut with
      | true => exact Or.inl rfl
      | false => exact Or.inr ⟨rfl, by rcases h2 with h | h; rw [hx] at h; cases h; exact h⟩
    clear hs hd hl hb hm h2
    rcases hcs with h1 | ⟨h1, h2⟩
    · rw [h1] at y5
      go_enter Tryz.func52, Tryz.ntmps52
      go_wp2_with fail
      go_ret
      exact ⟨⟨col, rfl, HS.out.1, HS.out.2⟩⟩
    · rw [h1] at y5
      rw [h2] at hdn
      go_enter Tryz.func52, Tryz.ntmps52
      go_wp2_with fail
      refine hdn.mono ?_
      rintro e w' ⟨rfl, rfl⟩
      go_wp2_with fail
      go_ret
      exact ⟨⟨col, rfl, HS.out.1, HS.out.2⟩⟩
  · have hm : aliveF s l = (l, 0) := by unfold aliveF; rw [if_neg h2]
    rw [hm]
    have h1 : l.shut = false := by cases hx : l.shut with
      | true => exact absurd (Or.inl hx) h2
      | false => rfl
    have h3 : s.down = false := by cases hx : s.down with
      | true => exact absurd (Or.inr hx) h2
      | false => rfl
    have HS : Hid (Lg c i col w p q s l) := Lib.hid ⟨hd, po, pc, hl⟩
    rw [h1] at y5
    rw [h3] at hdn
    clear hd hl hb hm h2
    go_enter Tryz.func52, Tryz.ntmps52
    go_wp2_with fail
    refine hdn.mono ?_
    rintro e w' ⟨rfl, rfl⟩
    go_wp2_with fail
    go_ret
    exact ⟨⟨col, rfl, Ext.quiet hc (Kp.refl _ _), HS.out⟩⟩

/-- The last piece's cells. -/
theorem LAt.last {c : Nat} {col : Nat → Nat} {w : World} {p q : Nat} {l : LogP} {po : Option Addr} {pc : Nat} (h : LAt c col w p q l po pc) (h0 : l.pieces ≠ []) : ∃ g off k, po = some ⟨g, off, none⟩ ∧ l.pieces.length = k + 1 ∧ Col col (c + 1) g ∧ w.cell? ⟨g, off + k * 2, none⟩ = some (.int .i64 ((lastP l).1 : Int)) ∧ w.cell? ⟨g, off + k * 2 + 1, none⟩ = some (.int .i64 ((lastP l).2 : Int)) := by
  obtain ⟨k, hk⟩ : ∃ k, l.pieces.length = k + 1 := ⟨l.pieces.length - 1, by have := List.length_pos_iff.2 h0; omega⟩
  have hlp : lastP l = l.pieces[k] := by
    unfold lastP
    rw [List.getLastD_eq_getLast?, List.getLast?_eq_getElem?]
    have e : l.pieces.length - 1 = k := by omega
    rw [e, List.getElem?_eq_getElem (by omega)]
    rfl
  have hg := piecesV_get l.pieces k (by omega)
  have hlen := length_piecesV l.pieces
  obtain ⟨g, off, rfl, hF, -, hc1, -⟩ := h.pieces.at (k := k * 2) (by omega)
  obtain ⟨g2, off2, hgo, -, -, hc2, -⟩ := h.pieces.at (k := k * 2 + 1) (by omega)
  cases hgo
  refine ⟨g, off, k, rfl, hk, hF, ?_, ?_⟩
  · rw [hc1, hlp]
    have h1 := hg.1
    rw [List.getElem?_eq_getElem (by omega)] at h1
    exact h1
  · rw [show off + k * 2 + 1 = off + (k * 2 + 1) by omega, hc2, hlp]
    have h1 := hg.2
    rw [List.getElem?_eq_getElem (by omega)] at h1
    exact h1
theorem LAt.first {c : Nat} {col : Nat → Nat} {w : World} {p q : Nat} {l : LogP} {po : Option Addr} {pc : Nat} (h : LAt c col w p q l po pc) {j : Nat} (hj : j < l.pieces.length) : ∃ g off, po = some ⟨g, off, none⟩ ∧ w.cell? ⟨g, off + j * 2, none⟩ = some (.int .i64 (l.pieces[j].1 : Int)) ∧ w.cell? ⟨g, off + j * 2 + 1, none⟩ = some (.int .i64 (l.pieces[j].2 : Int)) := by
  have hg := piecesV_get l.pieces j hj
  have hlen := length_piecesV l.pieces
  obtain ⟨g, off, rfl, hF, -, hc1, -⟩ := h.pieces.at (k := j * 2) (by omega)
  obtain ⟨g2, off2, hgo, -, -, hc2, -⟩ := h.pieces.at (k := j * 2 + 1) (by omega)
  cases hgo
  refine ⟨g, off, rfl, ?_, ?_⟩
  · rw [hc1]
    have h1 := hg.1
    rw [List.getElem?_eq_getElem (by omega)] at h1
    exact h1
  · rw [show off + j * 2 + 1 = off + (j * 2 + 1) by omega, hc2]
    have h1 := hg.2
    rw [List.getElem?_eq_getElem (by omega)] at h1
    exact h1
theorem LOk.lastNum {l : LogP} (h : LOk l) : (lastP l).1 ≤ 999999 ∧ (lastP l).2 ≤ 4611686018427387904 := by
  have hm : lastP l ∈ l.pieces := by
    unfold lastP
    rw [List.getLastD_eq_getLast?, List.getLast?_eq_some_getLast h.pieces]
    exact List.getLast_mem h.pieces
  exact ⟨h.nums _ hm, h.firsts _ hm⟩

set_option maxHeartbeats 2000000 in
theorem last_l (c i : Nat) (col : Nat → Nat) (w : World) (p q : Nat) (s : DS) (l : LogP) (h : Lg c i col w p q s l) (hok : LOk l) :
    Calls Tryz.prog 49 #[.pointer (some ⟨q, 0, none⟩)] w fun e' w' => e' = .returned (.string (walName (lastP l).1)) ∧ Kp Noone w w' := by
  obtain ⟨-, po, pc, hl⟩ := h
  have hb := hl.box
  obtain ⟨g, off, k, rfl, hk, -, hc1, -⟩ := hl.last hok.pieces
  unfold logC at hb
  obtain ⟨hnum, -⟩ := hok.lastNum
  have hlen := hok.len
  generalize l.pieces.length = n at *
  have har := fun W => area_w (lastP l).1 W hnum
  generalize (lastP l).1 = num at *
  have hwi : IntKind.i64.wrap ((n : Int) - 1) = (k : Int) := by rw [IntWalk.i64_in _ (by omega)]; omega
  have hki : (k : Int) < (n : Int) := by omega
  have hcs : ∀ w', Kp Noone w w' → (w'.cell? ⟨q, 2, none⟩ = some (.slice (some ⟨g, off, none⟩) n pc) ∧ w'.cell? ⟨g, off + k * 2, none⟩ = some (.int .i64 (num : Int))) := fun w' kk => ⟨(cells_6f (kk.heap hb id)).1.2.2.1, kk.cell hc1 id⟩
  have k0 : Kp Noone w w.drew := (Kp.refl _ _).drew
  clear hb hc1 hl hk hlen
  go_enter Tryz.func49, Tryz.ntmps49
  go_upto_region 1 with fail
  go_region_held3 (fun w' => w'.cell? ⟨q, 2, none⟩ = some (.slice (some ⟨g, off, none⟩) n pc) ∧ w'.cell? ⟨g, off + k * 2, none⟩ = some (.int .i64 (num : Int)))
    (first | exact hcs _ k0 | exact hcs _ ka)
    (first
      | (go_at_call 47; refine (har _).mono ?_; rintro e wa ⟨rfl, ka1⟩; have ka : Kp Noone w wa := k0.trans ka1))
  clear hcs ka1 k0
  go_wp2_with fail
  go_ret
  exact ⟨rfl, ka⟩

def firstP (l : LogP) : Nat := (l.pieces.headD (0, 0)).2
set_option maxHeartbeats 1000000 in
theorem first_l (c i : Nat) (col : Nat → Nat) (w : World) (p q : Nat) (s : DS) (l : LogP) (h : Lg c i col w p q s l) (hok : LOk l) :
    Calls Tryz.prog 15 #[.pointer (some ⟨q, 0, none⟩)] w fun e' w' => e' = .returned (.int .i64 (firstP l : Int)) ∧ w = w' := by
  obtain ⟨-, po, pc, hl⟩ := h
  have hb := hl.box
  have hpos := List.length_pos_iff.2 hok.pieces
  obtain ⟨g, off, rfl, -, hc1⟩ := hl.first hpos
  have hf : firstP l = l.pieces[0].2 := by
    unfold firstP
    rw [List.headD_eq_head?_getD, List.head?_eq_getElem?, List.getElem?_eq_getElem hpos]
    rfl
  rw [hf]
  unfold logC at hb
  obtain ⟨⟨y0, y1, y2, y3, y4, y5⟩, -⟩ := cells_6f hb
  rw [Nat.zero_mul, Nat.add_zero] at hc1
  generalize l.pieces[0].2 = fv at *
  have hpi : (0 : Int) < (l.pieces.length : Int) := by omega
  clear hb hl hf
  go_enter Tryz.func15, Tryz.ntmps15
  go_wp2_with fail
  go_ret
  exact ⟨rfl, rfl⟩
set_option maxHeartbeats 1000000 in
theorem next_l (c i : Nat) (col : Nat → Nat) (w : World) (p q : Nat) (s : DS) (l : LogP) (h : Lg c i col w p q s l) :
    Calls Tryz.prog 16 #[.pointer (some ⟨q, 0, none⟩)] w fun e' w' => e' = .returned (.int .i64 (l.next : Int)) ∧ w = w' := by
  obtain ⟨-, po, pc, hl⟩ := h
  have hb := hl.box
  unfold logC at hb
  obtain ⟨⟨y0, y1, y2, y3, y4, y5⟩, -⟩ := cells_6f hb
  clear hb hl
  go_enter Tryz.func16, Tryz.ntmps16
  go_wp2_with fail
  go_ret
  exact ⟨rfl, rfl⟩
set_option maxHeartbeats 1000000 in
theorem pieces_l (c i : Nat) (col : Nat → Nat) (w : World) (p q : Nat) (s : DS) (l : LogP) (h : Lg c i col w p q s l) :
    Calls Tryz.prog 18 #[.pointer (some ⟨q, 0, none⟩)] w fun e' w' => e' = .returned (.int .i64 (l.pieces.length : Int)) ∧ w = w' := by
  obtain ⟨-, po, pc, hl⟩ := h
  have hb := hl.box
  unfold logC at hb
  obtain ⟨⟨y0, y1, y2, y3, y4, y5⟩, -⟩ := cells_6f hb
  clear hb hl
  go_enter Tryz.func18, Tryz.ntmps18
  go_wp2_with fail
  go_ret
  exact ⟨rfl, rfl⟩

/-! ### The disk's calls, beside a log -/
theorem Lg.disk {B c i : Nat} {col col' : Nat → Nat} {w w' : World} {p q : Nat} {s s' : DS} {l : LogP} (h : Lg c i col w p q s l) (hci : c ≠ 0 ∧ (c + 1 ≤ i ∨ i + 3 < c)) (e : Ext B (S3 i) col w col' w') (hd : Dk col' i w' p s') : Ext B (SL i c) col w col' w' ∧ Lg c i col' w' p q s' l := by
  obtain ⟨-, po, pc, hl⟩ := h
  exact ⟨e.mono (fun x a => Or.inl a), hd, po, pc, hl.ext e (by unfold S3; omega) (by unfold S3; omega)⟩
theorem append_lg (B c i : Nat) (col : Nat → Nat) (w : World) (p q : Nat) (s : DS) (l : LogP) (k : ByteArray) (fo : Option Addr) (n cap : Nat) (d : List UInt8) (h : Lg c i col w p q s l) (hc : Cols B w col) (hBw : B ≤ w.heap.size) (hci : c ≠ 0 ∧ (c + 1 ≤ i ∨ i + 3 < c)) (hb : BS w fo n cap d) (hk : k.size ≤ 9223372036854775807) (hst : s.steps < 4611686018427387904) :
    Calls Tryz.prog 55 #[.pointer (some ⟨p, 0, none⟩), .string k, .slice fo n cap] w fun e w' => LgTo B c i col w p q (appendF s k d).1 l (.int .i64 ((appendF s k d).2 : Int)) e w' :=
  (append_dk B col i p s k fo n cap d w h.dk hc hBw hb hk hst).mono (fun _ _ ⟨he, col', x, hd⟩ => ⟨⟨col', he, (h.disk hci x hd).1, (h.disk hci x hd).2⟩⟩)
theorem sync_lg (B c i : Nat) (col : Nat → Nat) (w : World) (p q : Nat) (s : DS) (l : LogP) (k : ByteArray) (h : Lg c i col w p q s l) (hc : Cols B w col) (hBw : B ≤ w.heap.size) (hci : c ≠ 0 ∧ (c + 1 ≤ i ∨ i + 3 < c)) (hk : k.size ≤ 9223372036854775807) (hst : s.steps < 4611686018427387904) :
    Calls Tryz.prog 51 #[.pointer (some ⟨p, 0, none⟩), .string k] w fun e w' => LgTo B c i col w p q (syncF s k).1 l (.int .i64 ((syncF s k).2 : Int)) e w' :=
  (sync_dk B col i p s k w h.dk hc hBw hk hst).mono (fun _ _ ⟨he, col', x, hd⟩ => ⟨⟨col', he, (h.disk hci x hd).1, (h.disk hci x hd).2⟩⟩)
theorem drop_lg (B c i : Nat) (col : Nat → Nat) (w : World) (p q : Nat) (s : DS) (l : LogP) (k : ByteArray) (h : Lg c i col w p q s l) (hc : Cols B w col) (hci : c ≠ 0 ∧ (c + 1 ≤ i ∨ i + 3 < c)) (hk : k.size ≤ 9223372036854775807) (hst : s.steps < 4611686018427387904) :
    Calls Tryz.prog 46 #[.pointer (some ⟨p, 0, none⟩), .string k] w fun e w' => LgTo B c i col w p q (dropF s k).1 l (.int .i64 ((dropF s k).2 : Int)) e w' :=
  (drop_dk B col i p s k w h.dk hc hk hst).mono (fun _ _ ⟨he, col', x, hd⟩ => ⟨⟨col', he, (h.disk hci x hd).1, (h.disk hci x hd).2⟩⟩)
theorem cut_lg (B c i : Nat) (col : Nat → Nat) (w : World) (p q : Nat) (s : DS) (l : LogP) (k : ByteArray) (n : Int) (h : Lg c i col w p q s l) (hc : Cols B w col) (hBw : B ≤ w.heap.size) (hci : c ≠ 0 ∧ (c + 1 ≤ i ∨ i + 3 < c)) (hk : k.size ≤ 9223372036854775807) (hst : s.steps < 4611686018427387904) :
    Calls Tryz.prog 50 #[.pointer (some ⟨p, 0, none⟩), .string k, .int .i64 n] w fun e w' => LgTo B c i col w p q (cutF s k n).1 l (.int .i64 ((cutF s k n).2 : Int)) e w' :=
  (cut_dk B col i p s k n w h.dk hc hBw hk hst).mono (fun _ _ ⟨he, col', x, hd⟩ => ⟨⟨col', he, (h.disk hci x hd).1, (h.disk hci x hd).2⟩⟩)
theorem walName_size (n : Nat) : (walName n).size = 10 := rfl

end Go.Proofs.YtigdhdclfdojgaaGreat
