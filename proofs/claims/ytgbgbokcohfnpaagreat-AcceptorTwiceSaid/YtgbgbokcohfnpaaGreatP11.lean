/-
  The texts WalLog, WalBegin in one: what the claim reaches of them.
-/
import Derived.Test.YtgbgbokcohfnpaaGreatP10
import Derived.Test.YtgbgbokcohfnpaaGreatP07
import Derived.Test.YtgbgbokcohfnpaaGreatP01
import Derived.Deep.RegionHeld3
import Derived.Deep.RegionLaw
/-
  wal: AN OPEN LOG, in plain Lean and in memory; its small methods.
-/
namespace Go.Proofs.YtgbgbokcohfnpaaGreat
open Go.RowKit

structure LogP where
  limit : Nat
  pieces : List (Nat × Nat)
  next : Nat
  size : Nat
  shut : Bool
def lastP (l : LogP) : Nat × Nat := l.pieces.getLastD (0, 0)
def logC (p : Nat) (l : LogP) (po : Option Addr) (pc : Nat) : Array Value := #[.pointer (some ⟨p, 0, none⟩), .int .i64 (l.limit : Int), .slice po l.pieces.length pc, .int .i64 (l.next : Int), .int .i64 (l.size : Int), .bool l.shut]
/-- What holds of every open log. -/
structure LOk (l : LogP) : Prop where
  limit : l.limit ≤ 65536
  pieces : l.pieces ≠ []
  nums : ∀ x ∈ l.pieces, x.1 ≤ 999999
  firsts : ∀ x ∈ l.pieces, x.2 ≤ 4611686018427387904
  next : l.next ≤ 4611686018427387904
  size : l.size ≤ 4611686018427387904
  len : l.pieces.length ≤ 1048576
structure LAt (c : Nat) (col : Nat → Nat) (w : World) (p q : Nat) (l : LogP) (po : Option Addr) (pc : Nat) : Prop where
  box : w.heap[q]? = some (.cells (logC p l po pc) 125 (0, 0))
  qc : col q = c
  pieces : Own (Col col (c + 1)) w 132 2 po l.pieces.length pc (piecesV l.pieces)
/-- A log over its disk. -/
structure Lg (c i : Nat) (col : Nat → Nat) (w : World) (p q : Nat) (s : DS) (l : LogP) : Prop where
  dk : Dk col i w p s
  lg : ∃ po pc, LAt c col w p q l po pc
/-- The colours that a log's methods may change. -/
def SL (i c : Nat) : Nat → Prop := fun x => S3 i x ∨ x = c ∨ x = c + 1
theorem LAt.keep {c : Nat} {col : Nat → Nat} {w w' : World} {p q : Nat} {l : LogP} {po : Option Addr} {pc : Nat} (h : LAt c col w p q l po pc) (k : Kp Noone w w') : LAt c col w' p q l po pc := ⟨k.heap h.box id, h.qc, h.pieces.keep k⟩
theorem LAt.ext {B c : Nat} {S : Nat → Prop} {col col' : Nat → Nat} {w w' : World} {p q : Nat} {l : LogP} {po : Option Addr} {pc : Nat} (h : LAt c col w p q l po pc) (e : Ext B S col w col' w') (h1 : ¬ S c) (h2 : ¬ S (c + 1)) : LAt c col' w' p q l po pc := by
  have hq := (Array.getElem?_eq_some_iff.1 h.box).1
  refine ⟨e.kp.heap h.box (by rw [h.qc]; exact h1), (e.old q hq).trans h.qc, ?_⟩
  exact ((h.pieces.mono (G := fun j => Col col (c + 1) j ∧ j < w.heap.size) (fun j hj d => ⟨d, hj⟩)).kp e.kp (fun j d a => by have d1 : col j = c + 1 := d.1; rw [d1] at a; exact h2 a)).mono (fun j _ d => (e.old j d.2).trans d.1)
/-- A cell of the log that is no list takes another value. -/
theorem LAt.set {c : Nat} {col : Nat → Nat} {w w' : World} {p q : Nat} {l l' : LogP} {po : Option Addr} {pc : Nat} (h : LAt c col w p q l po pc) (k : Kp (fun j => j = q) w w') (hb : w'.heap[q]? = some (.cells (logC p l' po pc) 125 (0, 0))) (e : l'.pieces = l.pieces) : LAt c col w' p q l' po pc :=
  ⟨hb, h.qc, by rw [e]; exact h.pieces.kp k (fun j d a => by have d1 : col j = c + 1 := d; have := h.qc; subst a; omega)⟩
theorem Lg.keep {c i : Nat} {col : Nat → Nat} {w w' : World} {p q : Nat} {s : DS} {l : LogP} (h : Lg c i col w p q s l) (k : Kp Noone w w') : Lg c i col w' p q s l := by
  obtain ⟨hd, po, pc, hl⟩ := h
  exact ⟨hd.keep k, po, pc, hl.keep k⟩
theorem box_extS {B : Nat} {S : Nat → Prop} {col : Nat → Nat} {w w3 : World} (hc : Cols B w col) (k03 : Kp (fun j => S (col j)) w w3) : Ext B S col w col w3 :=
  ⟨hc.keep k03.size, fun _ _ => rfl, fun j hj hn => by have := hc j hn; omega, k03⟩
/-- What a method answers. -/
structure LgTo (B c i : Nat) (col : Nat → Nat) (w : World) (p q : Nat) (s : DS) (l : LogP) (v : Value) (e : Ending) (w' : World) : Prop where
  ex : ∃ col', e = .returned v ∧ Ext B (SL i c) col w col' w' ∧ Lg c i col' w' p q s l

def metF (l : LogP) (e : Nat) : LogP := if e = 2 then { l with shut := true } else l
def aliveF (s : DS) (l : LogP) : LogP × Nat := if l.shut = true ∨ s.down = true then ({ l with shut := true }, 2) else (l, 0)
/-- The log's struct alone changes. -/
theorem Lg.set {B c i : Nat} {col : Nat → Nat} {w w' : World} {p q : Nat} {s : DS} {l l' : LogP} {po : Option Addr} {pc : Nat} (hd : Dk col i w p s) (hl : LAt c col w p q l po pc) (hc : Cols B w col) (hci : c ≠ 0 ∧ (c + 1 ≤ i ∨ i + 3 < c)) (k : Kp (fun j => j = q) w w') (hb : w'.heap[q]? = some (.cells (logC p l' po pc) 125 (0, 0))) (e : l'.pieces = l.pieces) : Ext B (SL i c) col w col w' ∧ Lg c i col w' p q s l' := by
  refine ⟨box_extS hc (k.mono (fun j _ a => by subst a; rw [hl.qc]; exact Or.inr (Or.inl rfl))), ?_, po, pc, hl.set k hb e⟩
  obtain ⟨⟨r, hr⟩, hi⟩ := hd
  exact ⟨⟨r, hr.beside (S := fun x => x = c) (k.mono (fun j _ a => by subst a; exact hl.qc)) (fun x a b => by unfold S3 at a; omega)⟩, hi⟩

set_option maxHeartbeats 1000000 in
theorem met_l (B c i : Nat) (col : Nat → Nat) (w : World) (p q : Nat) (s : DS) (l : LogP) (e : Nat) (h : Lg c i col w p q s l) (hc : Cols B w col) (hci : c ≠ 0 ∧ (c + 1 ≤ i ∨ i + 3 < c)) :
    Calls Tryz.prog 97 #[.pointer (some ⟨q, 0, none⟩), .int .i64 (e : Int)] w fun e' w' => LgTo B c i col w p q s (metF l e) (.int .i64 (e : Int)) e' w' := by
  obtain ⟨hd, po, pc, hl⟩ := h
  have hb := hl.box
  unfold logC at hb
  obtain ⟨⟨y0, y1, y2, y3, y4, y5⟩, yf⟩ := cells_6f hb
  have yf5 := yf 5
  by_cases h2 : e = 2
  · have hm : metF l e = { l with shut := true } := by unfold metF; rw [if_pos h2]
    have hs := Lg.set (l' := { l with shut := true }) hd hl hc hci ((Kp.refl (fun j => j = q) w).setCell (p := ⟨q, 5, none⟩) (fun _ => rfl) (.bool true)) ((heap_set_cell hl.box).trans (by unfold logC; simp)) rfl
    rw [hm]
    have HS := Lib.hid hs
    subst h2
    clear hs hd hl hb hm
    go_enter Tryz.func97, Tryz.ntmps97
    go_wp2_with fail
    go_ret
    exact ⟨⟨col, rfl, HS.out.1, HS.out.2⟩⟩
  · have hm : metF l e = l := by unfold metF; rw [if_neg h2]
    rw [hm]
    have he : ((e : Int) == 2) = false := by simp; omega
    have HS : Hid (Lg c i col w p q s l) := Lib.hid ⟨hd, po, pc, hl⟩
    clear hd hl hb hm h2
    go_enter Tryz.func97, Tryz.ntmps97
    go_wp2_with fail
    go_ret
    exact ⟨⟨col, rfl, Ext.quiet hc (Kp.refl _ _), HS.out⟩⟩

set_option maxHeartbeats 1000000 in
theorem alive_l (B c i : Nat) (col : Nat → Nat) (w : World) (p q : Nat) (s : DS) (l : LogP) (h : Lg c i col w p q s l) (hc : Cols B w col) (hci : c ≠ 0 ∧ (c + 1 ≤ i ∨ i + 3 < c)) :
    Calls Tryz.prog 96 #[.pointer (some ⟨q, 0, none⟩)] w fun e' w' => LgTo B c i col w p q s (aliveF s l).1 (.int .i64 ((aliveF s l).2 : Int)) e' w' := by
  obtain ⟨hd, po, pc, hl⟩ := h
  have hb := hl.box
  unfold logC at hb
  obtain ⟨⟨y0, y1, y2, y3, y4, y5⟩, yf⟩ := cells_6f hb
  have yf5 := yf 5
  have hdn := down_dk col i p s w hd
  by_cases h2 : l.shut = true ∨ s.down = true
  · have hm : aliveF s l = ({ l with shut := true }, 2) := by unfold aliveF; rw [if_pos h2]
    have hs := Lg.set (l' := { l with shut := true }) hd hl hc hci ((Kp.refl (fun j => j = q) w).setCell (p := ⟨q, 5, none⟩) (fun _ => rfl) (.bool true)) ((heap_set_cell hl.box).trans (by unfold logC; simp)) rfl
    rw [hm]
    have HS := Lib.hid hs
    have hcs : l.shut = true ∨ (l.shut = false ∧ s.down = true) := by
      cases hx : l.shut with
      | true => exact Or.inl rfl
      | false => exact Or.inr ⟨rfl, by rcases h2 with h | h; rw [hx] at h; cases h; exact h⟩
    clear hs hd hl hb hm h2
    rcases hcs with h1 | ⟨h1, h2⟩
    · rw [h1] at y5
      go_enter Tryz.func96, Tryz.ntmps96
      go_wp2_with fail
      go_ret
      exact ⟨⟨col, rfl, HS.out.1, HS.out.2⟩⟩
    · rw [h1] at y5
      rw [h2] at hdn
      go_enter Tryz.func96, Tryz.ntmps96
      go_wp2_with fail
      refine hdn.mono ?_
      rintro e w' ⟨rfl, rfl⟩
      go_wp2_with fail
      go_ret
      exact ⟨⟨col, rfl, HS.out.1, HS.out.2⟩⟩
  · have hm : aliveF s l = (l, 0) := by unfold aliveF; rw [if_neg h2]
    rw [hm]
    have h1 : l.shut = false := by cases hx : l.shut with
      | true => exact absurd (Or.inl hx) h2
      | false => rfl
    have h3 : s.down = false := by cases hx : s.down with
      | true => exact absurd (Or.inr hx) h2
      | false => rfl
    have HS : Hid (Lg c i col w p q s l) := Lib.hid ⟨hd, po, pc, hl⟩
    rw [h1] at y5
    rw [h3] at hdn
    clear hd hl hb hm h2
    go_enter Tryz.func96, Tryz.ntmps96
    go_wp2_with fail
    refine hdn.mono ?_
    rintro e w' ⟨rfl, rfl⟩
    go_wp2_with fail
    go_ret
    exact ⟨⟨col, rfl, Ext.quiet hc (Kp.refl _ _), HS.out⟩⟩

/-- The last piece's cells. -/
theorem LAt.last {c : Nat} {col : Nat → Nat} {w : World} {p q : Nat} {l : LogP} {po : Option Addr} {pc : Nat} (h : LAt c col w p q l po pc) (h0 : l.pieces ≠ []) : ∃ g off k, po = some ⟨g, off, none⟩ ∧ l.pieces.length = k + 1 ∧ Col col (c + 1) g ∧ w.cell? ⟨g, off + k * 2, none⟩ = some (.int .i64 ((lastP l).1 : Int)) ∧ w.cell? ⟨g, off + k * 2 + 1, none⟩ = some (.int .i64 ((lastP l).2 : Int)) := by
  obtain ⟨k, hk⟩ : ∃ k, l.pieces.length = k + 1 := ⟨l.pieces.length - 1, by have := List.length_pos_iff.2 h0; omega⟩
  have hlp : lastP l = l.pieces[k] := by
    unfold lastP
    rw [List.getLastD_eq_getLast?, List.getLast?_eq_getElem?]
    have e : l.pieces.length - 1 = k := by omega
    rw [e, List.getElem?_eq_getElem (by omega)]
    rfl
  have hg := piecesV_get l.pieces k (by omega)
  have hlen := length_piecesV l.pieces
  obtain ⟨g, off, rfl, hF, -, hc1, -⟩ := h.pieces.at (k := k * 2) (by omega)
  obtain ⟨g2, off2, hgo, -, -, hc2, -⟩ := h.pieces.at (k := k * 2 + 1) (by omega)
  cases hgo
  refine ⟨g, off, k, rfl, hk, hF, ?_, ?_⟩
  · rw [hc1, hlp]
    have h1 := hg.1
    rw [List.getElem?_eq_getElem (by omega)] at h1
    exact h1
  · rw [show off + k * 2 + 1 = off + (k * 2 + 1) by omega, hc2, hlp]
    have h1 := hg.2
    rw [List.getElem?_eq_getElem (by omega)] at h1
    exact h1
theorem LAt.first {c : Nat} {col : Nat → Nat} {w : World} {p q : Nat} {l : LogP} {po : Option Addr} {pc : Nat} (h : LAt c col w p q l po pc) {j : Nat} (hj : j < l.pieces.length) : ∃ g off, po = some ⟨g, off, none⟩ ∧ w.cell? ⟨g, off + j * 2, none⟩ = some (.int .i64 (l.pieces[j].1 : Int)) ∧ w.cell? ⟨g, off + j * 2 + 1, none⟩ = some (.int .i64 (l.pieces[j].2 : Int)) := by
  have hg := piecesV_get l.pieces j hj
  have hlen := length_piecesV l.pieces
  obtain ⟨g, off, rfl, hF, -, hc1, -⟩ := h.pieces.at (k := j * 2) (by omega)
  obtain ⟨g2, off2, hgo, -, -, hc2, -⟩ := h.pieces.at (k := j * 2 + 1) (by omega)
  cases hgo
  refine ⟨g, off, rfl, ?_, ?_⟩
  · rw [hc1]
    have h1 := hg.1
    rw [List.getElem?_eq_getElem (by omega)] at h1
    exact h1
  · rw [show off + j * 2 + 1 = off + (j * 2 + 1) by omega, hc2]
    have h1 := hg.2
    rw [List.getElem?_eq_getElem (by omega)] at h1
    exact h1
theorem LOk.lastNum {l : LogP} (h : LOk l) : (lastP l).1 ≤ 999999 ∧ (lastP l).2 ≤ 4611686018427387904 := by
  have hm : lastP l ∈ l.pieces := by
    unfold lastP
    rw [List.getLastD_eq_getLast?, List.getLast?_eq_some_getLast h.pieces]
    exact List.getLast_mem h.pieces
  exact ⟨h.nums _ hm, h.firsts _ hm⟩

set_option maxHeartbeats 2000000 in
theorem last_l (c i : Nat) (col : Nat → Nat) (w : World) (p q : Nat) (s : DS) (l : LogP) (h : Lg c i col w p q s l) (hok : LOk l) :
    Calls Tryz.prog 56 #[.pointer (some ⟨q, 0, none⟩)] w fun e' w' => e' = .returned (.string (walName (lastP l).1)) ∧ Kp Noone w w' := by
  obtain ⟨-, po, pc, hl⟩ := h
  have hb := hl.box
  obtain ⟨g, off, k, rfl, hk, -, hc1, -⟩ := hl.last hok.pieces
  unfold logC at hb
  obtain ⟨hnum, -⟩ := hok.lastNum
  have hlen := hok.len
  generalize l.pieces.length = n at *
  have har := fun W => area_w (lastP l).1 W hnum
  generalize (lastP l).1 = num at *
  have hwi : IntKind.i64.wrap ((n : Int) - 1) = (k : Int) := by rw [IntWalk.i64_in _ (by omega)]; omega
  have hki : (k : Int) < (n : Int) := by omega
  have hcs : ∀ w', Kp Noone w w' → (w'.cell? ⟨q, 2, none⟩ = some (.slice (some ⟨g, off, none⟩) n pc) ∧ w'.cell? ⟨g, off + k * 2, none⟩ = some (.int .i64 (num : Int))) := fun w' kk => ⟨(cells_6f (kk.heap hb id)).1.2.2.1, kk.cell hc1 id⟩
  have k0 : Kp Noone w w.drew := (Kp.refl _ _).drew
  clear hb hc1 hl hk hlen
  go_enter Tryz.func56, Tryz.ntmps56
  go_upto_region 1 with fail
  go_region_held3 (fun w' => w'.cell? ⟨q, 2, none⟩ = some (.slice (some ⟨g, off, none⟩) n pc) ∧ w'.cell? ⟨g, off + k * 2, none⟩ = some (.int .i64 (num : Int)))
    (first | exact hcs _ k0 | exact hcs _ ka)
    (first
      | (go_at_call 54; refine (har _).mono ?_; rintro e wa ⟨rfl, ka1⟩; have ka : Kp Noone w wa := k0.trans ka1))
  clear hcs ka1 k0
  go_wp2_with fail
  go_ret
  exact ⟨rfl, ka⟩

/-! ### The disk's calls, beside a log -/
theorem Lg.disk {B c i : Nat} {col col' : Nat → Nat} {w w' : World} {p q : Nat} {s s' : DS} {l : LogP} (h : Lg c i col w p q s l) (hci : c ≠ 0 ∧ (c + 1 ≤ i ∨ i + 3 < c)) (e : Ext B (S3 i) col w col' w') (hd : Dk col' i w' p s') : Ext B (SL i c) col w col' w' ∧ Lg c i col' w' p q s' l := by
  obtain ⟨-, po, pc, hl⟩ := h
  exact ⟨e.mono (fun x a => Or.inl a), hd, po, pc, hl.ext e (by unfold S3; omega) (by unfold S3; omega)⟩
theorem append_lg (B c i : Nat) (col : Nat → Nat) (w : World) (p q : Nat) (s : DS) (l : LogP) (k : ByteArray) (fo : Option Addr) (n cap : Nat) (d : List UInt8) (h : Lg c i col w p q s l) (hc : Cols B w col) (hBw : B ≤ w.heap.size) (hci : c ≠ 0 ∧ (c + 1 ≤ i ∨ i + 3 < c)) (hb : BS w fo n cap d) (hk : k.size ≤ 9223372036854775807) (hst : s.steps < 4611686018427387904) :
    Calls Tryz.prog 109 #[.pointer (some ⟨p, 0, none⟩), .string k, .slice fo n cap] w fun e w' => LgTo B c i col w p q (appendF s k d).1 l (.int .i64 ((appendF s k d).2 : Int)) e w' :=
  (append_dk B col i p s k fo n cap d w h.dk hc hBw hb hk hst).mono (fun _ _ ⟨he, col', x, hd⟩ => ⟨⟨col', he, (h.disk hci x hd).1, (h.disk hci x hd).2⟩⟩)
theorem sync_lg (B c i : Nat) (col : Nat → Nat) (w : World) (p q : Nat) (s : DS) (l : LogP) (k : ByteArray) (h : Lg c i col w p q s l) (hc : Cols B w col) (hBw : B ≤ w.heap.size) (hci : c ≠ 0 ∧ (c + 1 ≤ i ∨ i + 3 < c)) (hk : k.size ≤ 9223372036854775807) (hst : s.steps < 4611686018427387904) :
    Calls Tryz.prog 58 #[.pointer (some ⟨p, 0, none⟩), .string k] w fun e w' => LgTo B c i col w p q (syncF s k).1 l (.int .i64 ((syncF s k).2 : Int)) e w' :=
  (sync_dk B col i p s k w h.dk hc hBw hk hst).mono (fun _ _ ⟨he, col', x, hd⟩ => ⟨⟨col', he, (h.disk hci x hd).1, (h.disk hci x hd).2⟩⟩)
theorem drop_lg (B c i : Nat) (col : Nat → Nat) (w : World) (p q : Nat) (s : DS) (l : LogP) (k : ByteArray) (h : Lg c i col w p q s l) (hc : Cols B w col) (hci : c ≠ 0 ∧ (c + 1 ≤ i ∨ i + 3 < c)) (hk : k.size ≤ 9223372036854775807) (hst : s.steps < 4611686018427387904) :
    Calls Tryz.prog 53 #[.pointer (some ⟨p, 0, none⟩), .string k] w fun e w' => LgTo B c i col w p q (dropF s k).1 l (.int .i64 ((dropF s k).2 : Int)) e w' :=
  (drop_dk B col i p s k w h.dk hc hk hst).mono (fun _ _ ⟨he, col', x, hd⟩ => ⟨⟨col', he, (h.disk hci x hd).1, (h.disk hci x hd).2⟩⟩)
theorem cut_lg (B c i : Nat) (col : Nat → Nat) (w : World) (p q : Nat) (s : DS) (l : LogP) (k : ByteArray) (n : Int) (h : Lg c i col w p q s l) (hc : Cols B w col) (hBw : B ≤ w.heap.size) (hci : c ≠ 0 ∧ (c + 1 ≤ i ∨ i + 3 < c)) (hk : k.size ≤ 9223372036854775807) (hst : s.steps < 4611686018427387904) :
    Calls Tryz.prog 57 #[.pointer (some ⟨p, 0, none⟩), .string k, .int .i64 n] w fun e w' => LgTo B c i col w p q (cutF s k n).1 l (.int .i64 ((cutF s k n).2 : Int)) e w' :=
  (cut_dk B col i p s k n w h.dk hc hBw hk hst).mono (fun _ _ ⟨he, col', x, hd⟩ => ⟨⟨col', he, (h.disk hci x hd).1, (h.disk hci x hd).2⟩⟩)
theorem walName_size (n : Nat) : (walName n).size = 10 := rfl

end Go.Proofs.YtgbgbokcohfnpaaGreat

/-
  wal: THE WALK of begin.
-/
namespace Go.Proofs.YtgbgbokcohfnpaaGreat
open Go.RowKit

def beginOk (l : LogP) (num first : Nat) : LogP := { l with pieces := l.pieces ++ [(num, first)], next := first, size := (headerL num first).length }
def beginB (t : DS × Nat) (l : LogP) (num first : Nat) : DS × LogP × Nat :=
  if t.2 = 42 then (if (dropF t.1 (walName num)).2 ≠ 0 then ((dropF t.1 (walName num)).1, metF l (dropF t.1 (walName num)).2, (dropF t.1 (walName num)).2) else ((dropF t.1 (walName num)).1, l, 42))
  else if t.2 ≠ 0 then (t.1, metF l t.2, t.2) else (t.1, beginOk l num first, 0)
def beginF (s : DS) (l : LogP) (num first : Nat) : DS × LogP × Nat :=
  if (appendF s (walName num) (headerL num first)).2 ≠ 0 then ((appendF s (walName num) (headerL num first)).1, metF l (appendF s (walName num) (headerL num first)).2, (appendF s (walName num) (headerL num first)).2)
  else beginB (syncF (appendF s (walName num) (headerL num first)).1 (walName num)) l num first
theorem headerL_len (num first : Nat) : (headerL num first).length ≤ 35 := by
  have h1 := frameL_le (numL num ++ numL first)
  have h2 := sizeN_le num
  have h3 := sizeN_le first
  rw [List.length_append, length_numL, length_numL] at h1
  unfold headerL
  omega
theorem metF_42 (l : LogP) : metF l 42 = l := rfl
/-- The pieces grow. -/
theorem Lg.push {B c i : Nat} {col : Nat → Nat} {w wB w2 w3 : World} {p q : Nat} {s : DS} {l l' : LogP} {po po' : Option Addr} {pc pc' : Nat} {x : Nat × Nat} (hd : Dk col i w p s) (hl : LAt c col w p q l po pc) (hc : Cols B w col) (hBw : B ≤ w.heap.size) (hci : c ≠ 0 ∧ (c + 1 ≤ i ∨ i + 3 < c)) (kA : Kp Noone w wB)
    (ho : Own (Ex (Col col (c + 1)) wB w2) w2 132 2 po' (l.pieces.length + 1) pc' (piecesV l.pieces ++ [.int .i64 (x.1 : Int), .int .i64 (x.2 : Int)])) (k2 : Kp (Col col (c + 1)) wB w2) (k3 : Kp (fun j => j = q) w2 w3) (hp : l'.pieces = l.pieces ++ [x]) (hb : w3.heap[q]? = some (.cells (logC p l' po' pc') 125 (0, 0))) :
    Ext B (SL i c) col w (paint col wB w2 (c + 1)) w3 ∧ Lg c i (paint col wB w2 (c + 1)) w3 p q s l' := by
  have hcB := hc.keep kA.size
  have hBB : B ≤ wB.heap.size := Nat.le_trans hBw kA.size
  have hq := (Array.getElem?_eq_some_iff.1 hl.box).1
  have hqB := Nat.lt_of_lt_of_le hq kA.size
  have hqc : paint col wB w2 (c + 1) q = c := by unfold Proofs.YtgbgbokcohfnpaaGreat.paint; rw [if_neg (by omega)]; exact hl.qc
  have kAll : Kp (fun j => col j = c + 1 ∨ j = q) wB w3 := (k2.mono (fun j _ a => Or.inl a)).trans' k3 (fun j _ a => Or.inr a)
  have kW : Kp (fun j => col j = c + 1 ∨ j = q) w w3 := kA.none.trans kAll
  have hcols := (hcB.paint hBB k2.size (c + 1)).keep k3.size
  have hext : Ext B (SL i c) col w (paint col wB w2 (c + 1)) w3 := by
    refine ⟨hcols, fun j hj => ?_, fun j hj hn => ?_, kW.mono (fun j _ a => ?_)⟩
    · unfold Proofs.YtgbgbokcohfnpaaGreat.paint
      have := kA.size
      rw [if_neg (by omega)]
    · unfold Proofs.YtgbgbokcohfnpaaGreat.paint at hn ⊢
      by_cases h1 : wB.heap.size ≤ j ∧ j < w2.heap.size
      · rw [if_pos h1]; exact Or.inr (Or.inr rfl)
      · rw [if_neg h1] at hn
        exact absurd (cols_new hc hj) hn
    · rcases a with a | a
      · exact Or.inr (Or.inr a)
      · subst a; exact Or.inr (Or.inl hl.qc)
  refine ⟨hext, ?_, po', pc', hb, hqc, ?_⟩
  · exact hd.ext hc (S := fun x => x = c ∨ x = c + 1) ⟨hcols, hext.old, fun j hj hn => by
      unfold Proofs.YtgbgbokcohfnpaaGreat.paint at hn ⊢
      by_cases h1 : wB.heap.size ≤ j ∧ j < w2.heap.size
      · rw [if_pos h1]; exact Or.inr rfl
      · rw [if_neg h1] at hn
        exact absurd (cols_new hc hj) hn, kW.mono (fun j _ a => by
      rcases a with a | a
      · exact Or.inr a
      · subst a; exact Or.inl hl.qc)⟩ (fun x a b => by unfold S3 at a; omega)
  · rw [hp, show (l.pieces ++ [x]).length = l.pieces.length + 1 by simp]
    have hq2 := ho.painted
    rw [piecesV_snoc] at hq2
    exact hq2.kp k3 (fun j a e => by subst e; have a1 : paint col wB w2 (c + 1) j = c + 1 := a; omega)

attribute [local irreducible] appendF syncF dropF headerL walName
set_option maxHeartbeats 4000000 in
set_option maxRecDepth 100000 in
theorem begin_l (B c i : Nat) (col : Nat → Nat) (w : World) (p q : Nat) (s : DS) (l : LogP) (num first : Nat) (h : Lg c i col w p q s l) (hc : Cols B w col) (hBw : B ≤ w.heap.size) (hci : c ≠ 0 ∧ (c + 1 ≤ i ∨ i + 3 < c)) (hst : s.steps < 4611686018427387900) (hn : num ≤ 999999) (hf : first ≤ 4611686018427387904) (hpl : l.pieces.length ≤ 1048576) :
    Calls Tryz.prog 55 #[.pointer (some ⟨q, 0, none⟩), .agg #[.int .i64 (num : Int), .int .i64 (first : Int)]] w fun e w' => LgTo B c i col w p q (beginF s l num first).1 (beginF s l num first).2.1 (.int .i64 ((beginF s l num first).2.2 : Int)) e w' := by
  obtain ⟨RES, hRES⟩ : ∃ x, Hid (beginF s l num first = x) := ⟨_, Lib.hid rfl⟩
  rw [hRES.out]
  have HR := hRES.out
  unfold beginF at HR
  obtain ⟨i1, hi1, hi10, hi11, hi12⟩ := info_parts info_piece
  have hhl := headerL_len num first
  have hkA : Kp Noone w (w.alloc (.cells #[.int .i64 (num : Int), .int .i64 (first : Int)] 132)) := (Kp.refl _ _).alloc _
  have hxA := heap_alloc_new w (.cells #[.int .i64 (num : Int), .int .i64 (first : Int)] 132)
  have hns := walName_size num
  have hap := fun (col : Nat → Nat) (W : World) H hc hB fo n cap hb => append_lg B c i col W p q s l (walName num) fo n cap (headerL num first) H hc hB hci hb (by omega) (by omega)
  have s1 := appendF_steps s (walName num) (headerL num first)
  generalize appendF s (walName num) (headerL num first) = r1 at *
  have HRR := Lib.hid HR
  have HPL := Lib.hid hpl
  clear hRES HR hpl
  go_enter Tryz.func55, Tryz.ntmps55
  go_upto_region 1 with fail
  have hlA := h.keep hkA
  have hcA := hc.keep hkA.size
  have HX0 := Lib.hid (Ext.quiet (S := SL i c) hc hkA)
  have hgx : col w.heap.size = 0 := cols_new hc (Nat.le_refl _)
  clear h
  generalize w.alloc (.cells #[.int .i64 (num : Int), .int .i64 (first : Int)] 132) = wA at *
  generalize hgw : w.heap.size = gx at *
  obtain ⟨z0, z1, -, -⟩ := cells_two hxA
  have hhd := header_w num first wA (by omega) (by omega)
  go_wp2_with fail
  refine hhd.mono ?_
  clear hhd
  rintro e w1 hto
  obtain ⟨ho, hcc, rfl, hob, k1⟩ := hto.ex
  have hx1 := k1.heap hxA id
  have hl1 := hlA.keep k1
  have HX1 := Lib.hid (HX0.out.trans (Ext.quiet HX0.out.cols k1))
  have hb1 := hob.bs
  clear hto hlA hob z0 z1
  obtain ⟨z0, z1, -, -⟩ := cells_two hx1
  have har := area_w num w1 hn
  go_wp2_with fail
  refine har.mono ?_
  clear har
  rintro e w2 ⟨rfl, k2⟩
  have hx2 := k2.heap hx1 id
  have hl2 := hl1.keep k2
  have HX2 := Lib.hid (HX1.out.trans (Ext.quiet HX1.out.cols k2))
  have hb2 := hb1.keep k2
  have hap := hap col w2 hl2 HX2.out.cols (by have h := HX2.out.size; omega) ho _ hcc hb2
  obtain ⟨-, po2, pc2, hL2⟩ := hl2
  have hbx2 := hL2.box
  unfold logC at hbx2
  obtain ⟨⟨y0, y1, y2, y3, y4, y5⟩, -⟩ := cells_6f hbx2
  have hfr2 : wA.heap.size ≤ w1.heap.size := k1.size
  clear hl1 k1 k2 hx1 hxA z0 z1 hb1 hbx2 hL2 HX0 HX1
  go_wp2_with fail
  refine hap.mono ?_
  clear hap
  rintro e w3 hto
  obtain ⟨c3, rfl, x3, hl3⟩ := hto.ex
  have hx3 := x3.kp.heap hx2 (by rw [hgx]; unfold SL S3; omega)
  have hg3 := (x3.old gx (Array.getElem?_eq_some_iff.1 hx2).1).trans hgx
  have HX3 := Lib.hid (HX2.out.trans x3)
  clear hto x3 hx2 HX2 y0 y1 y2 y3 y4 y5 hb2
  obtain ⟨s1', e1⟩ := r1
  simp only [] at HRR hl3 s1
  by_cases h1 : e1 = 0
  case neg =>
    have HR := HRR.out
    rw [if_pos h1] at HR
    subst HR
    have n1 : ((e1 : Int) == 0) = false := by simpa using h1
    have n2 : ((e1 : Int) != 0) = true := by simpa using h1
    have hmt := met_l B c i c3 w3 p q s1' l e1 hl3 HX3.out.cols hci
    clear h1 hl3
    go_wp2_with fail
    refine hmt.mono ?_
    clear hmt
    rintro e w4 hto
    obtain ⟨c4, rfl, x4, hl4⟩ := hto.ex
    have HX4 := Lib.hid (HX3.out.trans x4)
    clear x4 hto
    go_wp2_with fail
    go_ret
    exact ⟨⟨c4, rfl, HX4.out, hl4⟩⟩
  subst h1
  have HR := HRR.out
  rw [if_neg (by simp)] at HR
  rw [Int.natCast_zero]
  have hsy := sync_lg B c i c3 w3 p q s1' l (walName num) hl3 HX3.out.cols (by have h := HX3.out.size; omega) hci (by omega) (by omega)
  have s2 := syncF_steps s1' (walName num)
  generalize syncF s1' (walName num) = r2 at *
  obtain ⟨s2', e2⟩ := r2
  unfold beginB at HR
  simp only [] at HR hsy s2
  have HRB := Lib.hid HR
  obtain ⟨-, po3, pc3, hL3⟩ := hl3
  have hbx3 := hL3.box
  unfold logC at hbx3
  obtain ⟨⟨y0, y1, y2, y3, y4, y5⟩, -⟩ := cells_6f hbx3
  clear HR HRR hbx3 hL3
  go_wp2_with fail
  refine hsy.mono ?_
  clear hsy
  rintro e w4 hto
  obtain ⟨c4, rfl, x4, hl4⟩ := hto.ex
  have hx4 := x4.kp.heap hx3 (by rw [hg3]; unfold SL S3; omega)
  have hg4 := (x4.old gx (Array.getElem?_eq_some_iff.1 hx3).1).trans hg3
  have HX4 := Lib.hid (HX3.out.trans x4)
  clear hto x4 hx3 HX3 y0 y1 y2 y3 y4 y5
  by_cases h42 : e2 = 42
  · subst h42
    have HR := HRB.out
    rw [if_pos rfl] at HR
    have hdp := drop_lg B c i c4 w4 p q s2' l (walName num) hl4 HX4.out.cols hci (by omega) (by omega)
    generalize dropF s2' (walName num) = r3 at *
    obtain ⟨s3', e3⟩ := r3
    simp only [] at HR hdp
    have HRC := Lib.hid HR
    obtain ⟨-, po4, pc4, hL4⟩ := hl4
    have hbx4 := hL4.box
    unfold logC at hbx4
    obtain ⟨⟨y0, y1, y2, y3, y4, y5⟩, -⟩ := cells_6f hbx4
    clear HR HRB hbx4 hL4
    go_wp2_with fail
    refine hdp.mono ?_
    clear hdp
    rintro e w5 hto
    obtain ⟨c5, rfl, x5, hl5⟩ := hto.ex
    have HX5 := Lib.hid (HX4.out.trans x5)
    clear hto x5 hx4 HX4 y0 y1 y2 y3 y4 y5
    by_cases h3 : e3 = 0
    · subst h3
      have HR := HRC.out
      rw [if_neg (by simp)] at HR
      subst HR
      rw [Int.natCast_zero]
      have hmt := met_l B c i c5 w5 p q s3' l 42 hl5 HX5.out.cols hci
      rw [metF_42] at hmt
      clear hl5
      go_wp2_with fail
      refine hmt.mono ?_
      clear hmt
      rintro e w6 hto
      obtain ⟨c6, rfl, x6, hl6⟩ := hto.ex
      have HX6 := Lib.hid (HX5.out.trans x6)
      clear x6 hto
      go_wp2_with fail
      go_ret
      exact ⟨⟨c6, rfl, HX6.out, hl6⟩⟩
    · have HR := HRC.out
      rw [if_pos h3] at HR
      subst HR
      have n3 : ((e3 : Int) != 0) = true := by simpa using h3
      have hmt := met_l B c i c5 w5 p q s3' l e3 hl5 HX5.out.cols hci
      clear hl5 h3
      go_wp2_with fail
      refine hmt.mono ?_
      clear hmt
      rintro e w6 hto
      obtain ⟨c6, rfl, x6, hl6⟩ := hto.ex
      have HX6 := Lib.hid (HX5.out.trans x6)
      clear x6 hto
      go_wp2_with fail
      go_ret
      exact ⟨⟨c6, rfl, HX6.out, hl6⟩⟩
  have n42 : ((e2 : Int) == 42) = false := by simp; omega
  have HR := HRB.out
  rw [if_neg h42] at HR
  by_cases h2 : e2 = 0
  case neg =>
    rw [if_pos h2] at HR
    subst HR
    have n2 : ((e2 : Int) != 0) = true := by simpa using h2
    have hmt := met_l B c i c4 w4 p q s2' l e2 hl4 HX4.out.cols hci
    clear hl4 h2 h42
    go_wp2_with fail
    refine hmt.mono ?_
    clear hmt
    rintro e w6 hto
    obtain ⟨c6, rfl, x6, hl6⟩ := hto.ex
    have HX6 := Lib.hid (HX4.out.trans x6)
    clear x6 hto
    go_wp2_with fail
    go_ret
    exact ⟨⟨c6, rfl, HX6.out, hl6⟩⟩
  subst h2
  rw [if_neg (by simp)] at HR
  subst HR
  rw [Int.natCast_zero]
  obtain ⟨hdk, po4, pc4, hL4⟩ := hl4
  have hbx4 := hL4.box
  unfold logC at hbx4
  obtain ⟨⟨y0, y1, y2, y3, y4, y5⟩, yf⟩ := cells_6f hbx4
  obtain ⟨z0, z1, -, -⟩ := cells_two hx4
  have hgx4 : ¬ gx = q := fun e => by have h1 := hg4; rw [e, hL4.qc] at h1; exact hci.1 h1
  have kB0 : Kp Noone w4 (w4.alloc (.cells #[.int .i64 (num : Int), .int .i64 (first : Int)] 132)) := (Kp.refl _ _).alloc _
  have kB : Kp Noone w4 (w4.alloc (.cells #[.int .i64 (num : Int), .int .i64 (first : Int)] 132)).drew := kB0.drew
  have y2A := kB0.cell y2 id
  have hown := hL4.pieces.keep kB
  have hrow : Row (w4.alloc (.cells #[.int .i64 (num : Int), .int .i64 (first : Int)] 132)).drew (some ⟨w4.heap.size, 0, none⟩) [.int .i64 (num : Int), .int .i64 (first : Int)] := (Row.ofHeap (heap_alloc_new w4 (.cells #[.int .i64 (num : Int), .int .i64 (first : Int)] 132))).keep ((Kp.refl _ _).drew)
  have hbB := kB.heap hbx4 id
  have hB4 : B ≤ w4.heap.size := by have h := HX4.out.size; omega
  obtain ⟨n, hn9⟩ : ∃ n, Hid (l.pieces.length = n) := ⟨_, Lib.hid rfl⟩
  have hpl := HPL.out
  rw [hn9.out] at hown y2 y2A hbB hpl
  have hcqc : ¬ c = c + 1 := by omega
  have HL4 := Lib.hid hL4
  have HDK := Lib.hid hdk
  clear n42 h42 HRB hbx4 hL4 hdk
  go_upto_region 12 with fail
  apply wp_region_two (G := fun po5 pc5 wz => ∃ w5, Own (Ex (Col c4 (c + 1)) (w4.alloc (.cells #[.int .i64 (num : Int), .int .i64 (first : Int)] 132)).drew w5) w5 132 2 po5 (n + 1) pc5 (piecesV l.pieces ++ [.int .i64 (num : Int), .int .i64 (first : Int)]) ∧ Kp (Col c4 (c + 1)) (w4.alloc (.cells #[.int .i64 (num : Int), .int .i64 (first : Int)] 132)).drew w5 ∧ Kp (fun j => j = q) w5 wz ∧ wz.heap[q]? = some (.cells #[.pointer (some ⟨p, 0, none⟩), .int .i64 (l.limit : Int), .slice po5 (n + 1) pc5, .int .i64 (l.next : Int), .int .i64 (l.size : Int), .bool l.shut] 125 (0, 0)) ∧ wz.cell? ⟨gx, 1, none⟩ = some (.int .i64 (first : Int)))
  case h =>
    first
      | (go_region_law (refine step_append_gen rfl (.tmp 49) (.tmp 51) 123 (by dsimp only) 132 i1 (.agg #[.int .i64 0, .int .i64 0]) 2 16 Tryz.underlying123 hi1 hi10 hi11 hi12 rfl po4 n pc4 (by rfl) (some ⟨w4.heap.size, 0, none⟩) 1 1 (by rfl) (Col c4 (c + 1)) (piecesV l.pieces) hown [.int .i64 (num : Int), .int .i64 (first : Int)] rfl hrow (by intro u hu; simp at hu; rcases hu with rfl | rfl <;> rfl) (by omega) (by unfold maxLen; omega) ?_; intro po5 pc5 w5 ho5 k5; have hb5 := k5.heap hbB (by unfold Col; rw [HL4.out.qc]; exact hcqc); obtain ⟨⟨v0, v1, v2, v3, v4, v5⟩, vf⟩ := cells_6f hb5; have vf2 := vf 2; have hx5 := k5.heap (kB.heap hx4 id) (by unfold Col; rw [hg4]; omega)))
      | fail
    all_goals (
      refine NoPanic.normal ⟨rfl, po5, pc5, rfl, w5, ho5, k5, (Kp.refl (fun j => j = q) w5).setCell (p := ⟨q, 2, none⟩) (fun _ => rfl) _, (heap_set_cell hb5).trans (by simp), ?_⟩
      exact ((Kp.refl (fun j => j = q) w5).setCell (p := ⟨q, 2, none⟩) (fun _ => rfl) _).cell (cells_two hx5).2.1 hgx4)
  case k =>
    intro po5 pc5 wz hG
    obtain ⟨w5, ho5, k5, kz, hbz, hgz⟩ := hG
    obtain ⟨⟨v0, v1, v2, v3, v4, v5⟩, vf⟩ := cells_6f hbz
    have vf3 := vf 3
    have vf4 := vf 4
    have hfin := fun (W3 : World) (k3 : Kp (fun j => j = q) wz W3) (hb : W3.heap[q]? = some (.cells (logC p (beginOk l num first) po5 pc5) 125 (0, 0))) => Lg.push (l' := beginOk l num first) (x := (num, first)) HDK.out HL4.out HX4.out.cols hB4 hci kB (by rw [hn9.out]; exact ho5) k5 (kz.trans k3) rfl hb
    have hhl2 : ((headerL num first).length : Int) = ((headerL num first).length : Int) := rfl
    have hb6 := heap_set_cell (n := 4) (u := .int .i64 ((headerL num first).length : Int)) (heap_set_cell (n := 3) (u := .int .i64 (first : Int)) hbz)
    have hF := Lib.hid (hfin ((wz.setCell ⟨q, 3, none⟩ (.int .i64 (first : Int))).setCell ⟨q, 4, none⟩ (.int .i64 ((headerL num first).length : Int))) (((Kp.refl (fun j => j = q) wz).setCell (p := ⟨q, 3, none⟩) (fun _ => rfl) _).setCell (p := ⟨q, 4, none⟩) (fun _ => rfl) _) (hb6.trans (by unfold logC beginOk; simp [hn9.out])))
    clear hfin hb6 ho5 k5 kz hbz vf y0 y1 y2 y3 y4 y5 yf z0 z1 hown hrow hbB hx4
    generalize (headerL num first).length = hl at *
    go_wp2_with fail
    go_ret
    exact ⟨⟨_, rfl, HX4.out.trans hF.out.1, hF.out.2⟩⟩

end Go.Proofs.YtgbgbokcohfnpaaGreat
