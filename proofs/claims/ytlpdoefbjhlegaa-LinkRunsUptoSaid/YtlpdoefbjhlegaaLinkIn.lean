/-
  THE WALK of In.
-/
import Derived.Test.YtlpdoefbjhlegaaLinkAcked
import Derived.OwnWalk
namespace Go.Proofs.Ytlpdoefbjhlegaa
open Go.RowKit

/-- A frame, as it is read. -/
structure Fr where
  kind : Nat
  boot : Nat
  num : Nat
  base : Nat
  data : List UInt8
  bad : Nat

def rc2 (f : List UInt8) := rcount f 0 2
def rcb (f : List UInt8) := rcount (rc2 f).1.1 (rc2 f).1.2 1099511627776
def rcn (f : List UInt8) := rcount (rcb f).1.1 (rcb f).1.2 1099511627776
def rco (f : List UInt8) := rcount (rcn f).1.1 (rcn f).1.2 1099511627776
def rct (f : List UInt8) := rtext (rco f).1.1 (rco f).1.2 65536
def parse (f : List UInt8) : Fr :=
  if (rc2 f).2 = 1 then ⟨1, (rcb f).2, (rcn f).2, (rco f).2, (rct f).2, rdone (rct f).1.1 (rct f).1.2⟩
  else ⟨(rc2 f).2, (rcb f).2, (rcn f).2, (rcn f).2, [], rdone (rcn f).1.1 (rcn f).1.2⟩
/-- What an end answers to what was read; and the end behind it. -/
def inF (s : LS) (f : Fr) : LS × List UInt8 × Bool × Nat :=
  if f.bad ≠ 0 then (s, [], false, f.bad)
  else if f.kind = 0 ∨ f.boot = 0 ∨ f.num = 0 ∨ f.base = 0 ∨ f.num < f.base then (s, [], false, 26)
  else if f.kind = 2 then (ackedF s f.boot f.num, [], false, 0)
  else if (freshF s f.boot f.num f.base).2 then ((freshF s f.boot f.num f.base).1, f.data, true, 0) else ((freshF s f.boot f.num f.base).1, [], false, 0)

theorem rcount_most (left : List UInt8) (bad : Nat) (most : Int) : (rcount left bad most).2 ≤ (max 0 most).toNat := by
  unfold rcount
  split
  · simp
  · omega
theorem kind_cases (f : List UInt8) : (rc2 f).2 = 0 ∨ (rc2 f).2 = 1 ∨ (rc2 f).2 = 2 := by
  have h := rcount_most f 0 2
  have e : (max (0 : Int) 2).toNat = 2 := by decide
  rw [e] at h
  unfold rc2
  omega

theorem Rd.lt {G : Nat → Prop} {w : World} {p : Nat} {left : List UInt8} {bad : Nat} (h : Rd G w p left bad) : p < w.heap.size ∧ bad ≤ 13 := by
  obtain ⟨ao, n, cap, l, k, hh, -, -, -, -, hb⟩ := h
  exact ⟨(Array.getElem?_eq_some_iff.1 hh).1, hb⟩

/-- What a call leaves of a link, with bytes of the caller's. -/
def LkBy (B : Nat) (col : Nat → Nat) (i : Nat) (w : World) (p : Nat) (s' : LS) (xo : Option Addr) (n cap : Nat) (x : List UInt8) (w' : World) : Prop :=
  ∃ col' r', Cols B w' col' ∧ (∀ k, k < w.heap.size → col' k = col k) ∧ (∀ k, w.heap.size ≤ k → col' k ≠ 0 → i < col' k ∧ col' k ≤ i + 5) ∧ Kp (fun j => i < col j ∧ col j ≤ i + 5) w w' ∧ LinkAt col' i w' p s' r' ∧
    Own (fun k => w.heap.size ≤ k ∧ col' k = 0) w' 5 1 xo n cap (bv x)

theorem LkTo.by_none {B : Nat} {col : Nat → Nat} {i : Nat} {w w' : World} {p : Nat} {s' : LS} (h : LkTo B col i w p s' w') (xo : Option Addr) : LkBy B col i w p s' xo 0 0 [] w' := by
  obtain ⟨col', r', h1, h2, h3, h4, h5⟩ := h
  exact ⟨col', r', h1, h2, h3, h4, h5, Own.nil _ _ _ _ _⟩
/-- A call that began later. -/
theorem LkTo.from {B : Nat} {col : Nat → Nat} {i : Nat} {w0 w w' : World} {p : Nat} {s' : LS} (h : LkTo B col i w p s' w') (hc : Cols B w0 col) (k : Kp Noone w0 w) : LkTo B col i w0 p s' w' := by
  obtain ⟨col', r', h1, h2, h3, h4, h5⟩ := h
  have hs := k.size
  refine ⟨col', r', h1, fun j hj => h2 j (by omega), fun j hj hn => ?_, k.none.trans h4, h5⟩
  by_cases hj2 : j < w.heap.size
  · rw [h2 j hj2] at hn
    have := hc j hn
    omega
  · exact h3 j (by omega) hn
/-- .. and bytes that were there before it. -/
theorem LkTo.by_from {B : Nat} {col : Nat → Nat} {i : Nat} {w0 w w' : World} {p : Nat} {s' : LS} (h : LkTo B col i w p s' w') (hc : Cols B w0 col) (k : Kp Noone w0 w) {F : Nat → Prop} {xo : Option Addr} {n cap : Nat} {x : List UInt8}
    (ho : Own F w 5 1 xo n cap (bv x)) (hF : ∀ j, F j → w0.heap.size ≤ j) : LkBy B col i w0 p s' xo n cap x w' := by
  have h0 := h.from hc k
  obtain ⟨col', r', h1, h2, h3, h4, h5⟩ := h
  have hs := k.size
  have hz : ∀ j, w0.heap.size ≤ j → col j = 0 := fun j hj => Classical.byContradiction fun c => by have := hc j c; omega
  refine ⟨col', r', h1, fun j hj => h2 j (by omega), fun j hj hn => ?_, k.none.trans h4, h5, ?_⟩
  · by_cases hj2 : j < w.heap.size
    · rw [h2 j hj2] at hn
      have := hc j hn
      omega
    · exact h3 j (by omega) hn
  · refine (ho.mono (G := fun j => w0.heap.size ≤ j ∧ col' j = 0) (fun j hj hf => ⟨hF j hf, by rw [h2 j hj]; exact hz j (hF j hf)⟩)).kp h4 (fun j hj c => ?_)
    have := hz j hj.1
    omega

set_option maxHeartbeats 4000000 in
set_option maxRecDepth 100000 in
theorem in_at (B : Nat) (col : Nat → Nat) (i p : Nat) (s : LS) (r : LR) (fo : Option Addr) (n cap : Nat) (f : List UInt8) (w : World) (h : LinkAt col i w p s r) (hc : Cols B w col) (hok : LinkOk s) (hBw : B ≤ w.heap.size) (hb : BS w fo n cap f) (hn : n ≤ 140737488355328)
    (s' : LS) (x : List UInt8) (ok : Bool) (er : Nat) (hR : inF s (parse f) = (s', x, ok, er)) :
    Calls Try.prog 18 #[.pointer (some ⟨p, 0, none⟩), .slice fo n cap] w fun e w' => ∃ xo xc, e = .returned (.tuple #[.slice xo x.length xc, .bool ok, .int .i64 (er : Int)]) ∧ LkBy B col i w p s' xo x.length xc x w' := by
  have HR := Lib.hid hR
  have HL := Lib.hid h
  have HC := Lib.hid hc
  have hfl : f.length ≤ 140737488355328 := by have := hb.len; omega
  clear hR h hc
  go_enter Try.func18, Try.ntmps18
  go_wp2_with fail
  refine (newReader_any fo n cap f w hb hn).mono ?_
  rintro e w1 ⟨q, rfl, hr1, k1, hq⟩
  go_wp2_with fail
  refine (readerCount_any q f 0 2 _ hr1 (by omega) (by omega)).mono ?_
  rintro e w2 ⟨rfl, hr2, k2⟩
  have K2 := k1.fin k2 (fun j c => Or.inr (by subst c; exact hq))
  have hkc := kind_cases f
  have hG : ∀ j, Ex Noone w w1 j → w.heap.size ≤ j := fun j c => (Ex.none c).1
  change Rd (Ex Noone w w1) w2 q (rc2 f).1.1 (rc2 f).1.2 at hr2
  have EK := Lib.hid (show (rc2 f).2 = (rcount f 0 2).2 from rfl)
  change (rcount f 0 2).2 = 0 ∨ (rcount f 0 2).2 = 1 ∨ (rcount f 0 2).2 = 2 at hkc
  generalize (rcount f 0 2).2 = kd at *
  clear hr1 k1 k2
  have HG := Lib.hid hG
  clear hG
  generalize Ex Noone w w1 = G at *
  go_wp2_with fail
  refine (readerCount_any q _ _ 1099511627776 _ hr2 (by omega) (by omega)).mono ?_
  rintro e w3 ⟨rfl, hr3, k3⟩
  have K3 := K2.fin k3 (fun j c => Or.inr (by subst c; exact hq))
  change Rd G w3 q (rcb f).1.1 (rcb f).1.2 at hr3
  have EB := Lib.hid (show (rcb f).2 = (rcount (rc2 f).1.1 (rc2 f).1.2 1099511627776).2 from rfl)
  have hbb : (rcount (rc2 f).1.1 (rc2 f).1.2 1099511627776).2 ≤ 1099511627776 := rcount_most _ _ _
  generalize (rcount (rc2 f).1.1 (rc2 f).1.2 1099511627776).2 = bo at *
  clear hr2 k3 K2
  go_wp2_with fail
  refine (readerCount_any q _ _ 1099511627776 _ hr3 (by omega) (by omega)).mono ?_
  rintro e w4 ⟨rfl, hr4, k4⟩
  have K4 := K3.fin k4 (fun j c => Or.inr (by subst c; exact hq))
  change Rd G w4 q (rcn f).1.1 (rcn f).1.2 at hr4
  have EN := Lib.hid (show (rcn f).2 = (rcount (rcb f).1.1 (rcb f).1.2 1099511627776).2 from rfl)
  have hnb : (rcount (rcb f).1.1 (rcb f).1.2 1099511627776).2 ≤ 1099511627776 := rcount_most _ _ _
  generalize (rcount (rcb f).1.1 (rcb f).1.2 1099511627776).2 = nu at *
  clear hr3 k4 K3
  have hgm := heap_alloc_new w4 (.cells #[.int .i64 (bo : Int), .int .i64 (nu : Int)] 68)
  obtain ⟨g0, g1, -, -⟩ := cells_two hgm
  have hqg : q < w4.heap.size := hr4.lt.1
  have hr5 := hr4.keep ((Kp.refl Noone w4).alloc (.cells #[.int .i64 (bo : Int), .int .i64 (nu : Int)] 68))
  have K5 := K4.alloc (.cells #[.int .i64 (bo : Int), .int .i64 (nu : Int)] 68)
  have hgs : w.heap.size ≤ w4.heap.size := K4.size
  clear hr4 K4
  go_upto_if 27 with fail
  generalize w4.alloc (.cells #[.int .i64 (bo : Int), .int .i64 (nu : Int)] 68) = w5 at *
  generalize w4.heap.size = g at *
  go_cut [10, 11] from 13 (fun v10 v11 wx => ∃ (base : Nat) (xo : Option Addr) (xc : Nat) (data left : List UInt8) (bad : Nat), v11 = .int .i64 (base : Int) ∧ v10 = .slice xo data.length xc ∧ base ≤ 1099511627776 ∧ Rd G wx q left bad ∧ Own (fun j => w.heap.size ≤ j ∧ j ≠ q) wx 5 1 xo data.length xc (bv data) ∧ Kp Noone w wx ∧ Hid (parse f = ⟨kd, bo, nu, base, data, rdone left bad⟩) ∧ wx.heap[g]? = some (.cells #[.int .i64 (bo : Int), .int .i64 (nu : Int)] 68 (0, 0)))
  case first =>
    by_cases hk1 : kd = 1
    · subst hk1
      have hll : (rco f).1.1.length ≤ f.length := Nat.le_trans (rcount_len _ _ _) (Nat.le_trans (rcount_len _ _ _) (Nat.le_trans (rcount_len _ _ _) (rcount_len _ _ _)))
      go_wp2_with fail
      refine (readerCount_any q _ _ 1099511627776 _ hr5 (by omega) (by omega)).mono ?_
      rintro e w6 ⟨rfl, hr6, k6⟩
      have K6 := K5.fin k6 (fun j c => Or.inr (by subst c; exact hq))
      have hgm6 := k6.heap hgm (by omega)
      change Rd G w6 q (rco f).1.1 (rco f).1.2 at hr6
      have EO := Lib.hid (show (rco f).2 = (rcount (rcn f).1.1 (rcn f).1.2 1099511627776).2 from rfl)
      have hob : (rcount (rcn f).1.1 (rcn f).1.2 1099511627776).2 ≤ 1099511627776 := rcount_most _ _ _
      generalize (rcount (rcn f).1.1 (rcn f).1.2 1099511627776).2 = ol at *
      clear hr5 k6 K5 hgm g0 g1
      go_wp2_with fail
      refine (readerText_any q _ _ 65536 _ hr6 (by omega) (by omega) (by omega)).mono ?_
      rintro e w7 ⟨xo, xc, rfl, ho7, hr7, k7⟩
      have K7 := K6.fin k7 (fun j c => Or.inr (by subst c; exact hq))
      have hgm7 := k7.heap hgm6 (by omega)
      have hsz := K6.size
      have hql := hr6.lt.1
      have hoo := ho7.mono (G := fun j => w.heap.size ≤ j ∧ j ≠ q) (fun j _ c => by have := (Ex.none c).1; omega)
      have ET := Lib.hid (show rct f = rtext (rco f).1.1 (rco f).1.2 65536 from rfl)
      have HF : Hid (parse f = ⟨1, bo, nu, ol, (rtext (rco f).1.1 (rco f).1.2 65536).2, rdone (rtext (rco f).1.1 (rco f).1.2 65536).1.1 (rtext (rco f).1.1 (rco f).1.2 65536).1.2⟩) := Lib.hid (by
        unfold parse
        rw [if_pos EK.out, EB.out, EN.out, EO.out, ET.out])
      clear ho7 hr6 hgm6 k7 K6
      generalize (rtext (rco f).1.1 (rco f).1.2 65536).2 = data at *
      go_wp2_with fail
      go_meet
      case rel => exact ⟨ol, xo, xc, data, _, _, rfl, rfl, hob, hr7, hoo, K7, HF, hgm7⟩
    · have HF : Hid (parse f = ⟨kd, bo, nu, nu, [], rdone (rcn f).1.1 (rcn f).1.2⟩) := Lib.hid (by
        unfold parse
        rw [if_neg (by rw [EK.out]; exact hk1), EK.out, EB.out, EN.out])
      go_wp2_with fail
      go_meet
      case rel => exact ⟨nu, none, 0, [], _, _, rfl, rfl, hnb, hr5, Own.nil _ _ _ _ _, K5, HF, hgm⟩
  case rest =>
  obtain ⟨base, xo, xc, data, left, bad, rfl, rfl, hbl, hr6, hx6, K6, HF, hgm6⟩ := hcut
  clear hgm g0 g1 hr5 K5
  have hbad : bad ≤ 13 := hr6.lt.2
  go_wp2_with fail
  refine (readerDone_any q left bad _ hr6).mono ?_
  rintro e w7 ⟨rfl, hr7, k7⟩
  have K7 := K6.fin k7 (fun j c => Or.inr (by subst c; exact hq))
  have hgm7 := k7.heap hgm6 (by omega)
  have hx7 := hx6.kp k7 (fun j c d => c.2 d)
  have hdb : rdone left bad ≤ 13 := hr7.lt.2
  have HL7 := Lib.hid (HL.out.keep K7)
  have HC7 := Lib.hid (HC.out.keep K7.size)
  have hB7 : B ≤ w7.heap.size := Nat.le_trans hBw K7.size
  have hsame : Hid (∀ w', Kp Noone w7 w' → LkTo B col i w p s w') := Lib.hid (fun w' k => by
    have hl := HL7.out.keep k
    exact ⟨col, r, HC7.out.keep k.size, fun _ _ => rfl, fun k' hk hn => by have := HC.out k' hn; omega, (K7.trans k).none, hl⟩)
  have HR2 : Hid (inF s ⟨kd, bo, nu, base, data, rdone left bad⟩ = (s', x, ok, er)) := Lib.hid (by rw [← HF.out]; exact HR.out)
  generalize rdone left bad = db at *
  clear hr6 k7 hgm6 hx6 K6 HF HR hr7 HL
  obtain ⟨g0, g1, -, -⟩ := cells_two hgm7
  by_cases hd0 : db = 0
  · subst hd0
    by_cases z0 : kd = 0
    · have HE : Hid (s = s' ∧ [] = x ∧ false = ok ∧ 26 = er) := Lib.hid (by
        have e := HR2.out
        unfold inF at e
        rw [if_neg (by simp), if_pos (Or.inl z0)] at e
        simpa using e)
      subst z0
      go_wp2_with fail
      go_ret3
      obtain ⟨rfl, rfl, rfl, rfl⟩ := HE.out
      exact ⟨none, 0, rfl, (hsame.out _ (Kp.refl _ _)).by_none none⟩
    by_cases z1 : bo = 0
    · have HE : Hid (s = s' ∧ [] = x ∧ false = ok ∧ 26 = er) := Lib.hid (by
        have e := HR2.out
        unfold inF at e
        rw [if_neg (by simp), if_pos (Or.inr (Or.inl z1))] at e
        simpa using e)
      subst z1
      go_wp2_with fail
      go_ret3
      obtain ⟨rfl, rfl, rfl, rfl⟩ := HE.out
      exact ⟨none, 0, rfl, (hsame.out _ (Kp.refl _ _)).by_none none⟩
    by_cases z2 : nu = 0
    · have HE : Hid (s = s' ∧ [] = x ∧ false = ok ∧ 26 = er) := Lib.hid (by
        have e := HR2.out
        unfold inF at e
        rw [if_neg (by simp), if_pos (Or.inr (Or.inr (Or.inl z2)))] at e
        simpa using e)
      subst z2
      go_wp2_with fail
      go_ret3
      obtain ⟨rfl, rfl, rfl, rfl⟩ := HE.out
      exact ⟨none, 0, rfl, (hsame.out _ (Kp.refl _ _)).by_none none⟩
    by_cases z3 : base = 0
    · have HE : Hid (s = s' ∧ [] = x ∧ false = ok ∧ 26 = er) := Lib.hid (by
        have e := HR2.out
        unfold inF at e
        rw [if_neg (by simp), if_pos (Or.inr (Or.inr (Or.inr (Or.inl z3))))] at e
        simpa using e)
      subst z3
      go_wp2_with fail
      go_ret3
      obtain ⟨rfl, rfl, rfl, rfl⟩ := HE.out
      exact ⟨none, 0, rfl, (hsame.out _ (Kp.refl _ _)).by_none none⟩
    by_cases z4 : nu < base
    · have HE : Hid (s = s' ∧ [] = x ∧ false = ok ∧ 26 = er) := Lib.hid (by
        have e := HR2.out
        unfold inF at e
        rw [if_neg (by simp), if_pos (Or.inr (Or.inr (Or.inr (Or.inr z4))))] at e
        simpa using e)
      go_wp2_with fail
      go_ret3
      obtain ⟨rfl, rfl, rfl, rfl⟩ := HE.out
      exact ⟨none, 0, rfl, (hsame.out _ (Kp.refl _ _)).by_none none⟩
    have HR3 : Hid ((if kd = 2 then (ackedF s bo nu, [], false, 0) else if (freshF s bo nu base).2 then ((freshF s bo nu base).1, data, true, 0) else ((freshF s bo nu base).1, [], false, 0)) = (s', x, ok, er)) := Lib.hid (by
      have e := HR2.out
      unfold inF at e
      rw [if_neg (by simp), if_neg (show ¬ (kd = 0 ∨ bo = 0 ∨ nu = 0 ∨ base = 0 ∨ nu < base) by omega)] at e
      exact e)
    clear HR2
    have e1 : ((bo : Int) == 0) = false := by simp; omega
    have e2 : ((nu : Int) == 0) = false := by simp; omega
    have e3 : ((base : Int) == 0) = false := by simp; omega
    have e4 : ¬ ((nu : Int) < (base : Int)) := by omega
    by_cases hk2 : kd = 2
    · have HE : Hid (ackedF s bo nu = s' ∧ [] = x ∧ false = ok ∧ 0 = er) := Lib.hid (by
        have e := HR3.out
        rw [if_pos hk2] at e
        simpa using e)
      subst hk2
      go_wp2_with fail
      refine (acked_at B col i p s r bo nu w7 HL7.out HC7.out hok hB7).mono ?_
      rintro e w8 ⟨rfl, hto⟩
      go_wp2_with fail
      go_ret3
      obtain ⟨rfl, rfl, rfl, rfl⟩ := HE.out
      exact ⟨none, 0, rfl, (hto.from HC.out K7).by_none none⟩
    · have HR4 : Hid ((if (freshF s bo nu base).2 then ((freshF s bo nu base).1, data, true, 0) else ((freshF s bo nu base).1, [], false, 0)) = (s', x, ok, er)) := Lib.hid (by
        have e := HR3.out
        rw [if_neg hk2] at e
        exact e)
      have hk1 : kd = 1 := by omega
      clear HR3 hkc hk2 z0
      subst hk1
      have HFR := fresh_at B col i p s r bo nu base w7 HL7.out HC7.out hok hB7 (by omega) (by omega) (by omega) (freshF s bo nu base).1 (freshF s bo nu base).2 rfl
      go_wp2_with fail
      refine HFR.mono ?_
      clear HFR
      generalize freshF s bo nu base = fr at *
      obtain ⟨fs, fk⟩ := fr
      rintro e w8 ⟨rfl, hto⟩
      simp only [] at hto
      cases fk with
      | true =>
        have HE : Hid (fs = s' ∧ data = x ∧ true = ok ∧ 0 = er) := Lib.hid (by simpa using HR4.out)
        clear HR4
        go_wp2_with fail
        go_ret3
        obtain ⟨rfl, rfl, rfl, rfl⟩ := HE.out
        exact ⟨xo, xc, rfl, hto.by_from HC.out K7 hx7 (fun j c => c.1)⟩
      | false =>
        have HE : Hid (fs = s' ∧ [] = x ∧ false = ok ∧ 0 = er) := Lib.hid (by simpa using HR4.out)
        clear HR4
        go_wp2_with fail
        go_ret3
        obtain ⟨rfl, rfl, rfl, rfl⟩ := HE.out
        exact ⟨none, 0, rfl, (hto.from HC.out K7).by_none none⟩
  · have hdn : ((db : Int) != 0) = true := by simp; omega
    have HE : Hid (s = s' ∧ [] = x ∧ false = ok ∧ db = er) := Lib.hid (by
      have e := HR2.out
      unfold inF at e
      rw [if_pos hd0] at e
      simpa using e)
    go_wp2_with fail
    go_ret3
    obtain ⟨rfl, rfl, rfl, rfl⟩ := HE.out
    exact ⟨none, 0, rfl, (hsame.out _ (Kp.refl _ _)).by_none none⟩

end Go.Proofs.Ytlpdoefbjhlegaa
