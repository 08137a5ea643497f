/-
  The texts SnapPlain, SnapSim, SnapWalk, SnapRead, SnapLay, SnapLoad, SnapRefAll, WalName, SnapSteps, WalPlain in one: what the claim reaches of them.
-/
import Derived.Test.YtgbgbokcohfnpaaGreatP03
import Derived.Test.YtgbgbokcohfnpaaGreatP06
import Derived.Lib.Strings
import Derived.Test.YtgbgbokcohfnpaaGreatP05
import Derived.Deep.RegionHeld3
import Derived.Deep.MidRow
import Derived.Laws.ResultCell
import Derived.Test.YtgbgbokcohfnpaaGreatP04
import Derived.Lib.Walk
import Derived.Lib.Slices
import Derived.Laws.Strings3
import Derived.Deep.RegionLaw
import Derived.Lib.SlBytesConst
/-
  A CHECKPOINT'S PLACE ON A DISK, in plain Lean: what Save, Load and Clean do.
-/
namespace Go.Proofs.YtgbgbokcohfnpaaGreat
open Go.RowKit

def ckNow : ByteArray := { data := #[99, 107, 45, 110, 111, 119] }
def ckTmp : ByteArray := { data := #[99, 107, 45, 116, 109, 112] }
def ckA : ByteArray := { data := #[99, 107, 45, 97] }
def ckB : ByteArray := { data := #[99, 107, 45, 98] }
def areaN (t : Nat) : ByteArray := if t % 2 = 0 then ckA else ckB
structure Pap where
  turn : Nat
  slot : Nat
  sum : Nat
def sealL (l : List UInt8) : List UInt8 := l ++ eightL (sumN l)
def paperL (t s sum : Nat) : List UInt8 := sealL (numL t ++ numL s ++ numL sum)
def pap0 : Pap := ⟨0, 0, 0⟩
def papR1 (c : List UInt8) : (List UInt8 × Nat) × Nat := rcount c 0 1099511627776
def papR2 (c : List UInt8) : (List UInt8 × Nat) × Nat := rcount (papR1 c).1.1 (papR1 c).1.2 1099511627776
def papR3 (c : List UInt8) : (List UInt8 × Nat) × Nat := rnum (papR2 c).1.1 (papR2 c).1.2
def papR (c : List UInt8) : Pap × Nat := (⟨(papR1 c).2, (papR2 c).2, (papR3 c).2⟩, rdone (papR3 c).1.1 (papR3 c).1.2)
def readPF (b : List UInt8) : Pap × Nat := if openE b ≠ 0 then (pap0, 44) else if (papR (openL b)).2 ≠ 0 ∨ (papR (openL b)).1.turn = 0 then (pap0, 44) else ((papR (openL b)).1, 0)
def currentF (s : DS) : Pap × Nat := if (readF s ckNow).2 = 0 then readPF (readF s ckNow).1 else if (readF s ckNow).2 = 41 then (pap0, 0) else (pap0, (readF s ckNow).2)
def layEnd (r : DS × Nat) (k : ByteArray) : DS × Nat := if r.2 = 42 then (if (dropF r.1 k).2 ≠ 0 then dropF r.1 k else ((dropF r.1 k).1, 42)) else r
def layF (s : DS) (k : ByteArray) (b : List UInt8) : DS × Nat :=
  if (dropF s k).2 ≠ 0 ∧ (dropF s k).2 ≠ 41 then dropF s k
  else if (appendF (dropF s k).1 k b).2 ≠ 0 then appendF (dropF s k).1 k b
  else layEnd (syncF (appendF (dropF s k).1 k b).1 k) k
def saveD (r : DS × Nat) : DS × Nat := if r.2 = 41 then (r.1, 0) else r
def saveC (r : DS × Nat) (t : Nat) : DS × Nat := if r.2 ≠ 0 then r else if 0 < t then saveD (dropF r.1 (areaN t)) else (r.1, 0)
def saveB (r : DS × Nat) (t : Nat) : DS × Nat := if r.2 ≠ 0 then r else saveC (moveF r.1 ckTmp ckNow) t
def saveA (r : DS × Nat) (t slot sum : Nat) : DS × Nat := if r.2 ≠ 0 then r else saveB (layF r.1 ckTmp (paperL (t + 1) slot sum)) t
def saveF (s : DS) (slot : Int) (b : List UInt8) : DS × Nat :=
  if slot < 0 ∨ 1099511627776 < slot then (s, 1)
  else if 16384 < b.length then (s, 12)
  else if (currentF s).2 ≠ 0 then (s, (currentF s).2)
  else if 1099511627776 ≤ (currentF s).1.turn then (s, 43)
  else saveA (layF s (areaN ((currentF s).1.turn + 1)) b) (currentF s).1.turn slot.toNat (sumN b)
/-! ### Bounds -/

theorem dropF_steps (s : DS) (k : ByteArray) : (dropF s k).1.steps ≤ s.steps + 1 := by
  unfold dropF stepF
  split
  · simp; omega
  · split
    · split <;> simp <;> omega
    · split <;> simp <;> omega
theorem appendF_steps (s : DS) (k : ByteArray) (d : List UInt8) : (appendF s k d).1.steps ≤ s.steps + 1 := by
  unfold appendF
  split
  · simp; omega
  · split
    · simp; omega
    · split
      · simp; omega
      · unfold stepF putF; split <;> simp <;> omega
theorem syncF_steps (s : DS) (k : ByteArray) : (syncF s k).1.steps ≤ s.steps + 1 := by
  unfold syncF
  split
  · simp; omega
  · split
    · simp; omega
    · unfold stepF putF; split <;> split <;> simp <;> omega
end Go.Proofs.YtgbgbokcohfnpaaGreat

/-
  THE DOCUMENT'S Save, Load, Clean (synodref10) in plain Lean, side by side with the code's.
-/
namespace Go.Proofs.YtgbgbokcohfnpaaGreat
open Go.RowKit

def oDrop (k : ByteArray) : OpD := ⟨4, k, ByteArray.empty, [], 0, []⟩
def oApp (k : ByteArray) (b : List UInt8) : OpD := ⟨0, k, ByteArray.empty, b, 0, []⟩
def oSync (k : ByteArray) : OpD := ⟨1, k, ByteArray.empty, [], 0, []⟩
def doE (m : RD) (o : OpD) : RD × Nat := ((doR m o).1, (doR m o).2.2)
def S2 (a : RD × Nat) (b : DS × Nat) : Prop := Sim a.1 b.1 ∧ a.2 = b.2
theorem sim_drop {m : RD} {s : DS} (h : Sim m s) (hd : DOk s) (k : ByteArray) : S2 (doE m (oDrop k)) (dropF s k) := by
  have h1 := sim_do h hd (oDrop k)
  exact ⟨h1.1, congrArg Prod.snd h1.2⟩
theorem sim_app {m : RD} {s : DS} (h : Sim m s) (hd : DOk s) (k : ByteArray) (b : List UInt8) : S2 (doE m (oApp k b)) (appendF s k b) := by
  have h1 := sim_do h hd (oApp k b)
  exact ⟨h1.1, congrArg Prod.snd h1.2⟩
theorem sim_sync {m : RD} {s : DS} (h : Sim m s) (hd : DOk s) (k : ByteArray) : S2 (doE m (oSync k)) (syncF s k) := by
  have h1 := sim_do h hd (oSync k)
  exact ⟨h1.1, congrArg Prod.snd h1.2⟩
end Go.Proofs.YtgbgbokcohfnpaaGreat

/-
  THE WALK of snap: area, a paper's bytes, how a paper is read.
-/
namespace Go.Proofs.YtgbgbokcohfnpaaGreat
open Go.RowKit

theorem length_sealL (l : List UInt8) : (sealL l).length = l.length + 8 := by unfold sealL; rw [List.length_append, length_eightL]
end Go.Proofs.YtgbgbokcohfnpaaGreat

/-
  THE WALK of snap: read, current.
-/
namespace Go.Proofs.YtgbgbokcohfnpaaGreat
open Go.RowKit

theorem there_row3 {w : World} {g e : Nat} {cs : Array Value} (h : w.heap[g]? = some (.cells cs e (0, 0))) : w.there g 0 cs.size := by
  intro j hj
  refine ⟨?_, by simp [World.frozen?, h]⟩
  rw [Nat.zero_add, cell_of_row w g j cs e (0, 0) h, Array.getElem?_eq_getElem hj]
  rfl
end Go.Proofs.YtgbgbokcohfnpaaGreat

/-
  THE WALK of snap: lay.
-/
namespace Go.Proofs.YtgbgbokcohfnpaaGreat
open Go.RowKit

theorem Ext.data {B i : Nat} {col col' : Nat → Nat} {w w' : World} {ao : Option Addr} {n cap : Nat} {l : List UInt8} (x : Ext B (S3 i) col w col' w') (h : DataP (fun j => col j = 0) w ao n cap l) : DataP (fun j => col' j = 0) w' ao n cap l :=
  ((h.mono (Q := fun j => col j = 0 ∧ j < w.heap.size) (fun _ hj c => ⟨c, hj⟩)).kp x.kp (fun _ _ c e => by rw [c.1] at e; unfold S3 at e; omega)).mono (fun j _ c => (x.old j c.2).trans c.1)
theorem Own.data0 {B : Nat} {col : Nat → Nat} {w w' : World} {ao : Option Addr} {n cap : Nat} {l : List UInt8} (h : Own (Ex Noone w w') w' 5 1 ao n cap (bv l)) (hc : Cols B w col) : DataP (fun j => col j = 0) w' ao n cap l :=
  (h.mono (G := fun j => col j = 0) (fun _ _ c => cols_new hc (Ex.none c).1)).dataP

attribute [local irreducible] dropF appendF syncF
end Go.Proofs.YtgbgbokcohfnpaaGreat

/-
  THE WALK of snap: Load, Clean.
-/
namespace Go.Proofs.YtgbgbokcohfnpaaGreat
open Go.RowKit

set_option maxHeartbeats 1000000 in
theorem pre_lite (s p : ByteArray) (w : World) : Calls Tryz.prog 203 #[.string s, .string p] w fun e w' => e = .returned (.bool (Lib.hasPrefix s.data.toList p.data.toList)) ∧ w = w' := by
  rw [← Lib.hasPrefix_of_take, ← Lib.size_eq, ← Lib.size_eq]
  go_enter Tryz.func203, Tryz.ntmps203
  go_wp2
  · rename_i h
    go_ret
    refine ⟨?_, rfl⟩
    show Ending.returned (Value.bool ((s.extract 0 p.size).toList == p.toList)) = _
    rw [Lib.extract_toList, Lib.toList_data]
    simp [h]
  · rename_i h
    go_ret
    refine ⟨?_, rfl⟩
    show Ending.returned (Value.bool false) = _
    simp [h]
/-- What Load answers. -/
structure LoadTo (w : World) (R : Nat × List UInt8 × Bool × Nat) (e : Ending) (w' : World) : Prop where
  ex : ∃ bo c, e = .returned (.tuple #[.int .i64 (R.1 : Int), .slice bo R.2.1.length c, .bool R.2.2.1, .int .i64 (R.2.2.2 : Int)]) ∧ Own (fun j => w.heap.size ≤ j) w' 5 1 bo R.2.1.length c (bv R.2.1) ∧ Kp Noone w w'
theorem LoadTo.zero (w w' : World) (E : Nat) (k : Kp Noone w w') : LoadTo w (0, [], false, E) (.returned (.tuple #[.int .i64 0, .slice none 0 0, .bool false, .int .i64 (E : Int)])) w' :=
  ⟨⟨none, 0, rfl, Own.nil _ _ _ _ _, k⟩⟩

attribute [local irreducible] currentF readF
end Go.Proofs.YtgbgbokcohfnpaaGreat

/-
  SnapRefA, SnapRefB, SnapRefC, SnapRefD, SnapRefE in one text.
-/
/-
  THE WALK of the document's snap: Area, Paper.
-/
namespace Go.Proofs.YtgbgbokcohfnpaaGreat
open Go.RowKit

end Go.Proofs.YtgbgbokcohfnpaaGreat

/-
  THE WALK of the document's snap: Current.
-/
namespace Go.Proofs.YtgbgbokcohfnpaaGreat
open Go.RowKit

end Go.Proofs.YtgbgbokcohfnpaaGreat

/-
  THE WALK of the document's snap: lay.
-/
namespace Go.Proofs.YtgbgbokcohfnpaaGreat
open Go.RowKit

attribute [local irreducible] doE
end Go.Proofs.YtgbgbokcohfnpaaGreat

/-
  THE WALK of the document's snap: Load.
-/
namespace Go.Proofs.YtgbgbokcohfnpaaGreat
open Go.RowKit

/-- What Load answers. -/
structure LdTo (w : World) (R : Nat × List UInt8 × Bool × Nat) (e : Ending) (w' : World) : Prop where
  ex : ∃ bo c, e = .returned (.tuple #[.int .i64 (R.1 : Int), .slice bo R.2.1.length c, .bool R.2.2.1, .int .i64 (R.2.2.2 : Int)]) ∧ BS w' bo R.2.1.length c R.2.1 ∧ Kp Noone w w'
theorem LdTo.zero (w w' : World) (E : Nat) (k : Kp Noone w w') : LdTo w (0, [], false, E) (.returned (.tuple #[.int .i64 0, .slice none 0 0, .bool false, .int .i64 (E : Int)])) w' :=
  ⟨⟨none, 0, rfl, BS.nil _ _, k⟩⟩

end Go.Proofs.YtgbgbokcohfnpaaGreat

/-
  THE WALK of the document's snap: Save.
-/
namespace Go.Proofs.YtgbgbokcohfnpaaGreat
open Go.RowKit

/-- A region to whose end every order comes with one frame, but for two letters. -/
theorem wp_region_two {P : Program} {id : Nat} {ops : Array Oper} {b : Bool} {Q : Exit → Act → World → Prop} {a : Act} {w : World} {F : Option Addr → Nat → Act} {G : Option Addr → Nat → World → Prop}
    (h : (Code.region id ops b).wp P (NoPanic fun e a' w' => e = .normal ∧ ∃ ao cap, a' = F ao cap ∧ G ao cap w') a w) (k : ∀ ao cap w', G ao cap w' → Q .normal (F ao cap) w') : (Code.region id ops b).wp P Q a w :=
  Code.wp_mono (fun e a' w' q => by
    obtain ⟨rfl, ao, cap, rfl, hg⟩ := NoPanic.imp e a' w' q
    exact k ao cap w' hg) h

theorem wp_region_four {P : Program} {id : Nat} {ops : Array Oper} {b : Bool} {Q : Exit → Act → World → Prop} {a : Act} {w : World} {F : Option Addr → Nat → Option Addr → Nat → Act} {G : Option Addr → Nat → Option Addr → Nat → World → Prop}
    (h : (Code.region id ops b).wp P (NoPanic fun e a' w' => e = .normal ∧ ∃ xo xc ao cap, a' = F xo xc ao cap ∧ G xo xc ao cap w') a w) (k : ∀ xo xc ao cap w', G xo xc ao cap w' → Q .normal (F xo xc ao cap) w') : (Code.region id ops b).wp P Q a w :=
  Code.wp_mono (fun e a' w' q => by
    obtain ⟨rfl, xo, xc, ao, cap, rfl, hg⟩ := NoPanic.imp e a' w' q
    exact k xo xc ao cap w' hg) h

attribute [local irreducible] doE
end Go.Proofs.YtgbgbokcohfnpaaGreat

/-
  wal: THE NAMES OF PIECES: area, number.
-/
namespace Go.Proofs.YtgbgbokcohfnpaaGreat
open Go.RowKit

def dg (x : Nat) : UInt8 := UInt8.ofNat (48 + x % 10)
def dig6 (n : Nat) : List UInt8 := [dg (n / 100000), dg (n / 10000), dg (n / 1000), dg (n / 100), dg (n / 10), dg n]
def walPre : List UInt8 := [119, 97, 108, 45]
def walL (n : Nat) : List UInt8 := walPre ++ dig6 n
def walName (n : Nat) : ByteArray := ⟨(walL n).toArray⟩
/-- The bytes behind k rounds. -/
def arrW (n k : Nat) : List UInt8 := [119, 97, 108, 45, if 5 < k then dg (n / 100000) else 48, if 4 < k then dg (n / 10000) else 48, if 3 < k then dg (n / 1000) else 48, if 2 < k then dg (n / 100) else 48, if 1 < k then dg (n / 10) else 48, if 0 < k then dg n else 48]
theorem dg_zero : dg 0 = 48 := rfl
theorem arrW_step (n k : Nat) (h : k < 6) : (arrW n k).set (9 - k) (dg (n / 10 ^ k)) = arrW n (k + 1) := by
  match k, h with
  | 0, _ => simp [arrW]
  | 1, _ => simp [arrW]
  | 2, _ => simp [arrW]
  | 3, _ => simp [arrW]
  | 4, _ => simp [arrW]
  | 5, _ => simp [arrW]
theorem arrW_done (n k : Nat) (h : n / 10 ^ k = 0) : arrW n k = walL n := by
  have hz : ∀ j, k ≤ j → n / 10 ^ j = 0 := fun j hj => by
    rw [Nat.div_eq_zero_iff] at h ⊢
    rcases h with h | h
    · exact absurd h (Nat.pos_iff_ne_zero.1 (Nat.pow_pos (by omega)))
    · exact Or.inr (Nat.lt_of_lt_of_le h (Nat.pow_le_pow_right (by omega) hj))
  have e : ∀ j, (if j < k then dg (n / 10 ^ j) else 48) = dg (n / 10 ^ j) := fun j => by
    by_cases hj : j < k
    · rw [if_pos hj]
    · rw [if_neg hj, hz j (by omega), dg_zero]
  have e0 := e 0
  have e1 := e 1
  have e2 := e 2
  have e3 := e 3
  have e4 := e 4
  have e5 := e 5
  simp only [Nat.pow_zero, Nat.pow_one, Nat.div_one, Nat.reducePow] at e0 e1 e2 e3 e4 e5
  unfold arrW walL walPre dig6
  simp only [e0, e1, e2, e3, e4, e5, List.cons_append, List.nil_append]
theorem length_walL (n : Nat) : (walL n).length = 10 := rfl
theorem length_arrW (n k : Nat) : (arrW n k).length = 10 := rfl
theorem dg_val (x : Nat) : (dg x).toNat = 48 + x % 10 := by
  unfold dg
  rw [UInt8.toNat_ofNat']
  omega
theorem heap_set_mark {w : World} {p e n : Nat} {cs : Array Value} {fr : Nat × Nat} {u : Value} (h : w.heap[p]? = some (.cells cs e fr)) : (w.setCell ⟨p, n, none⟩ u).heap[p]? = some (.cells (cs.setIfInBounds n u) e fr) := by
  simp [World.setCell, Array.getElem?_modify, h]

set_option maxHeartbeats 2000000 in
set_option maxRecDepth 100000 in
theorem area_w (n : Nat) (w : World) (hn : n ≤ 999999) : Calls Tryz.prog 54 #[.int .i64 (n : Int)] w fun e w' => e = .returned (.string (walName n)) ∧ Kp Noone w w' := by
  have kc := fun (w : World) (C : Array Value) (n c : Nat) => Lib.run_convert_bytes_const (P := Tryz.prog) w 44 5 C n c Tryz.underlying44 Tryz.underlying5
  have e0 : (bv (arrW n 0)).toArray = #[.int .u8 119, .int .u8 97, .int .u8 108, .int .u8 45, .int .u8 48, .int .u8 48, .int .u8 48, .int .u8 48, .int .u8 48, .int .u8 48] := by simp [bv, arrW, U8]
  have kA : Kp Noone w (w.alloc (.cells (bv (arrW n 0)).toArray 5 (10, 11))) := (Kp.refl _ _).alloc _
  have hA := heap_alloc_new w (.cells (bv (arrW n 0)).toArray 5 (10, 11))
  rw [e0] at kA
  have hA2 := hA
  rw [e0] at hA
  have hgl : w.heap.size ≤ w.heap.size := Nat.le_refl _
  have HK1 := Lib.hid kA
  have HN := Lib.hid hn
  have HE := Lib.hid e0
  clear e0 hA2 hn
  go_enter Tryz.func54, Tryz.ntmps54
  go_upto_region 3 with fail
  generalize w.alloc (.cells #[.int .u8 119, .int .u8 97, .int .u8 108, .int .u8 45, .int .u8 48, .int .u8 48, .int .u8 48, .int .u8 48, .int .u8 48, .int .u8 48] 5 (10, 11)) = w1 at *
  generalize hgw : w.heap.size = g at *
  clear kc hgl
  go_loopw [0, 4] (fun v u wr => ∃ k : Nat, k ≤ 6 ∧ v = .int .i64 ((n / 10 ^ k : Nat) : Int) ∧ u = .int .i64 (9 - (k : Int)) ∧ wr.heap[g]? = some (.cells (bv (arrW n k)).toArray 5 (10, 11)) ∧ Kp (fun j => j = g) w1 wr) (fun v _ _ => (intOf v).toNat)
  case atStart => exact ⟨0, by omega, by simp, by simp, by rw [HE.out]; exact hA, Kp.refl _ _⟩
  case round =>
    obtain ⟨k, hk, rfl, rfl, hb, kq⟩ := hrel
    by_cases h0 : n / 10 ^ k = 0
    · have hd := arrW_done n k h0
      rw [hd] at hb
      have hcv : (convert 44 9 (.slice (some ⟨g, 0, none⟩) 10 10)).run Tryz.prog wr = .ok (.string (walName n)) wr :=
        run_convert_bytes_back wr 44 9 5 ⟨g, 0, none⟩ 10 (walL n) Tryz.underlying44 Tryz.underlying5 Tryz.underlying9 (fun j hj => by
          rw [Addr.add_lit, cell_of_row wr g _ _ _ _ hb]
          have hj2 : j < (walL n).length := hj
          simp [bv, U8, hj2])
      rw [h0]
      have HK := Lib.hid (HK1.out.fin kq (fun j e => Or.inr (by omega)))
      clear hd kq
      go_wp2_with fail
      go_ret
      exact ⟨rfl, HK.out⟩
    · have hk6 : k < 6 := by
        by_cases h6 : k < 6
        · exact h6
        · exfalso; apply h0
          have : k = 6 := by omega
          subst this
          have := HN.out
          omega
      have hst := arrW_step n k hk6
      have hpd : n / 10 ^ (k + 1) = n / 10 ^ k / 10 := by rw [Nat.pow_succ, Nat.div_div_eq_div_mul]
      have hxl : n / 10 ^ k ≤ 999999 := Nat.le_trans (Nat.div_le_self _ _) HN.out
      obtain ⟨q, hq⟩ : ∃ q, q + k = 9 := ⟨9 - k, by omega⟩
      have hqi : (9 : Int) - (k : Int) = (q : Int) := by omega
      rw [hqi]
      rw [show 9 - k = q by omega] at hst
      have hql : q < (bv (arrW n k)).length := by rw [length_bv, length_arrW]; omega
      have hcl : wr.cell? ⟨g, q, none⟩ = some (bv (arrW n k))[q] := by
        rw [cell_of_row wr g _ _ _ _ hb]
        simp [hql]
      have hfz : wr.frozen? ⟨g, q, none⟩ = false := by
        simp [World.frozen?, hb]
        omega
      have hset : (wr.setCell ⟨g, q, none⟩ (U8 (dg (n / 10 ^ k)))).heap[g]? = some (.cells (bv (arrW n (k + 1))).toArray 5 (10, 11)) := by
        rw [heap_set_mark hb, ← hst]
        simp [bv]
      have HS := Lib.hid hset
      have HKQ := Lib.hid kq
      have HPD := Lib.hid hpd
      have hdv := dg_val (n / 10 ^ k)
      generalize n / 10 ^ k = x at *
      have hsb : IntKind.i64.wrap ((q : Int) - 1) = (q : Int) - 1 := IntWalk.i64_in _ (by omega)
      have hpos : (0 : Int) < (x : Int) := by omega
      have hv : Value.int .u8 (48 + (x : Int) % 10) = U8 (dg x) := by unfold U8; rw [hdv]; congr 1
      have HV := Lib.hid hv
      have hql2 : (q : Int) < 10 := by omega
      clear hv hset hst hpd hb kq hdv
      go_wp2_with fail
      go_roundw
      case rel => exact ⟨k + 1, by omega, by rw [HPD.out, Int.natCast_ediv]; rfl, by congr 1; omega, by rw [HV.out]; exact HS.out, Kp.setCell (S := fun j => j = g) (p := ⟨g, q, none⟩) HKQ.out (fun _ => rfl) _⟩
      case measure => simp [intOf]; omega

/-! ### number -/
def numD : List UInt8 → Nat → Nat
  | [], n => n
  | c :: r, n => if c.toNat < 48 ∨ 57 < c.toNat then 0 else numD r (10 * n + (c.toNat - 48))
theorem numD_cons (c : UInt8) (r : List UInt8) (n : Nat) : numD (c :: r) n = if c.toNat < 48 ∨ 57 < c.toNat then 0 else numD r (10 * n + (c.toNat - 48)) := rfl
theorem numD_nil (n : Nat) : numD [] n = n := rfl
def numberN (k : ByteArray) : Nat := if Lib.hasPrefix (toL k) walPre = true ∧ (toL k).length = 10 then numD ((toL k).drop 4) 0 else 0

set_option maxHeartbeats 1000000 in
theorem cut_lite (s p : ByteArray) (w : World) : Calls Tryz.prog 180 #[.string s, .string p] w fun e w' => e = .returned (.tuple (if Lib.hasPrefix s.data.toList p.data.toList = true then #[.string (s.extract p.size s.size), .bool true] else #[.string s, .bool false])) ∧ w = w' := by
  by_cases hp : Lib.hasPrefix s.data.toList p.data.toList = true
  · rw [if_pos hp]
    have hl : p.size ≤ s.size := by
      have h2 := hp
      rw [← Lib.hasPrefix_of_take] at h2
      simp at h2
      exact h2.1
    have hl2 : (p.size : Int) ≤ (s.size : Int) := by omega
    go_enter Tryz.func180, Tryz.ntmps180
    go_wp2_with fail
    refine (pre_lite _ _ _).mono ?_
    rw [hp]
    rintro e w' ⟨rfl, rfl⟩
    go_wp2_with fail
    go_ret2
    exact ⟨rfl, rfl⟩
  · rw [if_neg hp]
    have hp2 : Lib.hasPrefix s.data.toList p.data.toList = false := by simpa using hp
    go_enter Tryz.func180, Tryz.ntmps180
    go_wp2_with fail
    refine (pre_lite _ _ _).mono ?_
    rw [hp2]
    rintro e w' ⟨rfl, rfl⟩
    go_wp2_with fail
    go_ret2
    exact ⟨rfl, rfl⟩
theorem wal_lit : (ByteArray.mk #[119, 97, 108, 45]).data.toList = walPre := rfl
set_option maxHeartbeats 1000000 in
theorem cut_any (k : ByteArray) (w : World) : Calls Tryz.prog 149 #[.string k, .string { data := #[119, 97, 108, 45] }] w fun e w' => e = .returned (.tuple (if Lib.hasPrefix (toL k) walPre = true then #[.string (k.extract 4 k.size), .bool true] else #[.string k, .bool false])) ∧ w = w' := by
  go_enter Tryz.func149, Tryz.ntmps149
  go_wp2_with fail
  refine (cut_lite _ _ _).mono ?_
  rw [wal_lit]
  rintro e w' ⟨rfl, rfl⟩
  by_cases hp : Lib.hasPrefix k.data.toList walPre = true
  · have hp2 : Lib.hasPrefix (toL k) walPre = true := hp
    rw [if_pos hp]
    go_wp2_with fail
    go_ret2
    exact ⟨rfl, rfl⟩
  · have hp2 : ¬ Lib.hasPrefix (toL k) walPre = true := hp
    rw [if_neg hp]
    go_wp2_with fail
    go_ret2
    exact ⟨rfl, rfl⟩

set_option maxHeartbeats 2000000 in
theorem number_w (k : ByteArray) (w : World) (hk : k.size ≤ 24) : Calls Tryz.prog 102 #[.string k] w fun e w' => e = .returned (.int .i64 (numberN k : Int)) ∧ Kp Noone w w' := by
  obtain ⟨RES, hRES⟩ : ∃ x, Hid (numberN k = x) := ⟨_, Lib.hid rfl⟩
  rw [hRES.out]
  have HR := hRES.out
  unfold numberN at HR
  have hcut := cut_any k w
  have hlk : (toL k).length = k.size := by simp [toL]
  by_cases hp : Lib.hasPrefix (toL k) walPre = true
  case neg =>
    rw [if_neg (fun c => hp c.1)] at HR
    rw [if_neg hp] at hcut
    subst HR
    clear hRES hp hlk
    go_enter Tryz.func102, Tryz.ntmps102
    go_wp2_with fail
    refine hcut.mono ?_
    rintro e w' ⟨rfl, rfl⟩
    go_wp2_with fail
    go_ret
    exact ⟨rfl, Kp.refl _ _⟩
  rw [if_pos hp] at hcut
  have h4 : 4 ≤ k.size := by
    have h2 := hp
    rw [← Lib.hasPrefix_of_take] at h2
    have e : walPre.length = 4 := rfl
    simp [e] at h2
    omega
  have hrs : (k.extract 4 k.size).size = k.size - 4 := by rw [ByteArray.size_extract]; omega
  have hrd : (k.extract 4 k.size).data.toList = (toL k).drop 4 := by
    have h := Lib.extract_toList k 4 k.size
    rw [Lib.toList_data] at h
    rw [h]
    exact List.take_of_length_le (by rw [List.length_drop]; have : k.data.toList.length = k.size := length_bytes k; omega)
  generalize k.extract 4 k.size = r at *
  by_cases h10 : k.size = 10
  case neg =>
    rw [if_neg (fun c => h10 (by omega))] at HR
    subst HR
    have hne : ((r.size : Int) != 6) = true := by simp; omega
    clear hRES hp hlk hrs hrd h4 h10
    go_enter Tryz.func102, Tryz.ntmps102
    go_wp2_with fail
    refine hcut.mono ?_
    rintro e w' ⟨rfl, rfl⟩
    go_wp2_with fail
    go_ret
    exact ⟨rfl, Kp.refl _ _⟩
  rw [if_pos ⟨hp, by omega⟩, ← hrd] at HR
  have hr6 : r.size = 6 := by omega
  have hcv := fun w => run_conv r w
  have hbs := convW_bs r w (by unfold maxLen; omega)
  have hkp := convW_kp r w
  rw [hr6] at hcv hbs
  have HRR := Lib.hid HR
  have HBS := Lib.hid hbs
  have HKP := Lib.hid hkp
  have hn6 : ((r.size : Int) != 6) = false := by rw [hr6]; rfl
  clear hRES hp hlk hrs hrd h4 h10 HR hbs hkp
  go_enter Tryz.func102, Tryz.ntmps102
  go_wp2_with fail
  refine hcut.mono ?_
  clear hcut
  rintro e w' ⟨rfl, rfl⟩
  go_wp2_with fail
  generalize convC r w = cc at *
  generalize convW r w = w1 at *
  generalize hD : r.data.toList = D at *
  clear hcv hn6
  go_loopw [23, 5] (fun v u wr => ∃ j m : Nat, j ≤ 6 ∧ v = .int .i64 (j : Int) ∧ u = .int .i64 (m : Int) ∧ m < 10 ^ j ∧ numD D 0 = numD (D.drop j) m ∧ wr = w1) (fun v _ _ => 6 - (intOf v).toNat)
  case atStart => exact ⟨0, 0, by omega, rfl, rfl, by omega, rfl, rfl⟩
  case round =>
    obtain ⟨j, m, hj, rfl, rfl, hm, hnd, rfl⟩ := hrel
    by_cases hlt : j < 6
    · obtain ⟨b, off, hl, hgo, -, hc⟩ := HBS.out.at hlt
      cases hgo
      rw [Nat.zero_add] at hc
      rw [show D.drop j = D[j] :: D.drop (j + 1) from (List.getElem_cons_drop hl).symm] at hnd
      rw [numD_cons] at hnd
      have hcb : D[j].toNat ≤ 255 := by have := UInt8.toNat_lt D[j]; omega
      generalize D[j].toNat = c at *
      have hlim : 10 ^ j ≤ 100000 := by
        have : 10 ^ j ≤ 10 ^ 5 := Nat.pow_le_pow_right (by omega) (by omega)
        simpa using this
      by_cases hbad : c < 48 ∨ 57 < c
      · rw [if_pos hbad] at hnd
        have HR := HRR.out
        rw [hnd] at HR
        subst HR
        have hcs : ((c : Int) < 48) ∨ (¬ (c : Int) < 48 ∧ (57 : Int) < (c : Int)) := by omega
        clear hbad hnd hlim hm
        rcases hcs with h1 | ⟨h1, h2⟩
        all_goals (
          go_wp2_with fail
          go_ret
          exact ⟨rfl, HKP.out⟩)
      · rw [if_neg hbad] at hnd
        have h1 : ¬ (c : Int) < 48 := by omega
        have h2 : ¬ (57 : Int) < (c : Int) := by omega
        have HND := Lib.hid hnd
        have hp10 : 10 ^ (j + 1) = 10 * 10 ^ j := by rw [Nat.pow_succ]; omega
        have hw1 : IntKind.i64.wrap (10 * (m : Int)) = 10 * (m : Int) := IntWalk.i64_in _ (by omega)
        have hw2 : IntKind.u8.wrap ((c : Int) - 48) = (c : Int) - 48 := IntWalk.u8_in _ (by omega)
        have hw3 : IntKind.i64.wrap (10 * (m : Int) + ((c : Int) - 48)) = ((10 * m + (c - 48) : Nat) : Int) := by rw [IntWalk.i64_in _ (by omega)]; omega
        have hw4 : IntKind.i64.wrap ((j : Int) + 1) = (j : Int) + 1 := IntWalk.i64_in _ (by omega)
        have hfin : Hid (10 * m + (c - 48) < 10 ^ (j + 1)) := Lib.hid (by omega)
        clear hbad hnd hp10
        go_wp2_with fail
        go_roundw
        case rel => exact ⟨j + 1, 10 * m + (c - 48), by omega, by go_num, by go_num, hfin.out, HND.out, trivial⟩
        case measure => simp [intOf]; omega
    · have HR := HRR.out
      rw [hnd, List.drop_of_length_le (by have := HBS.out.len; omega)] at HR
      rw [numD_nil] at HR
      subst HR
      clear hnd hm
      go_wp2_with fail
      go_ret
      exact ⟨rfl, HKP.out⟩

end Go.Proofs.YtgbgbokcohfnpaaGreat

/-
  SAVE, LOAD, CLEAN on a disk whose areas are known (plain).
-/
namespace Go.Proofs.YtgbgbokcohfnpaaGreat
open Go.RowKit

/-! ### A paper is read again -/

theorem ok_sealL (l : List UInt8) : okSeal (sealL l) = true := by
  have h : (l ++ eightL (sumN l)).length = l.length + 8 := by rw [List.length_append, length_eightL]
  unfold sealL
  rw [okSeal_iff h, List.take_left' rfl, List.drop_left' rfl]
  exact beq_self_eq_true _
theorem openL_sealL (l : List UInt8) : openL (sealL l) = l := by
  unfold openL
  rw [if_pos (ok_sealL l)]
  unfold sealL
  rw [List.length_append, length_eightL, Nat.add_sub_cancel, List.take_left' rfl]
theorem openE_sealL (l : List UInt8) : openE (sealL l) = 0 := by unfold openE; rw [if_pos (ok_sealL l)]
theorem rnum_num (u : Nat) (hu : W64 u) (rest : List UInt8) : rnum (numL u ++ rest) 0 = ((rest, 0), u) := by
  have h8 := sizeN_le u
  have hlt := sizeN_lt u (by unfold W64 at hu; omega)
  have hc : (UInt8.ofNat (sizeN u)).toNat = sizeN u := by simp; omega
  have htk : (beN (sizeN u) u ++ rest).take (sizeN u) = beN (sizeN u) u := List.take_left' (length_beN _ _)
  have hdr : (beN (sizeN u) u ++ rest).drop (sizeN u) = rest := List.drop_left' (length_beN _ _)
  have hob : ofBE (beN (sizeN u) u) = u := by rw [ofBE_beN, Nat.mod_eq_of_lt hlt]
  have hl : sizeN u ≤ (beN (sizeN u) u ++ rest).length := by rw [List.length_append, length_beN]; omega
  have hz : ¬ (0 < sizeN u ∧ (beN (sizeN u) u ++ rest)[0]? = some 0) := by
    rw [← sizeN_read _ (sizeN u) h8 hl, htk, hob]
  show rnum (UInt8.ofNat (sizeN u) :: (beN (sizeN u) u ++ rest)) 0 = _
  rw [rnum_cons, hc, if_neg (by omega), if_neg (by omega), if_neg hz, hdr, htk, hob]
theorem rcount_num (u : Nat) (most : Int) (hu : (u : Int) ≤ most) (hm : most ≤ 1099511627776) (rest : List UInt8) : rcount (numL u ++ rest) 0 most = ((rest, 0), u) := by
  unfold rcount
  rw [rnum_num u (by unfold W64; omega), if_neg (by simp only []; omega)]
/-! ### One call -/

theorem bars_up {s : DS} {k : ByteArray} {t : Bool} (hd : s.down = false) (hk : nameOk k = true) (hg : t = true → alGet k s.areas ≠ none) : barsF s k t = 0 := by
  unfold barsF
  rw [hd, hk, if_neg (by simp), if_neg (by simp), if_neg (fun c => hg c.1 c.2)]
theorem get0_none {k : ByteArray} {A : Areas} (h : alGet k A = none) : get0 k A = ⟨[], 0⟩ := by unfold get0; rw [h]; rfl
/-! ### Names -/

/-- A manifest, and the areas of a first and of a second Save. -/
def pL (t s : Nat) (b : List UInt8) : List UInt8 := paperL t s (sumN b)
def full (l : List UInt8) : AreaP := ⟨l, l.length⟩
def A1 (s : Nat) (b : List UInt8) : Areas := [(ckB, full b), (ckNow, full (pL 1 s b))]
def A2 (s : Nat) (b : List UInt8) : Areas := [(ckNow, full (pL 2 s b)), (ckA, full b)]

end Go.Proofs.YtgbgbokcohfnpaaGreat

/-
  wal IN PLAIN LEAN: frames, pieces, what is found on a disk.
-/
namespace Go.Proofs.YtgbgbokcohfnpaaGreat
open Go.RowKit

def frameL (d : List UInt8) : List UInt8 := numL (d.length + 8) ++ sealL d
def headerL (num first : Nat) : List UInt8 := frameL (numL num ++ numL first)
theorem length_frameL (d : List UInt8) : (frameL d).length = sizeN (d.length + 8) + 1 + d.length + 8 := by
  unfold frameL
  rw [List.length_append, length_numL, length_sealL]
  omega
theorem frameL_pos (d : List UInt8) : 9 ≤ (frameL d).length := by rw [length_frameL]; omega
theorem frameL_le (d : List UInt8) : (frameL d).length ≤ d.length + 17 := by rw [length_frameL]; have := sizeN_le (d.length + 8); omega
/-- What the first frame of b holds. -/
def frame1 (b : List UInt8) : Option (List UInt8) := if (rtext b 0 8200).1.2 ≠ 0 ∨ openE (rtext b 0 8200).2 ≠ 0 then none else some (openL (rtext b 0 8200).2)
def splitN : Nat → List UInt8 → List (List UInt8)
  | 0, _ => []
  | k + 1, b => match frame1 b with
    | none => []
    | some d => d :: splitN k (b.drop (frameL d).length)
def splitL (b : List UInt8) : List (List UInt8) := splitN (b.length + 1) b

theorem open_back {t : List UInt8} (h : openE t = 0) : t = sealL (openL t) := by
  unfold openE at h
  by_cases ho : okSeal t = true
  · unfold openL sealL
    rw [if_pos ho]
    have h8 : 8 ≤ t.length := by
      unfold okSeal at ho
      simp at ho
      exact ho.1
    have hi := okSeal_iff (l := t) (m := t.length - 8) (by omega)
    rw [ho] at hi
    have he : eightL (sumN (t.take (t.length - 8))) = t.drop (t.length - 8) := by simpa using hi.symm
    rw [he, List.take_append_drop]
  · rw [if_neg ho] at h
    split at h <;> omega
theorem rnum_back' (left : List UInt8) (h : (rnum left 0).1.2 = 0) : left = numL (rnum left 0).2 ++ (rnum left 0).1.1 := by
  unfold rnum at *
  rw [if_neg (by simp)] at h ⊢
  cases left with
  | nil => simp at h
  | cons c r =>
    simp only [] at h ⊢
    by_cases c1 : 8 < c.toNat
    · rw [if_pos c1] at h; simp at h
    rw [if_neg c1] at h ⊢
    by_cases c2 : r.length < c.toNat
    · rw [if_pos c2] at h; simp at h
    rw [if_neg c2] at h ⊢
    by_cases c3 : 0 < c.toNat ∧ r[0]? = some 0
    · rw [if_pos c3] at h; simp at h
    rw [if_neg c3]
    have hs : sizeN (ofBE (r.take c.toNat)) = c.toNat := by
      rw [sizeN_read r c.toNat (by omega) (by omega)]
      exact c3
    unfold numL
    rw [hs]
    have hl : (r.take c.toNat).length = c.toNat := by rw [List.length_take]; omega
    have hb : beN c.toNat (ofBE (r.take c.toNat)) = r.take c.toNat := by
      have := beN_ofBE (r.take c.toNat)
      rw [hl] at this
      exact this
    rw [hb]
    simp
theorem frame1_some {b d : List UInt8} (h : frame1 b = some d) : ∃ r, b = frameL d ++ r ∧ d.length ≤ 8192 := by
  unfold frame1 at h
  by_cases hc : (rtext b 0 8200).1.2 ≠ 0 ∨ openE (rtext b 0 8200).2 ≠ 0
  · rw [if_pos hc] at h; cases h
  rw [if_neg hc] at h
  have hc1 : (rtext b 0 8200).1.2 = 0 := by
    by_cases h0 : (rtext b 0 8200).1.2 = 0
    · exact h0
    · exact absurd (Or.inl h0) hc
  have hc2 : openE (rtext b 0 8200).2 = 0 := by
    by_cases h0 : openE (rtext b 0 8200).2 = 0
    · exact h0
    · exact absurd (Or.inr h0) hc
  have hb := open_back hc2
  have hd : openL (rtext b 0 8200).2 = d := by injection h
  rw [hd] at hb
  unfold rtext at hb hc1
  unfold rcount at hb hc1
  by_cases c0 : (max 0 (8200 : Int)).toNat < (rnum b 0).2
  · simp only [c0, if_true] at hc1
    simp at hc1
  rw [if_neg c0] at hb hc1
  by_cases c1 : (rnum b 0).1.2 ≠ 0
  · rw [if_pos c1] at hc1; exact absurd hc1 c1
  rw [if_neg c1] at hb hc1
  by_cases c2 : (rnum b 0).1.1.length < (rnum b 0).2
  · rw [if_pos c2] at hc1; simp at hc1
  rw [if_neg c2] at hb
  simp only [] at hb
  have h0 : (rnum b 0).1.2 = 0 := by omega
  have hbk := rnum_back' b h0
  have hlen : (rnum b 0).2 = d.length + 8 := by
    have h1 := congrArg List.length hb
    rw [List.length_take, length_sealL] at h1
    omega
  refine ⟨(rnum b 0).1.1.drop (rnum b 0).2, ?_, ?_⟩
  · unfold frameL
    rw [← hlen, ← hb, List.append_assoc, List.take_append_drop]
    exact hbk
  · have e : (max 0 (8200 : Int)).toNat = 8200 := rfl
    omega
theorem splitN_fuel : ∀ (k j : Nat) (b : List UInt8), b.length < k → b.length < j → splitN k b = splitN j b
  | 0, _, _, h, _ => by omega
  | _, 0, _, _, h => by omega
  | k + 1, j + 1, b, h1, h2 => by
    unfold splitN
    cases hf : frame1 b with
    | none => rfl
    | some d =>
      obtain ⟨r, hr, -⟩ := frame1_some hf
      have hp := frameL_pos d
      have hl : (b.drop (frameL d).length).length + 9 ≤ b.length := by
        rw [List.length_drop]
        have : b.length = (frameL d).length + r.length := by rw [hr, List.length_append]
        omega
      simp only []
      rw [splitN_fuel k j _ (by omega) (by omega)]
theorem splitL_none {b : List UInt8} (h : frame1 b = none) : splitL b = [] := by unfold splitL splitN; rw [h]
theorem splitL_some {b d : List UInt8} (h : frame1 b = some d) : splitL b = d :: splitL (b.drop (frameL d).length) := by
  obtain ⟨r, hr, -⟩ := frame1_some h
  have hp := frameL_pos d
  have hl : (b.drop (frameL d).length).length + 9 ≤ b.length := by
    rw [List.length_drop]
    have : b.length = (frameL d).length + r.length := by rw [hr, List.length_append]
    omega
  unfold splitL
  conv => lhs; unfold splitN
  rw [h]
  simp only []
  rw [splitN_fuel b.length ((b.drop (frameL d).length).length + 1) _ (by omega) (by omega)]
theorem rtext_num (u : Nat) (hu : u ≤ 8200) (rest : List UInt8) (hl : u ≤ rest.length) : rtext (numL u ++ rest) 0 8200 = ((rest.drop u, 0), rest.take u) := by
  unfold rtext
  have h := rcount_num u 8200 (by omega) (by omega) rest
  rw [h]
  simp only []
  rw [if_neg (by simp), if_neg (by omega)]
theorem frame1_frame (d r : List UInt8) (h : d.length ≤ 8192) : frame1 (frameL d ++ r) = some d := by
  have hl : (sealL d).length = d.length + 8 := length_sealL d
  have ht : rtext (frameL d ++ r) 0 8200 = ((r, 0), sealL d) := by
    unfold frameL
    rw [List.append_assoc, rtext_num (d.length + 8) (by omega) _ (by rw [List.length_append]; omega)]
    rw [List.drop_left' (by omega), List.take_left' (by omega)]
  unfold frame1
  rw [ht]
  simp only []
  rw [openE_sealL, openL_sealL, if_neg (by simp)]
theorem splitL_frame (d r : List UInt8) (h : d.length ≤ 8192) : splitL (frameL d ++ r) = d :: splitL r := by
  rw [splitL_some (frame1_frame d r h), List.drop_left' rfl]
theorem frame1_nil : frame1 [] = none := by
  unfold frame1
  rw [if_pos]
  left
  show (rtext [] 0 8200).1.2 ≠ 0
  unfold rtext rcount rnum
  simp
theorem splitL_nil : splitL [] = [] := splitL_none frame1_nil
def frames (ds : List (List UInt8)) : List UInt8 := (ds.map frameL).flatten
theorem frames_nil : frames [] = [] := rfl
theorem frames_cons (d : List UInt8) (ds : List (List UInt8)) : frames (d :: ds) = frameL d ++ frames ds := by simp [frames]
theorem frames_append (a b : List (List UInt8)) : frames (a ++ b) = frames a ++ frames b := by simp [frames]
theorem splitL_frames : ∀ (ds : List (List UInt8)) (r : List UInt8), (∀ d ∈ ds, d.length ≤ 8192) → splitL (frames ds ++ r) = ds ++ splitL r
  | [], r, _ => by simp [frames_nil]
  | d :: ds, r, h => by
    rw [frames_cons, List.append_assoc, splitL_frame d _ (h d (by simp)), splitL_frames ds r (fun x hx => h x (by simp [hx]))]
    rfl
/-- What is read off is what lies in front. -/
theorem split_pre : ∀ (n : Nat) (b : List UInt8), b.length ≤ n → ∃ r, b = frames (splitL b) ++ r ∧ frame1 r = none ∧ ∀ d ∈ splitL b, d.length ≤ 8192
  | n, b, hn => by
    cases hf : frame1 b with
    | none => exact ⟨b, by rw [splitL_none hf]; rfl, hf, by rw [splitL_none hf]; simp⟩
    | some d =>
      obtain ⟨r, hr, hd⟩ := frame1_some hf
      have hp := frameL_pos d
      have hl : b.length = (frameL d).length + r.length := by rw [hr, List.length_append]
      have hdr : b.drop (frameL d).length = r := by rw [hr, List.drop_left' rfl]
      obtain ⟨r2, h1, h2, h3⟩ := split_pre (n - 1) r (by omega)
      rw [splitL_some hf, hdr]
      refine ⟨r2, ?_, h2, fun x hx => ?_⟩
      · rw [frames_cons, List.append_assoc, ← h1]; exact hr
      · rcases List.mem_cons.1 hx with e | e
        · rw [e]; exact hd
        · exact h3 x e
  termination_by n => n
  decreasing_by omega

/-- A piece's header. -/
def beginsF (d : List UInt8) (num : Nat) : Nat × Bool :=
  ((rcount (rcount d 0 999999).1.1 (rcount d 0 999999).1.2 1099511627776).2, decide (rdone (rcount (rcount d 0 999999).1.1 (rcount d 0 999999).1.2 1099511627776).1.1 (rcount (rcount d 0 999999).1.1 (rcount d 0 999999).1.2 1099511627776).1.2 = 0 ∧ (rcount d 0 999999).2 = num ∧ 0 < (rcount (rcount d 0 999999).1.1 (rcount d 0 999999).1.2 1099511627776).2))
theorem begins_header (num first : Nat) (hn : num ≤ 999999) (hf : first ≤ 1099511627776) (h0 : 0 < first) : beginsF (numL num ++ numL first) num = (first, true) := by
  have e1 := rcount_num num 999999 (by omega) (by omega) (numL first)
  have e2 := rcount_num first 1099511627776 (by omega) (by omega) []
  rw [List.append_nil] at e2
  unfold beginsF
  rw [e1]
  simp only []
  rw [e2]
  simp only []
  unfold rdone
  simp [h0]

/-- What is found on a disk. -/
structure FoundS where
  pieces : List (Nat × Nat)
  recs : List (Nat × List UInt8)
  next : Nat
  good : Nat
  whole : Bool
  rest : List Nat
def found0 : FoundS := ⟨[], [], 1, 0, true, []⟩
def numbered : Nat → List (List UInt8) → List (Nat × List UInt8)
  | _, [] => []
  | i, d :: r => (i, d) :: numbered (i + 1) r
def headOf (ds : List (List UInt8)) (num : Nat) : Nat × Bool := match ds with
  | [] => (0, false)
  | h :: _ => beginsF h num
/-- One area. -/
def scan1 (f : FoundS) (k : ByteArray) (b : List UInt8) : FoundS :=
  if numberN k = 0 then f
  else if f.whole = false ∨ (headOf (splitL b) (numberN k)).2 = false ∨ (0 < f.pieces.length ∧ (headOf (splitL b) (numberN k)).1 ≠ f.next) then { f with whole := false, rest := f.rest ++ [numberN k] }
  else ⟨f.pieces ++ [(numberN k, (headOf (splitL b) (numberN k)).1)], f.recs ++ numbered (headOf (splitL b) (numberN k)).1 (splitL b).tail, (headOf (splitL b) (numberN k)).1 + (splitL b).tail.length,
    (frames (splitL b)).length, decide ((frames (splitL b)).length = b.length), f.rest⟩
def scanL (L : List (ByteArray × List UInt8)) : FoundS := L.foldl (fun f x => scan1 f x.1 x.2) found0

end Go.Proofs.YtgbgbokcohfnpaaGreat
