/-
  SnapRefA, SnapRefB, SnapRefC, SnapRefD, SnapRefE in one text.
-/
import Derived.Test.YtigdhdclfdojgaaGreatSnapSim
import Derived.Test.YtigdhdclfdojgaaGreatSnapWalk
import Derived.Test.YtigdhdclfdojgaaGreatPackSeal
import Derived.Test.YtigdhdclfdojgaaGreatRefDo
import Derived.Test.YtigdhdclfdojgaaGreatSnapLoad
import Derived.Deep.MidRow
import Derived.Deep.RegionHeld3
import Derived.Deep.RegionLaw
/-
  THE WALK of the document's snap: Area, Paper.
-/
namespace Go.Proofs.YtigdhdclfdojgaaGreat
open Go.RowKit

end Go.Proofs.YtigdhdclfdojgaaGreat

/-
  THE WALK of the document's snap: Current.
-/
namespace Go.Proofs.YtigdhdclfdojgaaGreat
open Go.RowKit

theorem info_rdr : (Tryz.prog.info? 138).map (·.size) = some 2 := by kernel_rfl
def putQ (w : World) (g : Nat) (ao : Option Addr) (n cap bad : Nat) : World := w.setCells g 0 [.slice ao n cap, .int .i64 (bad : Int)]
theorem putQ_kp (w : World) (g : Nat) (ao : Option Addr) (n cap bad : Nat) : Kp (fun j => j = g) w (putQ w g ao n cap bad) :=
  ((Kp.refl (fun j => j = g) w).setCell (p := ⟨g, 0, none⟩) (fun _ => rfl) _).setCell (p := ⟨g, 1, none⟩) (fun _ => rfl) _
theorem putQ_heap {w : World} {g e : Nat} {a0 a1 : Value} (ao : Option Addr) (n cap bad : Nat) (h : w.heap[g]? = some (.cells #[a0, a1] e (0, 0))) : (putQ w g ao n cap bad).heap[g]? = some (.cells #[.slice ao n cap, .int .i64 (bad : Int)] e (0, 0)) :=
  (heap_set_cell (heap_set_cell h)).trans (by simp)
theorem wpList_store_rdr {ops : Array Oper} {rest : List Oper} {op : Oper} {a : Act} {w : World} {Q : Exit → Act → World → Prop} (hgd : op.guard = none) (x y : Operand) (ho : op.op = .store 138 x y)
    (g : Nat) (ao : Option Addr) (n cap bad : Nat) (hx : a.eval x = .pointer (some ⟨g, 0, none⟩)) (hy : a.eval y = rrV ao n cap bad) {a0 a1 : Value} (hb : w.heap[g]? = some (.cells #[a0, a1] 138 (0, 0)))
    (h : wpList Tryz.prog ops Q rest (a.put op.dst undef) (putQ w g ao n cap bad)) : wpList Tryz.prog ops Q (op :: rest) a w :=
  wpList_store_mid hgd 138 x y ho g 0 #[.slice ao n cap, .int .i64 (bad : Int)] hx hy (show w.there g 0 2 from there_row3 (cs := #[a0, a1]) hb) info_rdr (by simp [Value.oneCell']) h

/-- What Current answers. -/
structure CurTo (w : World) (R : Pap × Nat) (e : Ending) (w' : World) : Prop where
  ex : e = .returned (.tuple #[.int .i64 (R.1.turn : Int), .int .i64 (R.1.slot : Int), .int .u64 (R.1.sum : Int), .int .i64 (R.2 : Int)]) ∧ Kp Noone w w'

attribute [local irreducible] putQ

end Go.Proofs.YtigdhdclfdojgaaGreat

/-
  THE WALK of the document's snap: lay.
-/
namespace Go.Proofs.YtigdhdclfdojgaaGreat
open Go.RowKit

theorem op_drop {k : ByteArray} (hk : k.size ≤ maxLen) : OpOk (oDrop k) 1048576 := ⟨by simp [oDrop], hk, by simp [oDrop], by simp [oDrop], by simp [oDrop], by simp [oDrop]⟩
theorem op_sync {k : ByteArray} (hk : k.size ≤ maxLen) : OpOk (oSync k) 1048576 := ⟨by simp [oSync], hk, by simp [oSync], by simp [oSync], by simp [oSync], by simp [oSync]⟩
theorem op_app {k : ByteArray} {b : List UInt8} (hk : k.size ≤ maxLen) (hb : b.length + 1 ≤ 1048576) : OpOk (oApp k b) 1048576 := ⟨by simp [oApp], hk, by simp [oApp], by simp [oApp], hb, by simp [oApp]⟩
theorem op_move {f t : ByteArray} (hf : f.size ≤ maxLen) (ht : t.size ≤ maxLen) : OpOk (oMove f t) 1048576 := ⟨by simp [oMove], hf, ht, by simp [oMove], by simp [oMove], by simp [oMove]⟩
/-- One call of Do, with the disk that it stands for. -/
theorem do_step (P : Nat → Prop) (ao : Option Addr) (cap : Nat) (m : RD) (s : DS) (o : OpD) (bo : Option Addr) (bm bc : Nat) (ko : Option Addr) (km kc : Nat) (w : World) (h : RA P w ao m.L.length cap m.L) (hP : ∀ j, w.heap.size ≤ j → P j) (hs : Sim m s) (hd : DOk s) (hop : OpOk o 1048576) (hb : BS w bo bm bc o.b) (hk : IS w ko km kc o.keep) (hst : s.steps < 4611686018427387904) :
    Calls Tryz.prog 12 #[rdV ao cap m, opV o bo bm bc ko km kc] w fun e w' => ∃ ao' cap' xo xn xc, e = .returned (.tuple #[rdV ao' cap' (doE m o).1, .slice xo xn xc, .int .i64 ((doE m o).2 : Int)]) ∧ RA P w' ao' (doE m o).1.L.length cap' (doE m o).1.L ∧ Kp Noone w w' := by
  refine (doR_any P ao cap m o bo bm bc ko km kc w h hP (hs.rok hd) hop hb hk (by rw [hs.steps]; exact hst)).mono ?_
  rintro e w' hto
  obtain ⟨ao', cap', xo, xc, rfl, h1, -, k⟩ := hto.ex
  exact ⟨ao', cap', xo, _, xc, rfl, h1, k⟩
/-- What the document's calls that change a disk answer. -/
structure RErr (P : Nat → Prop) (w : World) (R : RD × Nat) (e : Ending) (w' : World) : Prop where
  ex : ∃ ao cap, e = .returned (.tuple #[rdV ao cap R.1, .int .i64 (R.2 : Int)]) ∧ RA P w' ao R.1.L.length cap R.1.L ∧ Kp Noone w w'

attribute [local irreducible] putD doE

end Go.Proofs.YtigdhdclfdojgaaGreat

/-
  THE WALK of the document's snap: Load.
-/
namespace Go.Proofs.YtigdhdclfdojgaaGreat
open Go.RowKit

/-- What Load answers. -/
structure LdTo (w : World) (R : Nat × List UInt8 × Bool × Nat) (e : Ending) (w' : World) : Prop where
  ex : ∃ bo c, e = .returned (.tuple #[.int .i64 (R.1 : Int), .slice bo R.2.1.length c, .bool R.2.2.1, .int .i64 (R.2.2.2 : Int)]) ∧ BS w' bo R.2.1.length c R.2.1 ∧ Kp Noone w w'
theorem LdTo.zero (w w' : World) (E : Nat) (k : Kp Noone w w') : LdTo w (0, [], false, E) (.returned (.tuple #[.int .i64 0, .slice none 0 0, .bool false, .int .i64 (E : Int)])) w' :=
  ⟨⟨none, 0, rfl, BS.nil _ _, k⟩⟩

end Go.Proofs.YtigdhdclfdojgaaGreat

/-
  THE WALK of the document's snap: Save.
-/
namespace Go.Proofs.YtigdhdclfdojgaaGreat
open Go.RowKit

/-- A region to whose end every order comes with one frame, but for two letters. -/
theorem wp_region_two {P : Program} {id : Nat} {ops : Array Oper} {b : Bool} {Q : Exit → Act → World → Prop} {a : Act} {w : World} {F : Option Addr → Nat → Act} {G : Option Addr → Nat → World → Prop}
    (h : (Code.region id ops b).wp P (NoPanic fun e a' w' => e = .normal ∧ ∃ ao cap, a' = F ao cap ∧ G ao cap w') a w) (k : ∀ ao cap w', G ao cap w' → Q .normal (F ao cap) w') : (Code.region id ops b).wp P Q a w :=
  Code.wp_mono (fun e a' w' q => by
    obtain ⟨rfl, ao, cap, rfl, hg⟩ := NoPanic.imp e a' w' q
    exact k ao cap w' hg) h

theorem wp_region_four {P : Program} {id : Nat} {ops : Array Oper} {b : Bool} {Q : Exit → Act → World → Prop} {a : Act} {w : World} {F : Option Addr → Nat → Option Addr → Nat → Act} {G : Option Addr → Nat → Option Addr → Nat → World → Prop}
    (h : (Code.region id ops b).wp P (NoPanic fun e a' w' => e = .normal ∧ ∃ xo xc ao cap, a' = F xo xc ao cap ∧ G xo xc ao cap w') a w) (k : ∀ xo xc ao cap w', G xo xc ao cap w' → Q .normal (F xo xc ao cap) w') : (Code.region id ops b).wp P Q a w :=
  Code.wp_mono (fun e a' w' q => by
    obtain ⟨rfl, xo, xc, ao, cap, rfl, hg⟩ := NoPanic.imp e a' w' q
    exact k xo xc ao cap w' hg) h

theorem wp_region_5 {P : Program} {id : Nat} {ops : Array Oper} {b : Bool} {Q : Exit → Act → World → Prop} {a : Act} {w : World} {F : Nat → Option Addr → Nat → Option Addr → Nat → Act} {G : Nat → Option Addr → Nat → Option Addr → Nat → World → Prop}
    (h : (Code.region id ops b).wp P (NoPanic fun e a' w' => e = .normal ∧ ∃ n xo xc ao cap, a' = F n xo xc ao cap ∧ G n xo xc ao cap w') a w) (k : ∀ n xo xc ao cap w', G n xo xc ao cap w' → Q .normal (F n xo xc ao cap) w') : (Code.region id ops b).wp P Q a w :=
  Code.wp_mono (fun e a' w' q => by
    obtain ⟨rfl, n, xo, xc, ao, cap, rfl, hg⟩ := NoPanic.imp e a' w' q
    exact k n xo xc ao cap w' hg) h

attribute [local irreducible] putD doE layR currentR

end Go.Proofs.YtigdhdclfdojgaaGreat

