/-
  THE WALK of snap: Load, Clean.
-/
import Derived.Test.YtigdhdclfdojgaaGreatSnapSave
import Derived.Lib.Walk
import Derived.Lib.Slices
import Derived.Laws.Strings3
import Derived.Deep.RegionHeld3
namespace Go.Proofs.YtigdhdclfdojgaaGreat
open Go.RowKit

set_option maxHeartbeats 1000000 in
theorem pre_lite (s p : ByteArray) (w : World) : Calls Tryz.prog 122 #[.string s, .string p] w fun e w' => e = .returned (.bool (Lib.hasPrefix s.data.toList p.data.toList)) ∧ w = w' := by
  rw [← Lib.hasPrefix_of_take, ← Lib.size_eq, ← Lib.size_eq]
  go_enter Tryz.func122, Tryz.ntmps122
  go_wp2
  · rename_i h
    go_ret
    refine ⟨?_, rfl⟩
    show Ending.returned (Value.bool ((s.extract 0 p.size).toList == p.toList)) = _
    rw [Lib.extract_toList, Lib.toList_data]
    simp [h]
  · rename_i h
    go_ret
    refine ⟨?_, rfl⟩
    show Ending.returned (Value.bool false) = _
    simp [h]
/-- What Load answers. -/
structure LoadTo (w : World) (R : Nat × List UInt8 × Bool × Nat) (e : Ending) (w' : World) : Prop where
  ex : ∃ bo c, e = .returned (.tuple #[.int .i64 (R.1 : Int), .slice bo R.2.1.length c, .bool R.2.2.1, .int .i64 (R.2.2.2 : Int)]) ∧ Own (fun j => w.heap.size ≤ j) w' 5 1 bo R.2.1.length c (bv R.2.1) ∧ Kp Noone w w'
theorem results_tmp4 {fn : Func} {t u v x : Tmp} (h : fn.results = #[.tmp t, .tmp u, .tmp v, .tmp x]) (tmps : Array Value) (P : Program) (w : World) :
    (results fn tmps).run P w = .ok (.tuple #[tmps.getD t undef, tmps.getD u undef, tmps.getD v undef, tmps.getD x undef]) w := by
  simp [results, h]
theorem LoadTo.zero (w w' : World) (E : Nat) (k : Kp Noone w w') : LoadTo w (0, [], false, E) (.returned (.tuple #[.int .i64 0, .slice none 0 0, .bool false, .int .i64 (E : Int)])) w' :=
  ⟨⟨none, 0, rfl, Own.nil _ _ _ _ _, k⟩⟩

attribute [local irreducible] currentF readF

end Go.Proofs.YtigdhdclfdojgaaGreat
