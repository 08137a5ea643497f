/-
  THE WALKS of the writer's texts.
-/
import Derived.Test.YtlpdoefbjhlegaaWriter
namespace Go.Proofs.Ytlpdoefbjhlegaa
open Go.RowKit

set_option maxHeartbeats 400000 in
set_option maxRecDepth 100000 in
theorem writerText_any (F : Nat → Prop) (p : Nat) (l : List UInt8) (bo : Option Addr) (m c : Nat) (b : List UInt8) (w : World) (hw : Wr F w p l) (hb : BS w bo m c b) (hoff : Off F bo) (hl : l.length + m ≤ 140737488355000) :
    Calls Try.prog 29 #[.pointer (some ⟨p, 0, none⟩), .slice bo m c] w (WrPost F w p (l ++ numL m ++ b)) := by
  obtain ⟨i0, hi, hz0, hz1, hz2⟩ := info_parts info_u8
  go_enter Try.func29, Try.ntmps29
  go_wp2_with fail
  refine (writerNum_any F p l m _ hw (by unfold W64; omega) (by omega)).mono ?_
  rintro e w1 ⟨rfl, hw1, k1⟩
  have hb1 := hb.kp k1 hoff
  obtain ⟨hp', ao, n, cap, hh, ho⟩ := hw1
  obtain ⟨hc0, hf0⟩ := cell_one hh
  have hnb : n + m ≤ 140737488355016 := by
    have := ho.1
    rw [length_bv, List.length_append, length_numL] at this
    have := sizeN_le m
    omega
  go_wp2_with (at_builtin; refine wpList_append_gen _ rfl (.tmp 16) (.tmp 17) 31 rfl 5 i0 (.int .u8 0) 1 1 Try.underlying31 hi hz0 hz1 hz2 rfl ao n cap rfl bo m c rfl _ _ ho (bv b) (by rw [length_bv, hb.len, Nat.mul_one]) hb1.row (bv_one _) (by omega) (by unfold maxLen; omega) ?_)
  intro ao1 cap1 w2 ho2 k2
  have hh2 := k2.heap hh (fun h => h.2 rfl)
  obtain ⟨hc2, hf2⟩ := cell_one hh2
  rw [bv_append] at ho2
  have P := Wr.put hp' hh ho2 k2
  have hs1 := k1.size
  have Wf := Wr.chain P.1 hs1
  have Kf := k1.ex P.2
  clear ho2 k2 hh2 hc0 hf0 ho hh P
  go_wp2_with fail
  go_ret
  exact ⟨rfl, Wf, Kf⟩

set_option maxHeartbeats 400000 in
set_option maxRecDepth 100000 in
/-- All that was written, in new memory. -/
theorem writerBytes_any (F : Nat → Prop) (p : Nat) (l : List UInt8) (w : World) (hw : Wr F w p l) (hl : l.length ≤ 140737488355328) :
    Calls Try.prog 28 #[.pointer (some ⟨p, 0, none⟩)] w fun e w' => ∃ ao cap, e = .returned (.slice ao l.length cap) ∧ Own (Ex Noone w w') w' 5 1 ao l.length cap (bv l) ∧ Kp Noone w w' := by
  obtain ⟨i0, hi, hz0, hz1, hz2⟩ := info_parts info_u8
  obtain ⟨hp', ao, n, cap, hh, ho⟩ := hw
  obtain ⟨hc0, hf0⟩ := cell_one hh
  have hn : l.length = n := by have := ho.1; rw [length_bv] at this; omega
  rw [hn] at hl ⊢
  go_enter Try.func28, Try.ntmps28
  go_wp2_with (at_builtin; refine wpList_append_gen _ rfl (.const (.slice none 0 0)) (.tmp 8) 31 rfl 5 i0 (.int .u8 0) 1 1 Try.underlying31 hi hz0 hz1 hz2 rfl none 0 0 rfl ao n cap rfl Noone [] (Own.nil _ _ _ _ _) (bv l) (by rw [length_bv, hn, Nat.mul_one]) ho.row (bv_one _) (by omega) (by unfold maxLen; omega) ?_)
  intro ao1 cap1 w2 ho2 k2
  go_wp2_with fail
  go_ret

  exact ⟨ao1, cap1, rfl, ho2, k2⟩

end Go.Proofs.Ytlpdoefbjhlegaa
