/-
  THE WALKS of pack's Writer: what has been written so far is a list of bytes.
-/
import Derived.Test.YtlpdoefbjhlegaaLen
import Derived.Test.YtlpdoefbjhlegaaApp
namespace Go.Proofs.Ytlpdoefbjhlegaa
open Go.RowKit

/-- A writer at block p that has written l; its blocks are of F. -/
def Wr (F : Nat → Prop) (w : World) (p : Nat) (l : List UInt8) : Prop :=
  F p ∧ ∃ ao n cap, w.heap[p]? = some (.cells #[.slice ao n cap] 93 (0, 0)) ∧ Own (fun k => F k ∧ k ≠ p) w 5 1 ao n cap (bv l)

theorem Wr.mono {F G : Nat → Prop} {w : World} {p : Nat} {l : List UInt8} (h : Wr F w p l) (hfg : ∀ k, k < w.heap.size → F k → G k) : Wr G w p l := by
  obtain ⟨hp, ao, n, cap, hh, ho⟩ := h
  exact ⟨hfg p (Array.getElem?_eq_some_iff.1 hh).1 hp, ao, n, cap, hh, ho.mono (fun k hk h => ⟨hfg k hk h.1, h.2⟩)⟩
theorem Wr.kp {F S : Nat → Prop} {w w' : World} {p : Nat} {l : List UInt8} (h : Wr F w p l) (k : Kp S w w') (hd : ∀ k, F k → ¬ S k) : Wr F w' p l := by
  obtain ⟨hp, ao, n, cap, hh, ho⟩ := h
  exact ⟨hp, ao, n, cap, k.heap hh (hd p hp), ho.kp k (fun j hj => hd j hj.1)⟩
theorem Wr.keep {F : Nat → Prop} {w w' : World} {p : Nat} {l : List UInt8} (h : Wr F w p l) (k : Kp Noone w w') : Wr F w' p l := h.kp k (fun _ _ c => c.elim)

theorem cell_one {w : World} {p e : Nat} {v : Value} (h : w.heap[p]? = some (.cells #[v] e (0, 0))) : w.cell? ⟨p, 0, none⟩ = some v ∧ w.frozen? ⟨p, 0, none⟩ = false := by
  constructor
  · rw [cell_of_row w p 0 _ e (0, 0) h]; rfl
  · simp [World.frozen?, h]
theorem heap_set_one {w : World} {p e : Nat} {v u : Value} (h : w.heap[p]? = some (.cells #[v] e (0, 0))) : (w.setCell ⟨p, 0, none⟩ u).heap[p]? = some (.cells #[u] e (0, 0)) := by
  simp [World.setCell, Array.getElem?_modify, h]

/-- Behind 'w.b = append(w.b, ..)'. -/
theorem Wr.put {F : Nat → Prop} {w w1 : World} {p : Nat} {v : Value} {ao' : Option Addr} {n' cap' : Nat} {l : List UInt8} (hp : F p) (hh : w.heap[p]? = some (.cells #[v] 93 (0, 0)))
    (ho : Own (Ex (fun k => F k ∧ k ≠ p) w w1) w1 5 1 ao' n' cap' (bv l)) (k : Kp (fun k => F k ∧ k ≠ p) w w1) :
    Wr (Ex F w w1) (w1.setCell ⟨p, 0, none⟩ (.slice ao' n' cap')) p l ∧ Kp F w (w1.setCell ⟨p, 0, none⟩ (.slice ao' n' cap')) := by
  have hh1 := k.heap hh (fun h => h.2 rfl)
  have hpw := (Array.getElem?_eq_some_iff.1 hh).1
  refine ⟨⟨Or.inl hp, ao', n', cap', heap_set_one hh1, ?_⟩, ?_⟩
  · have h1 : Own (fun k => Ex F w w1 k ∧ k ≠ p) w1 5 1 ao' n' cap' (bv l) := ho.mono (fun j _ h => by
      rcases h with h | h
      · exact ⟨Or.inl h.1, h.2⟩
      · exact ⟨Or.inr h, by omega⟩)
    have h2 : Kp (fun k => k = p) w1 (w1.setCell ⟨p, 0, none⟩ (.slice ao' n' cap')) := (Kp.refl (fun k => k = p) w1).setCell (p := ⟨p, 0, none⟩) (fun _ => rfl) _
    exact h1.kp h2 (fun j hj => hj.2)
  · exact (k.mono (fun j _ h => h.1)).setCell (fun _ => hp) _

/-- A put in a later world: the blocks that are his by then. -/
theorem Wr.chain {F : Nat → Prop} {w wr wA w3 wf : World} {p : Nat} {l : List UInt8} (h : Wr (Ex (Ex F w wr) wA w3) wf p l) (ha : w.heap.size ≤ wA.heap.size) : Wr (Ex F w wf) wf p l :=
  h.mono (fun k hk h => by
    rcases h with h | h
    · rcases h with h | h
      · exact Or.inl h
      · exact Or.inr ⟨h.1, hk⟩
    · exact Or.inr ⟨by omega, hk⟩)
theorem Wr.late {F : Nat → Prop} {w w' wf : World} {p : Nat} {l : List UInt8} (h : Wr (Ex F w w') wf p l) : Wr (Ex F w wf) wf p l :=
  h.mono (fun k hk h => by
    rcases h with h | h
    · exact Or.inl h
    · exact Or.inr ⟨h.1, hk⟩)
/-- Two spans of one writer. -/
theorem Kp.ex {F : Nat → Prop} {a b c : World} (h : Kp F a b) (k : Kp (Ex F a b) b c) : Kp F a c :=
  h.fin k (fun _ hj => by rcases hj with hj | hj; exact Or.inl hj; exact Or.inr hj.1)

/-- What a writer's call answers. -/
def WrPost (F : Nat → Prop) (w : World) (p : Nat) (l : List UInt8) (e : Ending) (w' : World) : Prop :=
  e = .returned (.pointer (some ⟨p, 0, none⟩)) ∧ Wr (Ex F w w') w' p l ∧ Kp F w w'

set_option maxHeartbeats 400000 in
set_option maxRecDepth 100000 in
theorem newWriter_any (w : World) : Calls Try.prog 26 #[] w fun e w' => ∃ p, e = .returned (.pointer (some ⟨p, 0, none⟩)) ∧ Wr (Ex Noone w w') w' p [] ∧ Kp Noone w w' ∧ w.heap.size ≤ p := by
  go_enter Try.func26, Try.ntmps26
  go_wp2
  go_ret
  refine ⟨w.heap.size, rfl, ⟨Or.inr ⟨Nat.le_refl _, by simp⟩, none, 0, 0, heap_alloc_new w _, Own.nil _ _ _ _ _⟩, (Kp.refl _ _).alloc _, Nat.le_refl _⟩

theorem run_shr8 (u d : Nat) (hd : d ≤ 7) (W : World) : (Op.shift BinOp.shr IntKind.u64 (u : Int) IntKind.i64 (IntKind.i64.wrap (8 * (d : Int)))).run Try.prog W = .ok (.int .u64 ((u / 256 ^ d : Nat) : Int)) W := by
  have hw : IntKind.i64.wrap (8 * (d : Int)) = 8 * (d : Int) := IntWalk.i64_in _ (by omega)
  have hp : (u : Int) / 2 ^ (8 * (d : Int)).toNat = ((u / 256 ^ d : Nat) : Int) := by
    have : (8 * (d : Int)).toNat = 8 * d := by omega
    have h2 : (2 : Int) ^ (8 * d) = ((256 ^ d : Nat) : Int) := by
      rw [Int.pow_mul]; simp
    rw [this, h2, Int.natCast_ediv]
  rw [hw, shift_shr _ _ _ _ (by omega) (by simp [IntKind.bits]; omega), hp]
  rfl

set_option maxHeartbeats 1000000 in
set_option maxRecDepth 100000 in
theorem writerNum_any (F : Nat → Prop) (p : Nat) (l : List UInt8) (u : Nat) (w : World) (hw : Wr F w p l) (hu : W64 u) (hl : l.length ≤ 140737488355000) :
    Calls Try.prog 27 #[.pointer (some ⟨p, 0, none⟩), .int .u64 (u : Int)] w (WrPost F w p (l ++ numL u)) := by
  obtain ⟨i0, hi, hz0, hz1, hz2⟩ := info_parts info_u8
  have HU := Lib.hid hu
  have hs8 := sizeN_le u
  clear hu
  obtain ⟨hp, ao, n, cap, hh, ho⟩ := hw
  obtain ⟨hc0, hf0⟩ := cell_one hh
  have hn : n = l.length := by have := ho.1; rw [length_bv] at this; omega
  have hnb : n ≤ 140737488355000 := by omega
  have HN := Lib.hid hn
  clear hn hl
  go_enter Try.func27, Try.ntmps27
  go_wp2_with fail
  refine (size_any u _ HU.out).mono ?_
  rintro e w' ⟨rfl, rfl⟩
  have HR : Hid (∀ W : World, Row (W.alloc (.cells #[.int .u8 (sizeN u : Int)] 5)) (some ⟨W.heap.size, 0, none⟩) (bv [UInt8.ofNat (sizeN u)])) := by
    intro W
    refine Row.ofHeap (e := 5) (fr := (0, 0)) ?_
    rw [heap_alloc_new]
    simp [bv, U8]
    omega
  have kal : ∀ o : Obj, Kp Noone w (w.alloc o) := fun o => (Kp.refl _ _).alloc o
  have hha := fun o : Obj => (kal o).heap hh id
  have HSL : Hid (numL u = UInt8.ofNat (sizeN u) :: beN (sizeN u) u) := Lib.hid rfl
  generalize sizeN u = s at *
  go_wp2_with (at_builtin; refine wpList_append_gen _ rfl (.tmp 16) (.tmp 19) 31 rfl 5 i0 (.int .u8 0) 1 1 Try.underlying31 hi hz0 hz1 hz2 rfl ao n cap rfl (some ⟨w.heap.size, 0, none⟩) 1 1 rfl _ _ (ho.keep (kal _)) (bv [UInt8.ofNat s]) rfl (HR.out _) (bv_one _) (by omega) (by unfold maxLen; omega) ?_)
  intro ao1 cap1 w1 ho1 k1
  have hh1 := k1.heap (hha _) (fun h => h.2 rfl)
  obtain ⟨hc1, hf1⟩ := cell_one hh1
  rw [bv_append] at ho1
  have P := Wr.put hp (hha _) ho1 k1
  have hs1 := k1.size
  have hsA := (kal (.cells #[.int .u8 (s : Int)] 5)).size
  have K2 := (kal _).none.trans P.2
  have W2 : Wr (Ex F w (w1.setCell ⟨p, 0, none⟩ (.slice ao1 (n + 1) cap1))) (w1.setCell ⟨p, 0, none⟩ (.slice ao1 (n + 1) cap1)) p (l ++ [UInt8.ofNat s]) :=
    P.1.mono (fun k hk h => by
      rcases h with h | h
      · exact Or.inl h
      · exact Or.inr ⟨by omega, hk⟩)
  clear ho1 k1 hh1 hha hc0 hf0 ho hh P hs1 hsA HR
  go_wp2_with fail
  generalize w1.setCell ⟨p, 0, none⟩ (.slice ao1 (n + 1) cap1) = w2 at *
  clear hc1 hf1
  go_loopw [6] (fun i wr => ∃ (k : Nat) (j : Int), k ≤ s ∧ i = .int .i64 j ∧ j = (s : Int) - 1 - k ∧ Wr (Ex F w wr) wr p (l ++ [UInt8.ofNat s] ++ (beN s u).take k) ∧ Kp F w wr) (fun i _ => (intOf i + 1).toNat)
  case atStart => exact ⟨0, _, Nat.zero_le _, rfl, by omega, by simpa using W2, K2⟩
  case round =>
    obtain ⟨k, j, hk, rfl, hj, hwr, kr⟩ := hrel
    have HJ := Lib.hid hj
    by_cases h0 : 0 ≤ j
    · obtain ⟨d, rfl⟩ := Int.eq_ofNat_of_zero_le h0
      have hd : d ≤ 7 := by omega
      have HB := Lib.hid (beN_take s u (k := k) (d := d) (by omega))
      obtain ⟨hp', bo, m, c, hh, ho⟩ := hwr
      obtain ⟨hc0, hf0⟩ := cell_one hh
      clear hj W2
      have hsh := run_shr8 u d hd
      have hm : m = l.length + 1 + k := by
        have := ho.1
        simp [bv, length_beN] at this
        omega
      have hmb : m ≤ 140737488355016 := by have := HN.out; omega
      clear hm
      generalize u / 256 ^ d = x at *
      have HR : Hid (∀ W : World, Row (W.alloc (.cells #[.int .u8 ((x : Int) % 256)] 5)) (some ⟨W.heap.size, 0, none⟩) (bv [UInt8.ofNat x])) := by
        intro W
        refine Row.ofHeap (e := 5) (fr := (0, 0)) ?_
        rw [heap_alloc_new]
        simp [bv, U8]
      have kar : ∀ o : Obj, Kp Noone wr (wr.alloc o).drew := fun o => ((Kp.refl _ _).alloc o).drew
      have hha := fun o : Obj => (kar o).heap hh id
      have hka := fun o : Obj => cell_one (hha o)
      have hka1 := fun o : Obj => (hka o).1
      go_wp2_with fail
      go_region_law (refine step_append_gen rfl (.tmp 33) (.tmp 39) 31 rfl 5 i0 (.int .u8 0) 1 1 Try.underlying31 hi hz0 hz1 hz2 rfl bo m c rfl (some ⟨wr.heap.size, 0, none⟩) 1 1 rfl _ _ (ho.keep (kar _)) (bv [UInt8.ofNat x]) rfl ((HR.out _).keep ((Kp.refl _ _).drew)) (bv_one _) (by omega) (by unfold maxLen; omega) ?_; intro bo' c' w3 ho3 k3; have hh3 := k3.heap (hha _) (fun h => h.2 rfl); obtain ⟨hc3, hf3⟩ := cell_one hh3)
      all_goals (
        rw [bv_append] at ho3
        have P := Wr.put hp' (hha _) ho3 k3
        have hsA := (kar (.cells #[.int .u8 (IntKind.u8.wrap (x : Int))] 5)).size
        have hwr := kr.size
        have Wf := Wr.chain P.1 (by omega)
        have Kf := kr.ex ((kar _).none.trans P.2)
        rw [List.append_assoc _ _ [UInt8.ofNat x], ← HB.out] at Wf
        clear ho3 k3 hh3 hha hka hka1 hc0 hf0 ho hh P HR kar
        go_simp
        rename_i hkk
        refine hkk _ _ ?_
        clear hkk
        go_wp2_with fail
        exact ⟨⟨k + 1, _, by have := HJ.out; omega, rfl, by have := HJ.out; omega, by simpa using Wf, Kf⟩, by simp [intOf]⟩)
    · have hks : k = s := by omega
      subst hks
      have hx : l ++ [UInt8.ofNat k] ++ (beN k u).take k = l ++ numL u := by
        rw [HSL.out, List.take_of_length_le (by rw [length_beN]; omega), List.append_assoc]; rfl
      rw [hx] at hwr
      clear W2 K2
      go_wp2_with fail
      go_ret
      exact ⟨rfl, hwr, kr⟩

end Go.Proofs.Ytlpdoefbjhlegaa
