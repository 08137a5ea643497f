/-
  THE WALKS of Copy and Same: what each computes, for every byte slice.
-/
import Derived.Test.YtmmdojnjognccaaProg
import Derived.Test.YtmmdojnjognccaaBase
namespace Go.Proofs.Ytmmdojnjognccaa
open Go.RowKit

theorem info_u8 : (Try.prog.info? 5).map (fun i => (i.zero, i.size, i.bytes)) = some (some (.int .u8 0), 1, 1) := by kernel_rfl

/-! ### The sum, as a number -/
def stepN (h : Nat) (c : UInt8) : Nat := ((h ^^^ c.toNat) * 1099511628211) % 18446744073709551616
def sumFrom (h : Nat) (l : List UInt8) : Nat := l.foldl stepN h
def start : Nat := 14695981039346656037
def sumN (l : List UInt8) : Nat := sumFrom start l
def U64 (n : Nat) : Value := .int .u64 (n : Int)
def W64 (n : Nat) : Prop := n < 18446744073709551616

theorem W64_step (h : Nat) (c : UInt8) : W64 (stepN h c) := by unfold W64 stepN; exact Nat.mod_lt _ (by decide)
theorem W64_sumFrom (l : List UInt8) : ∀ h, W64 h → W64 (sumFrom h l) := by
  induction l with
  | nil => exact fun h hh => hh
  | cons c l ih => exact fun h _ => ih _ (W64_step h c)
theorem W64_start : W64 start := by show (14695981039346656037 : Nat) < 18446744073709551616; decide
theorem sumFrom_snoc (h : Nat) (l : List UInt8) (c : UInt8) : sumFrom h (l ++ [c]) = stepN (sumFrom h l) c := by
  unfold sumFrom; rw [List.foldl_append, List.foldl_cons, List.foldl_nil]
theorem sumFrom_append (h : Nat) (a b : List UInt8) : sumFrom h (a ++ b) = sumFrom (sumFrom h a) b := by unfold sumFrom; exact List.foldl_append ..

theorem take_snoc (l : List UInt8) (k : Nat) (h : k < l.length) : l.take (k + 1) = l.take k ++ [l[k]] := by
  rw [List.take_succ_eq_append_getElem h]

theorem xor_lt64 {h : Nat} (c : UInt8) (hh : W64 h) : W64 (h ^^^ c.toNat) := by
  have hc : c.toNat < 2 ^ 64 := by have := c.toNat_lt; omega
  have := Nat.xor_lt_two_pow (n := 64) hh hc
  unfold W64; omega

theorem wrap_byte (c : UInt8) : IntKind.u64.wrap (c.toNat : Int) = (c.toNat : Int) := by
  rw [IntKind.wrap_u64]; have := c.toNat_lt; omega

theorem xor_val {h : Nat} (c : UInt8) (hh : W64 h) : bits .xor .u64 (h : Int) (IntKind.u64.wrap (c.toNat : Int)) = ((h ^^^ c.toNat : Nat) : Int) := by
  rw [wrap_byte]
  exact bits_xor_u64_nat _ _ hh (by have := c.toNat_lt; omega)

theorem step_val {h : Nat} (c : UInt8) (hh : W64 h) :
    IntKind.u64.wrap (bits .xor .u64 (h : Int) (IntKind.u64.wrap (c.toNat : Int)) * 1099511628211) = (stepN h c : Int) := by
  rw [xor_val c hh, IntKind.wrap_u64]; unfold stepN; omega

theorem step_val' {h : Nat} (c : UInt8) (hh : W64 h) :
    IntKind.u64.wrap (IntKind.u64.wrap (bits .xor .u64 (h : Int) (IntKind.u64.wrap (c.toNat : Int)) * 435) + IntKind.u64.wrap (bits .xor .u64 (h : Int) (IntKind.u64.wrap (c.toNat : Int)) * 1099511627776)) = (stepN h c : Int) := by
  rw [xor_val c hh, IntKind.wrap_u64, IntKind.wrap_u64, IntKind.wrap_u64]; unfold stepN; omega

theorem int_eq {k : IntKind} {a b : Int} (h : a = b) : Value.int k a = .int k b := by rw [h]
theorem ret_eq {u v : Value} (h : u = v) : Ending.returned u = .returned v := by rw [h]

set_option maxHeartbeats 400000 in
theorem same_any (ao bo : Option Addr) (n cap m cap' : Nat) (l r : List UInt8) (w : World) (ha : BS w ao n cap l) (hb : BS w bo m cap' r) (hn : n ≤ 9223372036854775807) :
    Calls Try.prog 16 #[.slice ao n cap, .slice bo m cap'] w fun e w' => e = .returned (.bool (l == r)) ∧ ∃ q, w' = w.drewN q := by
  by_cases hnm : n = m
  · subst hnm
    go_enter Try.func16, Try.ntmps16
    go_wp2
    go_loopw [13] (fun i wr => ∃ k : Nat, k ≤ n ∧ i = .int .i64 k ∧ l.take k = r.take k ∧ ∃ q, wr = w.drewN q) (fun i _ => n - (intOf i).toNat)
    case atStart => exact ⟨0, Nat.zero_le _, rfl, rfl, 0, rfl⟩
    case round =>
      obtain ⟨k, hk, rfl, he, q, rfl⟩ := hrel
      have HE := Lib.hid he
      clear he
      by_cases hlt : k < n
      · obtain ⟨b, off, hl, rfl, _, hck⟩ := ha.at hlt
        obtain ⟨b', off', hr, rfl, _, hck'⟩ := hb.at hlt
        generalize hx : l[k] = x at hck
        generalize hy : r[k] = y at hck'
        have HX := Lib.hid hx
        have HY := Lib.hid hy
        clear hx hy ha hb
        by_cases hxy : x = y
        · have hb1 : ((x.toNat : Int) != (y.toNat : Int)) = false := by simp [hxy]
          go_wp2
          go_quiet (fail)
          go_wp2
          go_roundw
          case rel => exact ⟨k + 1, by omega, by go_num, by rw [take_snoc l k hl, take_snoc r k hr, HE.out, HX.out, HY.out, hxy], _, rfl⟩
          case measure => simp [intOf]; omega
        · have hb1 : ((x.toNat : Int) != (y.toNat : Int)) = true := by
            rw [bne_iff_ne]
            exact fun h => hxy (UInt8.toNat_inj.1 (Int.ofNat.inj h))
          go_wp2
          go_quiet (fail)
          go_wp2
          go_ret
          refine ⟨ret_eq ?_, _, World.drewN_drewN _ _ _⟩
          have : l ≠ r := fun h => hxy (by rw [← HX.out, ← HY.out]; subst h; rfl)
          simp [this]
      · have HL1 := Lib.hid ha.len
        have HL2 := Lib.hid hb.len
        go_wp2
        go_ret
        refine ⟨ret_eq ?_, _, rfl⟩
        have h := HE.out
        rw [List.take_of_length_le (by rw [HL1.out]; omega), List.take_of_length_le (by rw [HL2.out]; omega)] at h
        simp [h]
  · have HL1 := Lib.hid ha.len
    have HL2 := Lib.hid hb.len
    clear ha hb
    go_enter Try.func16, Try.ntmps16
    go_wp2
    go_ret
    refine ⟨?_, 0, rfl⟩
    have : l ≠ r := fun h => hnm (by rw [← HL1.out, ← HL2.out, h])
    simp [this]

/-- The first k bytes copied, the others still zero. -/
def copyArr (l : List UInt8) (k : Nat) : Array Value := (bv (l.take k) ++ List.replicate (l.length - k) (Value.int .u8 0)).toArray
theorem copyArr_zero (l : List UInt8) : copyArr l 0 = madeCells #[.int .u8 0] l.length := by
  apply Array.ext'
  simp [copyArr, bv, toList_madeCells_one]
theorem copyArr_full (l : List UInt8) : copyArr l l.length = (bv l).toArray := by simp [copyArr]
theorem copyArr_size (l : List UInt8) (k : Nat) (h : k ≤ l.length) : (copyArr l k).size = l.length := by simp [copyArr, bv]; omega
theorem copyArr_step (l : List UInt8) (k : Nat) (h : k < l.length) : (copyArr l k).setIfInBounds k (Value.int .u8 (l[k].toNat : Int)) = copyArr l (k + 1) := by
  apply Array.ext'
  simp only [copyArr, List.setIfInBounds_toArray]
  rw [take_snoc l k h, show l.length - k = (l.length - (k + 1)) + 1 by omega, List.replicate_succ, bv, bv, List.map_append]
  have hl : (List.map U8 (l.take k)).length = k := by simp; omega
  rw [List.set_append_right _ _ (by omega), hl]
  simp [U8]

set_option maxHeartbeats 400000 in
theorem copy_exact (ao : Option Addr) (n cap : Nat) (l : List UInt8) (w : World) (hb : BS w ao n cap l) (hn : n ≤ 281474976710656) :
    Calls Try.prog 11 #[.slice ao n cap] w fun e w' => e = .returned (.slice (some ⟨w.heap.size, 0, none⟩) n n) ∧ w' = w.alloc (.cells (bv l).toArray 5) := by
  have hlen := hb.len
  obtain ⟨i0, hi, hz0, hz1, hz2⟩ := info_parts info_u8
  have hmk : ∀ u : World, (Instr.makeSlice 22 (.int .i64 (n : Int)) (.int .i64 (n : Int))).run Try.prog u =
      .ok (.slice (some ⟨u.heap.size, 0, none⟩) n n) (u.alloc (.cells (madeCells #[.int .u8 0] n) 5)) := fun u => by
    have h := run_make (P := Try.prog) u 22 5 i0 (.int .u8 0) Try.underlying22 hi hz0 .i64 .i64 (n : Int) (n : Int) (by omega) (Int.le_refl _) (by rw [hz2]; omega) (by omega)
    simpa [hz1, Value.cells] using h
  have HL := Lib.hid hlen
  clear hlen
  go_enter Try.func11, Try.ntmps11
  go_wp2
  go_loopw [10] (fun i wr => ∃ k : Nat, k ≤ n ∧ i = .int .i64 k ∧ wr = w.alloc (.cells (copyArr l k) 5)) (fun i _ => n - (intOf i).toNat)
  case atStart => exact ⟨0, Nat.zero_le _, rfl, by rw [← HL.out, copyArr_zero]⟩
  case round =>
    obtain ⟨k, hk, rfl, rfl⟩ := hrel
    by_cases hlt : k < n
    · obtain ⟨b, off, hl, rfl, hbW, hck0⟩ := hb.at hlt
      have hck : (w.alloc (.cells (copyArr l k) 5)).cell? ⟨b, off + k, none⟩ = some (.int .u8 (l[k].toNat : Int)) := by
        rw [World.cell?_alloc_past _ _ _ hbW]; exact hck0
      have hsz : k < (copyArr l k).size := by rw [copyArr_size _ _ (by omega)]; exact hl
      have HS := Lib.hid (copyArr_step l k hl)
      generalize l[k] = x at hck HS
      clear hb hck0 hbW
      go_wp2
      go_roundw
      case rel => exact ⟨k + 1, by omega, by go_num, by rw [HS.out]⟩
      case measure => simp [intOf]; omega
    · go_wp2
      go_ret
      refine ⟨rfl, ?_⟩
      rw [show k = n from by omega, ← HL.out, copyArr_full]

end Go.Proofs.Ytmmdojnjognccaa
