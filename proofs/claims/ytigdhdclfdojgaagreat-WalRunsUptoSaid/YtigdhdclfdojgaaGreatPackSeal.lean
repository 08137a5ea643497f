/-
  PackPlain, Len, Writer, WriteT, Write, RefsN, Refs, Reader, ReadsT, Reads, RefReads, RefTexts, Sums, Seal, Open, Tell in one text.
-/
import Derived.Test.YtigdhdclfdojgaaGreatDiskBase
import Derived.Test.YtigdhdclfdojgaaGreatProg
import Derived.Lib.Tables
import Derived.Deep.Light
import Derived.Laws.BitsAllLaws
import Derived.Test.YtigdhdclfdojgaaGreatDiskWhole
import Derived.ScopeJumps
import Derived.WalkMore
import Derived.Laws.ResultCell
set_option maxRecDepth 100000
/-
  PLAIN LAWS of packed numbers: how a number is written, how it is read, that it has one form. No program.
-/
namespace Go.Proofs.YtigdhdclfdojgaaGreat

/-- How many bytes a number has. -/
def sizeN (u : Nat) : Nat :=
  if u = 0 then 0 else if u < 256 then 1 else if u < 65536 then 2 else if u < 16777216 then 3 else if u < 4294967296 then 4
  else if u < 1099511627776 then 5 else if u < 281474976710656 then 6 else if u < 72057594037927936 then 7 else 8
/-- The last k bytes, the most significant one first. -/
def beN : Nat → Nat → List UInt8
  | 0, _ => []
  | k + 1, u => UInt8.ofNat (u / 256 ^ k) :: beN k u
def numL (u : Nat) : List UInt8 := UInt8.ofNat (sizeN u) :: beN (sizeN u) u
def ofBE (l : List UInt8) : Nat := l.foldl (fun u c => 256 * u + c.toNat) 0

theorem length_beN (k u : Nat) : (beN k u).length = k := by
  induction k with
  | zero => rfl
  | succ k ih => simp [beN, ih]
theorem sizeN_le (u : Nat) : sizeN u ≤ 8 := by
  unfold sizeN; repeat' split
  all_goals omega
theorem length_numL (u : Nat) : (numL u).length = sizeN u + 1 := by simp [numL, length_beN]

theorem foldl_be (l : List UInt8) : ∀ a : Nat, l.foldl (fun u c => 256 * u + c.toNat) a = a * 256 ^ l.length + ofBE l := by
  unfold ofBE
  induction l with
  | nil => intro a; simp
  | cons c l ih =>
    intro a
    simp only [List.foldl_cons, List.length_cons]
    rw [ih, ih (256 * 0 + c.toNat), Nat.pow_succ]
    simp only [Nat.mul_zero, Nat.zero_add, Nat.add_mul]
    rw [Nat.mul_comm 256 a, Nat.mul_assoc, Nat.mul_comm 256 (256 ^ l.length), Nat.add_assoc]
theorem ofBE_cons (c : UInt8) (l : List UInt8) : ofBE (c :: l) = c.toNat * 256 ^ l.length + ofBE l := by
  have h := foldl_be l (256 * 0 + c.toNat)
  simp only [Nat.mul_zero, Nat.zero_add] at h
  rw [← h]
  unfold ofBE
  simp
theorem ofBE_snoc (l : List UInt8) (c : UInt8) : ofBE (l ++ [c]) = 256 * ofBE l + c.toNat := by
  unfold ofBE; rw [List.foldl_append, List.foldl_cons, List.foldl_nil]
theorem ofBE_lt (l : List UInt8) : ofBE l < 256 ^ l.length := by
  induction l with
  | nil => simp [ofBE]
  | cons c l ih =>
    rw [ofBE_cons, List.length_cons, Nat.pow_succ]
    have hc := c.toNat_lt
    have h1 : (c.toNat + 1) * 256 ^ l.length ≤ 256 * 256 ^ l.length := Nat.mul_le_mul_right _ (by omega)
    rw [Nat.add_mul] at h1
    omega

theorem ofBE_beN (k : Nat) : ∀ u, ofBE (beN k u) = u % 256 ^ k := by
  induction k with
  | zero => intro u; simp [beN, ofBE, Nat.mod_one]
  | succ k ih =>
    intro u
    rw [beN, ofBE_cons, ih, length_beN, UInt8.toNat_ofNat']
    show u / 256 ^ k % 256 * 256 ^ k + u % 256 ^ k = _
    rw [Nat.pow_succ, Nat.mod_mul, Nat.mul_comm, Nat.add_comm]
theorem beN_ofBE (l : List UInt8) : beN l.length (ofBE l) = l := by
  induction l with
  | nil => rfl
  | cons c l ih =>
    have hlt := ofBE_lt l
    have hp : 0 < 256 ^ l.length := Nat.pow_pos (by omega)
    rw [List.length_cons, beN]
    have e1 : ofBE (c :: l) / 256 ^ l.length = c.toNat := by
      rw [ofBE_cons, Nat.mul_comm, Nat.mul_add_div hp, Nat.div_eq_of_lt hlt, Nat.add_zero]
    have e2 : beN l.length (ofBE (c :: l)) = beN l.length (ofBE l) := by
      have key : ∀ k u v, k ≤ l.length → beN k (v * 256 ^ l.length + u) = beN k u := by
        intro k
        induction k with
        | zero => intros; rfl
        | succ k ih2 =>
          intro u v hk
          rw [beN, beN, ih2 u v (by omega)]
          congr 1
          apply UInt8.toNat_inj.1
          rw [UInt8.toNat_ofNat', UInt8.toNat_ofNat']
          have hd : 256 ^ l.length = 256 ^ k * (256 * 256 ^ (l.length - k - 1)) := by
            rw [← Nat.pow_succ', ← Nat.pow_add]; congr 1; omega
          rw [hd, Nat.mul_comm v, Nat.mul_assoc, Nat.mul_add_div (Nat.pow_pos (by omega))]
          show (256 * 256 ^ (l.length - k - 1) * v + u / 256 ^ k) % 256 = _
          rw [Nat.mul_assoc, Nat.mul_add_mod]
      rw [ofBE_cons]
      exact key _ _ _ (Nat.le_refl _)
    rw [e1, e2, ih]
    congr 1
    apply UInt8.toNat_inj.1
    rw [UInt8.toNat_ofNat']
    have := c.toNat_lt
    exact Nat.mod_eq_of_lt this

theorem sizeN_lt (u : Nat) (h : u < 18446744073709551616) : u < 256 ^ sizeN u := by
  unfold sizeN; repeat' split
  all_goals simp; omega
theorem sizeN_min (u : Nat) {k : Nat} (h : u < 256 ^ k) (hk : k ≤ 8) : sizeN u ≤ k := by
  have h8 : k = 0 ∨ k = 1 ∨ k = 2 ∨ k = 3 ∨ k = 4 ∨ k = 5 ∨ k = 6 ∨ k = 7 ∨ k = 8 := by omega
  unfold sizeN
  rcases h8 with rfl | rfl | rfl | rfl | rfl | rfl | rfl | rfl | rfl <;> simp at h <;> (repeat' split) <;> omega
theorem sizeN_big (u : Nat) {k : Nat} (h : 256 ^ k ≤ u) (hk : k < 8) : k < sizeN u := by
  have h8 : k = 0 ∨ k = 1 ∨ k = 2 ∨ k = 3 ∨ k = 4 ∨ k = 5 ∨ k = 6 ∨ k = 7 := by omega
  unfold sizeN
  rcases h8 with rfl | rfl | rfl | rfl | rfl | rfl | rfl | rfl <;> simp at h <;> (repeat' split) <;> omega

/-- A row of at most eight bytes is a number's one form just where it is empty or does not begin with a nought. -/
theorem sizeN_ofBE (l : List UInt8) (hl : l.length ≤ 8) : sizeN (ofBE l) = l.length ↔ (l = [] ∨ ∃ c r, l = c :: r ∧ c ≠ 0) := by
  cases l with
  | nil => simp [ofBE, sizeN]
  | cons c r =>
    have hlt := ofBE_lt r
    have hp : 0 < 256 ^ r.length := Nat.pow_pos (by omega)
    simp only [List.length_cons] at hl ⊢
    constructor
    · intro h
      refine Or.inr ⟨c, r, rfl, fun hc => ?_⟩
      subst hc
      rw [ofBE_cons] at h
      simp only [UInt8.toNat_zero, Nat.zero_mul, Nat.zero_add] at h
      have := sizeN_min _ hlt (by omega)
      omega
    · rintro (h | ⟨c', r', h, hc⟩)
      · cases h
      · obtain ⟨rfl, rfl⟩ := List.cons.inj h
        have h1 := sizeN_min (ofBE (c :: r)) (k := r.length + 1) (ofBE_lt _) hl
        have hc1 : 1 ≤ c.toNat := by
          rcases Nat.eq_zero_or_pos c.toNat with h0 | h0
          · exact (hc (UInt8.toNat_inj.1 h0)).elim
          · exact h0
        have h2 : 256 ^ r.length ≤ ofBE (c :: r) := by
          rw [ofBE_cons]
          have := Nat.mul_le_mul_right (256 ^ r.length) hc1
          omega
        have h3 := sizeN_big _ h2 (by omega)
        omega

theorem beN_take (s u : Nat) {k d : Nat} (h : k + d + 1 = s) : (beN s u).take (k + 1) = (beN s u).take k ++ [UInt8.ofNat (u / 256 ^ d)] := by
  have hk : k < (beN s u).length := by rw [length_beN]; omega
  rw [List.take_succ_eq_append_getElem hk]
  congr 2
  have key : ∀ (s k d : Nat) (hk : k < (beN s u).length), k + d + 1 = s → (beN s u)[k] = UInt8.ofNat (u / 256 ^ d) := by
    intro s
    induction s with
    | zero => intro k d hk h; omega
    | succ s ih =>
      intro k d hk h
      cases k with
      | zero => simp only [beN, List.getElem_cons_zero]; congr 3; omega
      | succ k => simp only [beN, List.getElem_cons_succ]; exact ih k d (by rw [length_beN]; omega) (by omega)
  exact key s k d hk h

end Go.Proofs.YtigdhdclfdojgaaGreat

/-
  THE WALKS of Len64 and Size: how many bytes a number has.
-/
namespace Go.Proofs.YtigdhdclfdojgaaGreat
open Go.RowKit

/-- The number of bits of a byte. -/
def bits8 (y : Nat) : Nat := if y = 0 then 0 else if y < 2 then 1 else if y < 4 then 2 else if y < 8 then 3 else if y < 16 then 4 else if y < 32 then 5 else if y < 64 then 6 else if y < 128 then 7 else 8

theorem len8_bits : ∀ y : Fin 256, Lib.len8 (y.val : Int) = (bits8 y.val : Int) := by decide +kernel
theorem len8_at (y : Nat) (h : y < 256) : Lib.len8 (y : Int) = (bits8 y : Int) := len8_bits ⟨y, h⟩
theorem bits8_le (y : Nat) : bits8 y ≤ 8 := by unfold bits8; repeat' split
                                               all_goals omega

def LenPost (x : Nat) (w : World) (e : Ending) (w' : World) : Prop := ∃ b : Nat, e = .returned (.int .i64 (b : Int)) ∧ (b + 7) / 8 = sizeN x ∧ b ≤ 64 ∧ w = w'

theorem tab_get (y : Int) (h0 : 0 ≤ y) (h1 : y < 256) (h : y.toNat < Lib.len8tab.size) : (Lib.len8tab[y.toNat]'h).toNat = bits8 y.toNat := by
  have e := len8_at y.toNat (by omega)
  unfold Lib.len8 at e
  rw [show ((y.toNat : Nat) : Int).toNat = y.toNat from by omega, getElem?_pos Lib.len8tab y.toNat h] at e
  exact Int.ofNat.inj e
theorem bits8_pos {y : Nat} (h : 1 ≤ y) : 1 ≤ bits8 y := by unfold bits8; repeat' split
                                                            all_goals omega

/-- The last step of each way. -/
theorem len_end (x y : Int) (k m : Nat) (w : World) (v : Int) (h0 : 0 ≤ y) (h1 : y < 256) (h : y.toNat < Lib.len8tab.size) (hk : k = 8 * m) (hm : m ≤ 7) (hv : v = wrap64 ((k : Int) + wrap64 ((Lib.len8tab[y.toNat]'h).toNat : Int)))
    (hs : (1 ≤ y ∧ sizeN x.toNat = m + 1) ∨ (y = 0 ∧ m = 0 ∧ sizeN x.toNat = 0)) : LenPost x.toNat w (.returned (.int .i64 v)) w := by
  have a := bits8_le y.toNat
  rw [tab_get y h0 h1 h] at hv
  refine ⟨k + bits8 y.toNat, ?_, ?_, by omega, rfl⟩
  · have e : v = ((k + bits8 y.toNat : Nat) : Int) := by rw [hv]; unfold wrap64; omega
    rw [e]
  · rcases hs with ⟨h2, h3⟩ | ⟨rfl, rfl, h3⟩
    · have b := bits8_pos (y := y.toNat) (by omega)
      rw [h3]; omega
    · rw [h3, hk]; rfl

theorem size_of (x : Int) (_h0 : 0 ≤ x) (m : Nat) (hm : m ≤ 7) (h : (256 : Int) ^ m ≤ x) (h' : m = 7 ∨ x < (256 : Int) ^ (m + 1)) : sizeN x.toNat = m + 1 := by
  have h8 : m = 0 ∨ m = 1 ∨ m = 2 ∨ m = 3 ∨ m = 4 ∨ m = 5 ∨ m = 6 ∨ m = 7 := by omega
  unfold sizeN
  rcases h8 with rfl | rfl | rfl | rfl | rfl | rfl | rfl | rfl <;> simp at h h' <;> (repeat' split) <;> omega

set_option maxRecDepth 1000000 in
set_option maxHeartbeats 4000000 in
theorem len64_int (x : Int) (w : World) (h0 : 0 ≤ x) (h1 : x ≤ 18446744073709551615) : Calls Tryz.prog 111 #[.int .u64 x] w (LenPost x.toNat w) := by
  go_enter Tryz.func111, Tryz.ntmps111
  go_wp2
  all_goals first
    | (go_ret; go_light)
    | (exfalso
       go_light
       have hs := Lib.len8tab_size
       omega)
  all_goals first
    | exact len_end x (x / 4294967296 / 65536 / 256) 56 7 w _ (by omega) (by omega) _ (by decide) (by decide) rfl (Or.inl ⟨by omega, size_of x h0 7 (by decide) (by simp; omega) (Or.inl rfl)⟩)
    | exact len_end x (x / 4294967296 / 65536) 48 6 w _ (by omega) (by omega) _ (by decide) (by decide) rfl (Or.inl ⟨by omega, size_of x h0 6 (by decide) (by simp; omega) (Or.inr (by simp; omega))⟩)
    | exact len_end x (x / 4294967296 / 256) 40 5 w _ (by omega) (by omega) _ (by decide) (by decide) rfl (Or.inl ⟨by omega, size_of x h0 5 (by decide) (by simp; omega) (Or.inr (by simp; omega))⟩)
    | exact len_end x (x / 4294967296) 32 4 w _ (by omega) (by omega) _ (by decide) (by decide) rfl (Or.inl ⟨by omega, size_of x h0 4 (by decide) (by simp; omega) (Or.inr (by simp; omega))⟩)
    | exact len_end x (x / 65536 / 256) 24 3 w _ (by omega) (by omega) _ (by decide) (by decide) rfl (Or.inl ⟨by omega, size_of x h0 3 (by decide) (by simp; omega) (Or.inr (by simp; omega))⟩)
    | exact len_end x (x / 65536) 16 2 w _ (by omega) (by omega) _ (by decide) (by decide) rfl (Or.inl ⟨by omega, size_of x h0 2 (by decide) (by simp; omega) (Or.inr (by simp; omega))⟩)
    | exact len_end x (x / 256) 8 1 w _ (by omega) (by omega) _ (by decide) (by decide) rfl (Or.inl ⟨by omega, size_of x h0 1 (by decide) (by simp; omega) (Or.inr (by simp; omega))⟩)
    | (rename_i hsz
       refine len_end x x 0 0 w _ (by omega) (by omega) (by omega) (by decide) (by decide) ?_ ?_
       · show wrap64 (wrap64 _) = wrap64 (0 + wrap64 _)
         rw [Int.zero_add]
       · by_cases hx : x = 0
         · exact Or.inr ⟨hx, rfl, by rw [hx]; rfl⟩
         · exact Or.inl ⟨by omega, size_of x h0 0 (by decide) (by simp; omega) (Or.inr (by simp; omega))⟩)

theorem len64_any (x : Nat) (w : World) (hx : W64 x) : Calls Tryz.prog 111 #[.int .u64 (x : Int)] w (LenPost x w) := by
  have h := len64_int (x : Int) w (by omega) (by unfold W64 at hx; omega)
  rwa [Int.toNat_natCast] at h

set_option maxHeartbeats 400000 in
theorem size_any (x : Nat) (w : World) (hx : W64 x) : Calls Tryz.prog 115 #[.int .u64 (x : Int)] w fun e w' => e = .returned (.int .i64 ((sizeN x : Int) + 1)) ∧ w = w' := by
  have HX := Lib.hid hx
  clear hx
  go_enter Tryz.func115, Tryz.ntmps115
  go_wp2_with fail
  refine (len64_any x w HX.out).mono ?_
  rintro e w' ⟨b, rfl, hb, h64, rfl⟩
  have HB := Lib.hid hb
  clear hb
  go_wp2
  go_ret
  refine ⟨ret_eq (int_eq ?_), rfl⟩
  have := HB.out
  omega

end Go.Proofs.YtigdhdclfdojgaaGreat

/-
  THE WALKS of pack's Writer: what has been written so far is a list of bytes.
-/
namespace Go.Proofs.YtigdhdclfdojgaaGreat
open Go.RowKit

/-- A writer at block p that has written l; its blocks are of F. -/
def Wr (F : Nat → Prop) (w : World) (p : Nat) (l : List UInt8) : Prop :=
  F p ∧ ∃ ao n cap, w.heap[p]? = some (.cells #[.slice ao n cap] 156 (0, 0)) ∧ Own (fun k => F k ∧ k ≠ p) w 5 1 ao n cap (bv l)

theorem Wr.mono {F G : Nat → Prop} {w : World} {p : Nat} {l : List UInt8} (h : Wr F w p l) (hfg : ∀ k, k < w.heap.size → F k → G k) : Wr G w p l := by
  obtain ⟨hp, ao, n, cap, hh, ho⟩ := h
  exact ⟨hfg p (Array.getElem?_eq_some_iff.1 hh).1 hp, ao, n, cap, hh, ho.mono (fun k hk h => ⟨hfg k hk h.1, h.2⟩)⟩
theorem Wr.kp {F S : Nat → Prop} {w w' : World} {p : Nat} {l : List UInt8} (h : Wr F w p l) (k : Kp S w w') (hd : ∀ k, F k → ¬ S k) : Wr F w' p l := by
  obtain ⟨hp, ao, n, cap, hh, ho⟩ := h
  exact ⟨hp, ao, n, cap, k.heap hh (hd p hp), ho.kp k (fun j hj => hd j hj.1)⟩
theorem Wr.keep {F : Nat → Prop} {w w' : World} {p : Nat} {l : List UInt8} (h : Wr F w p l) (k : Kp Noone w w') : Wr F w' p l := h.kp k (fun _ _ c => c.elim)

theorem cell_one {w : World} {p e : Nat} {v : Value} (h : w.heap[p]? = some (.cells #[v] e (0, 0))) : w.cell? ⟨p, 0, none⟩ = some v ∧ w.frozen? ⟨p, 0, none⟩ = false := by
  constructor
  · rw [cell_of_row w p 0 _ e (0, 0) h]; rfl
  · simp [World.frozen?, h]
theorem heap_set_one {w : World} {p e : Nat} {v u : Value} (h : w.heap[p]? = some (.cells #[v] e (0, 0))) : (w.setCell ⟨p, 0, none⟩ u).heap[p]? = some (.cells #[u] e (0, 0)) := by
  simp [World.setCell, Array.getElem?_modify, h]

/-- Behind 'w.b = append(w.b, ..)'. -/
theorem Wr.put {F : Nat → Prop} {w w1 : World} {p : Nat} {v : Value} {ao' : Option Addr} {n' cap' : Nat} {l : List UInt8} (hp : F p) (hh : w.heap[p]? = some (.cells #[v] 156 (0, 0)))
    (ho : Own (Ex (fun k => F k ∧ k ≠ p) w w1) w1 5 1 ao' n' cap' (bv l)) (k : Kp (fun k => F k ∧ k ≠ p) w w1) :
    Wr (Ex F w w1) (w1.setCell ⟨p, 0, none⟩ (.slice ao' n' cap')) p l ∧ Kp F w (w1.setCell ⟨p, 0, none⟩ (.slice ao' n' cap')) := by
  have hh1 := k.heap hh (fun h => h.2 rfl)
  have hpw := (Array.getElem?_eq_some_iff.1 hh).1
  refine ⟨⟨Or.inl hp, ao', n', cap', heap_set_one hh1, ?_⟩, ?_⟩
  · have h1 : Own (fun k => Ex F w w1 k ∧ k ≠ p) w1 5 1 ao' n' cap' (bv l) := ho.mono (fun j _ h => by
      rcases h with h | h
      · exact ⟨Or.inl h.1, h.2⟩
      · exact ⟨Or.inr h, by omega⟩)
    have h2 : Kp (fun k => k = p) w1 (w1.setCell ⟨p, 0, none⟩ (.slice ao' n' cap')) := (Kp.refl (fun k => k = p) w1).setCell (p := ⟨p, 0, none⟩) (fun _ => rfl) _
    exact h1.kp h2 (fun j hj => hj.2)
  · exact (k.mono (fun j _ h => h.1)).setCell (fun _ => hp) _

/-- A put in a later world: the blocks that are his by then. -/
theorem Wr.chain {F : Nat → Prop} {w wr wA w3 wf : World} {p : Nat} {l : List UInt8} (h : Wr (Ex (Ex F w wr) wA w3) wf p l) (ha : w.heap.size ≤ wA.heap.size) : Wr (Ex F w wf) wf p l :=
  h.mono (fun k hk h => by
    rcases h with h | h
    · rcases h with h | h
      · exact Or.inl h
      · exact Or.inr ⟨h.1, hk⟩
    · exact Or.inr ⟨by omega, hk⟩)
theorem Wr.late {F : Nat → Prop} {w w' wf : World} {p : Nat} {l : List UInt8} (h : Wr (Ex F w w') wf p l) : Wr (Ex F w wf) wf p l :=
  h.mono (fun k hk h => by
    rcases h with h | h
    · exact Or.inl h
    · exact Or.inr ⟨h.1, hk⟩)
/-- Two spans of one writer. -/
theorem Kp.ex {F : Nat → Prop} {a b c : World} (h : Kp F a b) (k : Kp (Ex F a b) b c) : Kp F a c :=
  h.fin k (fun _ hj => by rcases hj with hj | hj; exact Or.inl hj; exact Or.inr hj.1)

/-- What a writer's call answers. -/
def WrPost (F : Nat → Prop) (w : World) (p : Nat) (l : List UInt8) (e : Ending) (w' : World) : Prop :=
  e = .returned (.pointer (some ⟨p, 0, none⟩)) ∧ Wr (Ex F w w') w' p l ∧ Kp F w w'

set_option maxHeartbeats 400000 in
set_option maxRecDepth 100000 in
theorem newWriter_any (w : World) : Calls Tryz.prog 73 #[] w fun e w' => ∃ p, e = .returned (.pointer (some ⟨p, 0, none⟩)) ∧ Wr (Ex Noone w w') w' p [] ∧ Kp Noone w w' ∧ w.heap.size ≤ p := by
  go_enter Tryz.func73, Tryz.ntmps73
  go_wp2
  go_ret
  refine ⟨w.heap.size, rfl, ⟨Or.inr ⟨Nat.le_refl _, by simp⟩, none, 0, 0, heap_alloc_new w _, Own.nil _ _ _ _ _⟩, (Kp.refl _ _).alloc _, Nat.le_refl _⟩

theorem run_shr8 (u d : Nat) (hd : d ≤ 7) (W : World) : (Op.shift BinOp.shr IntKind.u64 (u : Int) IntKind.i64 (IntKind.i64.wrap (8 * (d : Int)))).run Tryz.prog W = .ok (.int .u64 ((u / 256 ^ d : Nat) : Int)) W := by
  have hw : IntKind.i64.wrap (8 * (d : Int)) = 8 * (d : Int) := IntWalk.i64_in _ (by omega)
  have hp : (u : Int) / 2 ^ (8 * (d : Int)).toNat = ((u / 256 ^ d : Nat) : Int) := by
    have : (8 * (d : Int)).toNat = 8 * d := by omega
    have h2 : (2 : Int) ^ (8 * d) = ((256 ^ d : Nat) : Int) := by
      rw [Int.pow_mul]; simp
    rw [this, h2, Int.natCast_ediv]
  rw [hw, shift_shr _ _ _ _ (by omega) (by simp [IntKind.bits]; omega), hp]
  rfl

set_option maxHeartbeats 1000000 in
set_option maxRecDepth 100000 in
theorem writerNum_any (F : Nat → Prop) (p : Nat) (l : List UInt8) (u : Nat) (w : World) (hw : Wr F w p l) (hu : W64 u) (hl : l.length ≤ 140737488355000) :
    Calls Tryz.prog 94 #[.pointer (some ⟨p, 0, none⟩), .int .u64 (u : Int)] w (WrPost F w p (l ++ numL u)) := by
  obtain ⟨i0, hi, hz0, hz1, hz2⟩ := info_parts info_u8
  have HU := Lib.hid hu
  have hs8 := sizeN_le u
  clear hu
  obtain ⟨hp, ao, n, cap, hh, ho⟩ := hw
  obtain ⟨hc0, hf0⟩ := cell_one hh
  have hn : n = l.length := by have := ho.1; rw [length_bv] at this; omega
  have hnb : n ≤ 140737488355000 := by omega
  have HN := Lib.hid hn
  clear hn hl
  go_enter Tryz.func94, Tryz.ntmps94
  go_wp2_with fail
  refine (size_any u _ HU.out).mono ?_
  rintro e w' ⟨rfl, rfl⟩
  have HR : Hid (∀ W : World, Row (W.alloc (.cells #[.int .u8 (sizeN u : Int)] 5)) (some ⟨W.heap.size, 0, none⟩) (bv [UInt8.ofNat (sizeN u)])) := by
    intro W
    refine Row.ofHeap (e := 5) (fr := (0, 0)) ?_
    rw [heap_alloc_new]
    simp [bv, U8]
    omega
  have kal : ∀ o : Obj, Kp Noone w (w.alloc o) := fun o => (Kp.refl _ _).alloc o
  have hha := fun o : Obj => (kal o).heap hh id
  have HSL : Hid (numL u = UInt8.ofNat (sizeN u) :: beN (sizeN u) u) := Lib.hid rfl
  generalize sizeN u = s at *
  go_wp2_with (at_builtin; refine wpList_append_gen _ rfl (.tmp 16) (.tmp 19) 42 rfl 5 i0 (.int .u8 0) 1 1 Tryz.underlying42 hi hz0 hz1 hz2 rfl ao n cap rfl (some ⟨w.heap.size, 0, none⟩) 1 1 rfl _ _ (ho.keep (kal _)) (bv [UInt8.ofNat s]) rfl (HR.out _) (bv_one _) (by omega) (by unfold maxLen; omega) ?_)
  intro ao1 cap1 w1 ho1 k1
  have hh1 := k1.heap (hha _) (fun h => h.2 rfl)
  obtain ⟨hc1, hf1⟩ := cell_one hh1
  rw [bv_append] at ho1
  have P := Wr.put hp (hha _) ho1 k1
  have hs1 := k1.size
  have hsA := (kal (.cells #[.int .u8 (s : Int)] 5)).size
  have K2 := (kal _).none.trans P.2
  have W2 : Wr (Ex F w (w1.setCell ⟨p, 0, none⟩ (.slice ao1 (n + 1) cap1))) (w1.setCell ⟨p, 0, none⟩ (.slice ao1 (n + 1) cap1)) p (l ++ [UInt8.ofNat s]) :=
    P.1.mono (fun k hk h => by
      rcases h with h | h
      · exact Or.inl h
      · exact Or.inr ⟨by omega, hk⟩)
  clear ho1 k1 hh1 hha hc0 hf0 ho hh P hs1 hsA HR
  go_wp2_with fail
  generalize w1.setCell ⟨p, 0, none⟩ (.slice ao1 (n + 1) cap1) = w2 at *
  clear hc1 hf1
  go_loopw [6] (fun i wr => ∃ (k : Nat) (j : Int), k ≤ s ∧ i = .int .i64 j ∧ j = (s : Int) - 1 - k ∧ Wr (Ex F w wr) wr p (l ++ [UInt8.ofNat s] ++ (beN s u).take k) ∧ Kp F w wr) (fun i _ => (intOf i + 1).toNat)
  case atStart => exact ⟨0, _, Nat.zero_le _, rfl, by omega, by simpa using W2, K2⟩
  case round =>
    obtain ⟨k, j, hk, rfl, hj, hwr, kr⟩ := hrel
    have HJ := Lib.hid hj
    by_cases h0 : 0 ≤ j
    · obtain ⟨d, rfl⟩ := Int.eq_ofNat_of_zero_le h0
      have hd : d ≤ 7 := by omega
      have HB := Lib.hid (beN_take s u (k := k) (d := d) (by omega))
      obtain ⟨hp', bo, m, c, hh, ho⟩ := hwr
      obtain ⟨hc0, hf0⟩ := cell_one hh
      clear hj W2
      have hsh := run_shr8 u d hd
      have hm : m = l.length + 1 + k := by
        have := ho.1
        simp [bv, length_beN] at this
        omega
      have hmb : m ≤ 140737488355016 := by have := HN.out; omega
      clear hm
      generalize u / 256 ^ d = x at *
      have HR : Hid (∀ W : World, Row (W.alloc (.cells #[.int .u8 ((x : Int) % 256)] 5)) (some ⟨W.heap.size, 0, none⟩) (bv [UInt8.ofNat x])) := by
        intro W
        refine Row.ofHeap (e := 5) (fr := (0, 0)) ?_
        rw [heap_alloc_new]
        simp [bv, U8]
      have kar : ∀ o : Obj, Kp Noone wr (wr.alloc o).drew := fun o => ((Kp.refl _ _).alloc o).drew
      have hha := fun o : Obj => (kar o).heap hh id
      have hka := fun o : Obj => cell_one (hha o)
      have hka1 := fun o : Obj => (hka o).1
      go_wp2_with fail
      go_region_law (refine step_append_gen rfl (.tmp 33) (.tmp 39) 42 rfl 5 i0 (.int .u8 0) 1 1 Tryz.underlying42 hi hz0 hz1 hz2 rfl bo m c rfl (some ⟨wr.heap.size, 0, none⟩) 1 1 rfl _ _ (ho.keep (kar _)) (bv [UInt8.ofNat x]) rfl ((HR.out _).keep ((Kp.refl _ _).drew)) (bv_one _) (by omega) (by unfold maxLen; omega) ?_; intro bo' c' w3 ho3 k3; have hh3 := k3.heap (hha _) (fun h => h.2 rfl); obtain ⟨hc3, hf3⟩ := cell_one hh3)
      all_goals (
        rw [bv_append] at ho3
        have P := Wr.put hp' (hha _) ho3 k3
        have hsA := (kar (.cells #[.int .u8 (IntKind.u8.wrap (x : Int))] 5)).size
        have hwr := kr.size
        have Wf := Wr.chain P.1 (by omega)
        have Kf := kr.ex ((kar _).none.trans P.2)
        rw [List.append_assoc _ _ [UInt8.ofNat x], ← HB.out] at Wf
        clear ho3 k3 hh3 hha hka hka1 hc0 hf0 ho hh P HR kar
        go_simp
        rename_i hkk
        refine hkk _ _ ?_
        clear hkk
        go_wp2_with fail
        exact ⟨⟨k + 1, _, by have := HJ.out; omega, rfl, by have := HJ.out; omega, by simpa using Wf, Kf⟩, by simp [intOf]⟩)
    · have hks : k = s := by omega
      subst hks
      have hx : l ++ [UInt8.ofNat k] ++ (beN k u).take k = l ++ numL u := by
        rw [HSL.out, List.take_of_length_le (by rw [length_beN]; omega), List.append_assoc]; rfl
      rw [hx] at hwr
      clear W2 K2
      go_wp2_with fail
      go_ret
      exact ⟨rfl, hwr, kr⟩

end Go.Proofs.YtigdhdclfdojgaaGreat

/-
  THE WALKS of the writer's texts.
-/
namespace Go.Proofs.YtigdhdclfdojgaaGreat
open Go.RowKit

set_option maxHeartbeats 400000 in
set_option maxRecDepth 100000 in
theorem writerText_any (F : Nat → Prop) (p : Nat) (l : List UInt8) (bo : Option Addr) (m c : Nat) (b : List UInt8) (w : World) (hw : Wr F w p l) (hb : BS w bo m c b) (hoff : Off F bo) (hl : l.length + m ≤ 140737488355000) :
    Calls Tryz.prog 74 #[.pointer (some ⟨p, 0, none⟩), .slice bo m c] w (WrPost F w p (l ++ numL m ++ b)) := by
  obtain ⟨i0, hi, hz0, hz1, hz2⟩ := info_parts info_u8
  go_enter Tryz.func74, Tryz.ntmps74
  go_wp2_with fail
  refine (writerNum_any F p l m _ hw (by unfold W64; omega) (by omega)).mono ?_
  rintro e w1 ⟨rfl, hw1, k1⟩
  have hb1 := hb.kp k1 hoff
  obtain ⟨hp', ao, n, cap, hh, ho⟩ := hw1
  obtain ⟨hc0, hf0⟩ := cell_one hh
  have hnb : n + m ≤ 140737488355016 := by
    have := ho.1
    rw [length_bv, List.length_append, length_numL] at this
    have := sizeN_le m
    omega
  go_wp2_with (at_builtin; refine wpList_append_gen _ rfl (.tmp 16) (.tmp 17) 42 rfl 5 i0 (.int .u8 0) 1 1 Tryz.underlying42 hi hz0 hz1 hz2 rfl ao n cap rfl bo m c rfl _ _ ho (bv b) (by rw [length_bv, hb.len, Nat.mul_one]) hb1.row (bv_one _) (by omega) (by unfold maxLen; omega) ?_)
  intro ao1 cap1 w2 ho2 k2
  have hh2 := k2.heap hh (fun h => h.2 rfl)
  obtain ⟨hc2, hf2⟩ := cell_one hh2
  rw [bv_append] at ho2
  have P := Wr.put hp' hh ho2 k2
  have hs1 := k1.size
  have Wf := Wr.chain P.1 hs1
  have Kf := k1.ex P.2
  clear ho2 k2 hh2 hc0 hf0 ho hh P
  go_wp2_with fail
  go_ret
  exact ⟨rfl, Wf, Kf⟩

set_option maxHeartbeats 400000 in
set_option maxRecDepth 100000 in
/-- All that was written, in new memory. -/
theorem writerBytes_any (F : Nat → Prop) (p : Nat) (l : List UInt8) (w : World) (hw : Wr F w p l) (hl : l.length ≤ 140737488355328) :
    Calls Tryz.prog 76 #[.pointer (some ⟨p, 0, none⟩)] w fun e w' => ∃ ao cap, e = .returned (.slice ao l.length cap) ∧ Own (Ex Noone w w') w' 5 1 ao l.length cap (bv l) ∧ Kp Noone w w' := by
  obtain ⟨i0, hi, hz0, hz1, hz2⟩ := info_parts info_u8
  obtain ⟨hp', ao, n, cap, hh, ho⟩ := hw
  obtain ⟨hc0, hf0⟩ := cell_one hh
  have hn : l.length = n := by have := ho.1; rw [length_bv] at this; omega
  rw [hn] at hl ⊢
  go_enter Tryz.func76, Tryz.ntmps76
  go_wp2_with (at_builtin; refine wpList_append_gen _ rfl (.const (.slice none 0 0)) (.tmp 8) 42 rfl 5 i0 (.int .u8 0) 1 1 Tryz.underlying42 hi hz0 hz1 hz2 rfl none 0 0 rfl ao n cap rfl Noone [] (Own.nil _ _ _ _ _) (bv l) (by rw [length_bv, hn, Nat.mul_one]) ho.row (bv_one _) (by omega) (by unfold maxLen; omega) ?_)
  intro ao1 cap1 w2 ho2 k2
  go_wp2_with fail
  go_ret

  exact ⟨ao1, cap1, rfl, ho2, k2⟩

end Go.Proofs.YtigdhdclfdojgaaGreat

/-
  THE WALKS of pack's signs, and of the writer's other calls.
-/
namespace Go.Proofs.YtigdhdclfdojgaaGreat
open Go.RowKit

def foldN (i : Int) : Nat := if 0 ≤ i then (2 * i).toNat else (-2 * i - 1).toNat
def unfoldN (u : Nat) : Int := if u % 2 = 0 then ((u / 2 : Nat) : Int) else -((u / 2 : Nat) : Int) - 1

theorem u64_xor_max (a : Nat) (ha : a < 18446744073709551616) : bits .xor .u64 (a : Int) 18446744073709551615 = ((18446744073709551615 - a : Nat) : Int) := by
  show IntKind.u64.wrap ((BitVec.ofInt 64 (a : Int) ^^^ BitVec.ofInt 64 18446744073709551615).toNat : Int) = _
  have h1 : BitVec.ofInt 64 18446744073709551615 = BitVec.allOnes 64 := by decide
  rw [h1, BitVec.xor_allOnes, BitVec.toNat_not, ofInt_u64 a (by omega), IntKind.wrap_u64]
  omega
theorem u64_xor_zero (a : Nat) (ha : a < 18446744073709551616) : bits .xor .u64 (a : Int) 0 = (a : Int) := by
  have := u64_xor_nat a 0 ha (by omega)
  simpa using this
theorem i64_xor_zero (a : Nat) (ha : a < 9223372036854775808) : bits .xor .i64 (a : Int) 0 = (a : Int) := by
  show IntKind.i64.wrap ((BitVec.ofInt 64 (a : Int) ^^^ BitVec.ofInt 64 0).toNat : Int) = _
  have h1 : BitVec.ofInt 64 0 = 0#64 := by decide
  rw [h1, BitVec.xor_zero, ofInt_u64 a (by omega), IntKind.wrap_i64]
  omega
theorem i64_xor_neg (a : Nat) (ha : a < 9223372036854775808) : bits .xor .i64 (a : Int) (-1) = -1 - (a : Int) := by
  show IntKind.i64.wrap ((BitVec.ofInt 64 (a : Int) ^^^ BitVec.ofInt 64 (-1)).toNat : Int) = _
  have h1 : BitVec.ofInt 64 (-1) = BitVec.allOnes 64 := by decide
  rw [h1, BitVec.xor_allOnes, BitVec.toNat_not, ofInt_u64 a (by omega), IntKind.wrap_i64]
  omega

theorem foldN_lt (i : Int) (h0 : -9223372036854775808 ≤ i) (h1 : i ≤ 9223372036854775807) : W64 (foldN i) := by
  unfold foldN W64
  split <;> omega
theorem unfold_fold (i : Int) : unfoldN (foldN i) = i := by
  unfold foldN unfoldN
  split <;> split <;> omega

theorem u64_and_one (u : Nat) (hu : u < 18446744073709551616) : bits .and .u64 (u : Int) 1 = ((u % 2 : Nat) : Int) := by
  have := u64_and_nat u 1 hu (by omega)
  rw [Nat.and_one_is_mod] at this
  simpa using this

end Go.Proofs.YtigdhdclfdojgaaGreat

/-
  THE WALKS of the document's own writer.
-/
namespace Go.Proofs.YtigdhdclfdojgaaGreat
open Go.RowKit

/-- New bytes: what a reference answers. -/
def NewB (w : World) (l : List UInt8) (e : Ending) (w' : World) : Prop :=
  ∃ ao cap, e = .returned (.slice ao l.length cap) ∧ Own (Ex Noone w w') w' 5 1 ao l.length cap (bv l) ∧ Kp Noone w w'

theorem row_one (w : World) (x : UInt8) (v : Int) (hv : v = (x.toNat : Int)) : (w.alloc (.cells #[.int .u8 v] 5)).heap[w.heap.size]? = some (.cells (bv [x]).toArray 5 (0, 0)) := by
  rw [heap_alloc_new]
  simp [bv, U8, hv]

theorem sizeN_next (u k : Nat) (hu : W64 u) (hk : k ≤ sizeN u) : (0 < u / 256 ^ k) = (k < sizeN u) := by
  have hs := sizeN_lt u (by unfold W64 at hu; omega)
  have h8 := sizeN_le u
  apply propext
  constructor
  · intro h
    have h1 : 256 ^ k ≤ u := by
      rcases Nat.lt_or_ge u (256 ^ k) with c | c
      · rw [Nat.div_eq_of_lt c] at h; omega
      · exact c
    rcases Nat.lt_or_ge k (sizeN u) with c | c
    · exact c
    · have : k = sizeN u := by omega
      subst this
      omega
  · intro h
    have h1 : 256 ^ k ≤ u := by
      rcases Nat.lt_or_ge u (256 ^ k) with c | c
      · have := sizeN_min u c (by omega); omega
      · exact c
    exact Nat.div_pos h1 (Nat.pow_pos (by omega))

theorem beN_cons (k u : Nat) : beN (k + 1) u = UInt8.ofNat (u / 256 ^ k % 256) :: beN k u := by
  show UInt8.ofNat (u / 256 ^ k) :: beN k u = _
  congr 1
  apply UInt8.toNat_inj.1
  simp

theorem push_one {w wr w1 : World} {o : Obj} {e sz : Nat} {ao : Option Addr} {n cap : Nat} {xs : List Value} (kr : Kp Noone w wr) (h : Own (Ex (fun g => g = wr.heap.size) (wr.alloc o) w1) w1 e sz ao n cap xs) (k : Kp (fun g => g = wr.heap.size) (wr.alloc o) w1) :
    Own (Ex Noone w w1) w1 e sz ao n cap xs ∧ Kp Noone w w1 := by
  have hr := kr.size
  have hs := (kr.alloc o).size
  refine ⟨h.mono fun g hg h => ?_, (kr.alloc o).fin k (fun g h => Or.inr (by omega))⟩
  rcases h with h | h
  · exact Or.inr ⟨by omega, hg⟩
  · exact Or.inr ⟨by omega, hg⟩

set_option maxHeartbeats 1000000 in
set_option maxRecDepth 100000 in
theorem refNum_any (u : Nat) (w : World) (hu : W64 u) : Calls Tryz.prog 100 #[.int .u64 (u : Int)] w (NewB w (numL u)) := by
  obtain ⟨i0, hi, hz0, hz1, hz2⟩ := info_parts info_u8
  have HU := Lib.hid hu
  have hs8 := sizeN_le u
  have hlen := length_numL u
  clear hu
  unfold NewB
  rw [hlen]
  have HN : Hid (numL u = UInt8.ofNat (sizeN u) :: beN (sizeN u) u) := Lib.hid rfl
  have HD : Hid (∀ k, k ≤ sizeN u → (0 < u / 256 ^ k) = (k < sizeN u)) := Lib.hid (fun k hk => sizeN_next u k HU.out hk)
  clear hlen
  go_enter Tryz.func100, Tryz.ntmps100
  go_wp2_with fail
  go_loopw [0, 3] (fun i d wr => ∃ (k x : Nat) (ao : Option Addr) (cap : Nat), k ≤ sizeN u ∧ x = u / 256 ^ k ∧ x ≤ 18446744073709551615 ∧ i = .int .u64 (x : Int) ∧ d = .slice ao k cap ∧ Own (Ex Noone w wr) wr 5 1 ao k cap (bv (beN k u)) ∧ Kp Noone w wr) (fun i _ _ => (intOf i).toNat)
  case atStart => exact ⟨0, u, _, 0, Nat.zero_le _, by simp, by have := HU.out; unfold W64 at this; omega, rfl, rfl, Own.nil _ _ _ _ _, (Kp.refl _ _).alloc _⟩
  case round =>
    obtain ⟨k, x, ao, cap, hk, hx, hxb, rfl, rfl, ho, kr⟩ := hrel
    have HX := Lib.hid hx
    clear hx
    have hr := kr.size
    have hpos := HD.out k hk
    rw [← HX.out] at hpos
    have hHA := fun v hv => row_one wr (UInt8.ofNat (x % 256)) v hv
    have kar : ∀ o : Obj, Kp Noone wr (wr.alloc o) := fun o => (Kp.refl _ _).alloc o
    by_cases h0 : 0 < x
    · have hks : k < sizeN u := hpos ▸ h0
      clear hpos
      go_wp2_with (at_builtin; refine wpList_append_gen _ rfl (.tmp 10) (.tmp 11) 42 rfl 5 i0 (.int .u8 0) 1 1 Tryz.underlying42 hi hz0 hz1 hz2 rfl (some ⟨wr.heap.size, 0, none⟩) 1 1 rfl ao k cap rfl (fun g => g = wr.heap.size) (bv [UInt8.ofNat (x % 256)]) (Own.fresh rfl (hHA _ (by first | (simp; done) | (simp; omega) | go_num)) rfl (by simp [maxLen])) (bv (beN k u)) (by rw [length_bv, length_beN, Nat.mul_one]) (ho.row.keep (kar _)) (bv_one _) (by omega) (by unfold maxLen; omega) ?_)
      intro ao1 cap1 w1 ho1 k1
      have Ho := push_one kr ho1 k1
      rw [bv_append, Nat.add_comm 1 k, show [UInt8.ofNat (x % 256)] ++ beN k u = beN (k + 1) u by rw [beN_cons, ← HX.out]; rfl] at Ho
      clear hHA ho k1 ho1
      go_wp2_with fail
      go_roundw
      case rel => exact ⟨k + 1, x / 256, ao1, cap1, by omega, by rw [HX.out, Nat.pow_succ, Nat.div_div_eq_div_mul], by omega, by go_num, by rw [Nat.add_comm], Ho.1, Ho.2⟩
      case measure => simp [intOf]; omega
    · have hks := Lib.hid (show k = sizeN u by rw [hpos] at h0; omega)
      clear hpos
      have hHK := row_one wr (UInt8.ofNat k) (k : Int) (by simp; omega)
      clear hHA
      go_wp2_with (at_builtin; refine wpList_append_gen _ rfl (.tmp 18) (.tmp 19) 42 rfl 5 i0 (.int .u8 0) 1 1 Tryz.underlying42 hi hz0 hz1 hz2 rfl (some ⟨wr.heap.size, 0, none⟩) 1 1 rfl ao k cap rfl (fun g => g = wr.heap.size) (bv [UInt8.ofNat k]) (Own.fresh rfl hHK rfl (by simp [maxLen])) (bv (beN k u)) (by rw [length_bv, length_beN, Nat.mul_one]) (ho.row.keep (kar _)) (bv_one _) (by omega) (by unfold maxLen; omega) ?_)
      intro ao1 cap1 w1 ho1 k1
      have Ho := push_one kr ho1 k1
      rw [bv_append, show [UInt8.ofNat k] ++ beN k u = numL u by rw [HN.out, ← hks.out]; rfl] at Ho
      clear hHK ho k1 ho1
      go_wp2_with fail
      go_ret
      exact ⟨ao1, cap1, by rw [← hks.out, Nat.add_comm k 1]; rfl, by rw [← hks.out, Nat.add_comm]; exact Ho.1, Ho.2⟩

set_option maxHeartbeats 400000 in
set_option maxRecDepth 100000 in
theorem refText_any (bo : Option Addr) (m c : Nat) (b : List UInt8) (w : World) (hb : BS w bo m c b) (hm : m ≤ 70368744177664) :
    Calls Tryz.prog 85 #[.slice bo m c] w (NewB w (numL m ++ b)) := by
  obtain ⟨i0, hi, hz0, hz1, hz2⟩ := info_parts info_u8
  have hlen : (numL m ++ b).length = (numL m).length + m := by rw [List.length_append, hb.len]
  have hn9 : (numL m).length ≤ 9 := by have := sizeN_le m; rw [length_numL]; omega
  unfold NewB
  rw [hlen]
  clear hlen
  go_enter Tryz.func85, Tryz.ntmps85
  go_wp2_with fail
  refine (refNum_any m _ (by unfold W64; omega)).mono ?_
  rintro e w1 ⟨ao, cap, rfl, ho, k1⟩
  have hb1 := hb.keep k1
  generalize hN : (numL m).length = s at *
  go_wp2_with (at_builtin; refine wpList_append_gen _ rfl (.tmp 6) (.tmp 7) 42 rfl 5 i0 (.int .u8 0) 1 1 Tryz.underlying42 hi hz0 hz1 hz2 rfl ao s cap rfl bo m c rfl (Ex Noone w w1) (bv (numL m)) ho (bv b) (by rw [length_bv, hb.len, Nat.mul_one]) hb1.row (bv_one _) (by omega) (by unfold maxLen; omega) ?_)
  intro ao1 cap1 w2 ho1 k2
  rw [bv_append] at ho1
  go_wp2_with fail
  go_ret
  have h1 := k1.size
  rw [hN]
  refine ⟨ao1, cap1, rfl, ho1.mono fun g hg h => ?_, k1.fin k2 (fun g h => Or.inr (Ex.none h).1)⟩
  rcases h with h | h
  · exact Or.inr ⟨(Ex.none h).1, hg⟩
  · exact Or.inr ⟨by omega, hg⟩

end Go.Proofs.YtigdhdclfdojgaaGreat

/-
  THE WALKS of the document's own writer.
-/
namespace Go.Proofs.YtigdhdclfdojgaaGreat
open Go.RowKit

end Go.Proofs.YtigdhdclfdojgaaGreat

/-
  THE WALKS of pack's Reader, and the document's own.
-/
namespace Go.Proofs.YtigdhdclfdojgaaGreat
open Go.RowKit

/-- A number as it is read: what is left, the error, and the number. -/
def rnum (left : List UInt8) (bad : Nat) : (List UInt8 × Nat) × Nat :=
  if bad ≠ 0 then ((left, bad), 0) else
  match left with
  | [] => (([], 10), 0)
  | c :: r => if 8 < c.toNat then ((c :: r, 11), 0) else if r.length < c.toNat then ((c :: r, 10), 0)
    else if 0 < c.toNat ∧ r[0]? = some 0 then ((c :: r, 11), 0) else ((r.drop c.toNat, 0), ofBE (r.take c.toNat))

/-- Where a reader's memory lies: its own block, and its bytes' block. -/
def Roff (G : Nat → Prop) (p : Nat) (ao : Option Addr) (l : List UInt8) : Prop := G p ∧ (l ≠ [] → ∀ a, ao = some a → a.block ≠ p ∧ G a.block)

/-- A reader at block p: what it has left, and its error; its blocks are of G. -/
def Rd (G : Nat → Prop) (w : World) (p : Nat) (left : List UInt8) (bad : Nat) : Prop :=
  ∃ (ao : Option Addr) (n cap : Nat) (l : List UInt8) (k : Nat), w.heap[p]? = some (.cells #[.slice ao n cap, .int .i64 (k : Int), .int .i64 (bad : Int)] 180 (0, 0)) ∧ BS w ao n cap l ∧ Roff G p ao l ∧ k ≤ n ∧ left = l.drop k ∧ bad ≤ 13

theorem Rd.keep {G : Nat → Prop} {w w' : World} {p : Nat} {left : List UInt8} {bad : Nat} (h : Rd G w p left bad) (k : Kp Noone w w') : Rd G w' p left bad := by
  obtain ⟨ao, n, cap, l, i, h1, h2, h3⟩ := h
  exact ⟨ao, n, cap, l, i, k.heap h1 id, h2.keep k, h3⟩

theorem Rd.kp {G S : Nat → Prop} {w w' : World} {p : Nat} {left : List UInt8} {bad : Nat} (h : Rd G w p left bad) (k : Kp S w w') (hd : ∀ j, G j → ¬ S j) : Rd G w' p left bad := by
  obtain ⟨ao, n, cap, l, i, h1, h2, h3, h4⟩ := h
  refine ⟨ao, n, cap, l, i, k.heap h1 (hd _ h3.1), ?_, h3, h4⟩
  by_cases hl : l = []
  · subst hl
    exact ⟨h2.len, h2.le, h2.max, Row.nil _ _⟩
  · exact h2.kp k (fun a ha => hd _ (h3.2 hl a ha).2)

/-- What a reader's call answers. -/
def RdPost (G : Nat → Prop) (w : World) (p : Nat) (v : Value) (left : List UInt8) (bad : Nat) (e : Ending) (w' : World) : Prop :=
  e = .returned v ∧ Rd G w' p left bad ∧ Kp (fun j => j = p) w w'

set_option maxHeartbeats 400000 in
set_option maxRecDepth 100000 in
theorem readerErr_any {G : Nat → Prop} (p : Nat) (left : List UInt8) (bad : Nat) (w : World) (h : Rd G w p left bad) :
    Calls Tryz.prog 91 #[.pointer (some ⟨p, 0, none⟩)] w fun e w' => e = .returned (.int .i64 (bad : Int)) ∧ w = w' := by
  obtain ⟨ao, n, cap, l, k, hh, -⟩ := h
  obtain ⟨h0, h1, h2, -⟩ := cells_three hh
  go_enter Tryz.func91, Tryz.ntmps91
  go_wp2_with fail
  go_ret
  exact ⟨rfl, rfl⟩

set_option maxHeartbeats 1000000 in
set_option maxRecDepth 100000 in
theorem newReader_any (ao : Option Addr) (n cap : Nat) (l : List UInt8) (w : World) (hb : BS w ao n cap l) (hn : n ≤ 140737488355328) :
    Calls Tryz.prog 88 #[.slice ao n cap] w fun e w' => ∃ p, e = .returned (.pointer (some ⟨p, 0, none⟩)) ∧ Rd (Ex Noone w w') w' p l 0 ∧ Kp Noone w w' ∧ w.heap.size ≤ p := by
  obtain ⟨i0, hi, hz0, hz1, hz2⟩ := info_parts info_u8
  go_enter Tryz.func88, Tryz.ntmps88
  go_wp2_with (at_builtin; refine wpList_append_gen _ rfl (.const (.slice none 0 0)) (.tmp 3) 42 rfl 5 i0 (.int .u8 0) 1 1 Tryz.underlying42 hi hz0 hz1 hz2 rfl none 0 0 rfl ao n cap rfl Noone [] (Own.nil _ _ _ _ _) (bv l) (by rw [length_bv, hb.len, Nat.mul_one]) hb.row (bv_one _) (by omega) (by unfold maxLen; omega) ?_)
  intro ao1 cap1 w1 ho1 k1
  have hb1 : BS w1 ao1 n cap1 l := by
    have := ho1.bs (l := l)
    simpa using this
  have hs := k1.size
  have hoff : l ≠ [] → ∀ a, ao1 = some a → a.block ≠ w1.heap.size ∧ w.heap.size ≤ a.block ∧ a.block < w1.heap.size := by
    rintro hl a rfl
    rcases ho1.2.2.2 with h | ⟨g, off, cs, ha, hg, hh, -⟩
    · have h1 := hb1.len
      have h2 := hb1.le
      exact (hl (List.eq_nil_of_length_eq_zero (by omega))).elim
    · have := (Array.getElem?_eq_some_iff.1 hh).1
      have hg' := Ex.none hg
      cases ha
      simp
      omega
  clear ho1
  go_wp2_with fail
  go_ret
  exact ⟨_, rfl, ⟨ao1, n, cap1, l, 0, heap_alloc_new _ _, hb1.keep ((Kp.refl _ _).alloc _), ⟨Or.inr ⟨hs, by simp⟩, fun hl a ha => ⟨(hoff hl a ha).1, Or.inr ⟨(hoff hl a ha).2.1, by have := (hoff hl a ha).2.2; simp; omega⟩⟩⟩, Nat.zero_le _, rfl, by omega⟩, k1.alloc _, hs⟩

/-- The bytes stay, whatever is written into the reader's own block. -/
theorem bs_off {G : Nat → Prop} {w w' : World} {p : Nat} {ao : Option Addr} {n cap : Nat} {l : List UInt8} (h : BS w ao n cap l) (hoff : Roff G p ao l) (k : Kp (fun j => j = p) w w') : BS w' ao n cap l := by
  by_cases hl : l = []
  · subst hl
    exact ⟨h.len, h.le, h.max, Row.nil _ _⟩
  · exact h.kp k (fun a ha => (hoff.2 hl a ha).1)

theorem heap_set_bad {w : World} {p e : Nat} {a b c u : Value} (h : w.heap[p]? = some (.cells #[a, b, c] e (0, 0))) : (w.setCell ⟨p, 2, none⟩ u).heap[p]? = some (.cells #[a, b, u] e (0, 0)) := by
  simp [World.setCell, Array.getElem?_modify, h]
theorem heap_set_at {w : World} {p e : Nat} {a b c u : Value} (h : w.heap[p]? = some (.cells #[a, b, c] e (0, 0))) : (w.setCell ⟨p, 1, none⟩ u).heap[p]? = some (.cells #[a, u, c] e (0, 0)) := by
  simp [World.setCell, Array.getElem?_modify, h]

/-- The reader behind a read that failed. -/
theorem Rd.fail {G : Nat → Prop} {w w1 : World} {p : Nat} {ao : Option Addr} {n cap : Nat} {l : List UInt8} {k : Nat} {c : Value} (hh : w.heap[p]? = some (.cells #[.slice ao n cap, .int .i64 (k : Int), c] 180 (0, 0))) (hb : BS w ao n cap l) (hoff : Roff G p ao l) (hk : k ≤ n)
    (kw : Kp Noone w w1) (bad : Nat) (hbad : bad ≤ 13) : Rd G (w1.setCell ⟨p, 2, none⟩ (.int .i64 (bad : Int))) p (l.drop k) bad ∧ Kp (fun j => j = p) w (w1.setCell ⟨p, 2, none⟩ (.int .i64 (bad : Int))) := by
  have k2 : Kp (fun j => j = p) w (w1.setCell ⟨p, 2, none⟩ (.int .i64 (bad : Int))) := Kp.setCell (S := fun j => j = p) (p := ⟨p, 2, none⟩) kw.none (fun _ => rfl) _
  exact ⟨⟨ao, n, cap, l, k, heap_set_bad (kw.heap hh id), bs_off hb hoff k2, hoff, hk, rfl, hbad⟩, k2⟩
/-- The reader behind a read. -/
theorem Rd.go {G : Nat → Prop} {w w1 : World} {p : Nat} {ao : Option Addr} {n cap : Nat} {l : List UInt8} {k : Nat} {c : Value} (hh : w.heap[p]? = some (.cells #[.slice ao n cap, c, .int .i64 0] 180 (0, 0))) (hb : BS w ao n cap l) (hoff : Roff G p ao l) (hk : k ≤ n)
    (kw : Kp Noone w w1) : Rd G (w1.setCell ⟨p, 1, none⟩ (.int .i64 (k : Int))) p (l.drop k) 0 ∧ Kp (fun j => j = p) w (w1.setCell ⟨p, 1, none⟩ (.int .i64 (k : Int))) := by
  have k2 : Kp (fun j => j = p) w (w1.setCell ⟨p, 1, none⟩ (.int .i64 (k : Int))) := Kp.setCell (S := fun j => j = p) (p := ⟨p, 1, none⟩) kw.none (fun _ => rfl) _
  exact ⟨⟨ao, n, cap, l, k, heap_set_at (kw.heap hh id), bs_off hb hoff k2, hoff, hk, rfl, by omega⟩, k2⟩

/-- A scope that is left by one goto, forward. -/
theorem wp_scope_fwd {P : Program} {a : Act} {w : World} {Q : Exit → Act → World → Prop} {c rest : Code} (l : Nat) (hf : findLabel c l = some rest)
    (h : c.wp P (Exit.jump l (fun a w => rest.wp P (Exit.noGoto Q) a w) Q) a w) : (Code.scope c).wp P Q a w :=
  wp_scope_jumps l _ (fun _ _ => 0) hf h (fun _ _ hJ => wp_mono hJ (fun e a w hq => by
    cases e with
    | goto l => exact hq.elim
    | normal => exact hq
    | exit id => exact hq
    | ret => exact hq
    | panic ch => exact hq
    | outgrown => exact hq))

theorem shl_or (y c : Nat) (hy : y < 72057594037927936) (hc : c < 256) : bits .or .u64 ((y : Int) * 256) (c : Int) = ((256 * y + c : Nat) : Int) := by
  have e1 : (y : Int) * 256 = ((256 * y : Nat) : Int) := by omega
  have e3 : 256 * y + c = 256 * y ||| c := Nat.two_pow_add_eq_or_of_lt (i := 8) hc y
  rw [e1, u64_or_nat _ _ (by omega) (by omega), e3]

theorem pow256_le {j : Nat} (hj : j < 8) : 256 ^ j ≤ 72057594037927936 := by
  have h : 256 ^ j ≤ 256 ^ 7 := Nat.pow_le_pow_right (by omega) (by omega)
  have : (256 : Nat) ^ 7 = 72057594037927936 := by decide
  omega
theorem pow256_le8 {j : Nat} (hj : j ≤ 8) : 256 ^ j ≤ 18446744073709551616 := by
  have h : 256 ^ j ≤ 256 ^ 8 := Nat.pow_le_pow_right (by omega) (by omega)
  have : (256 : Nat) ^ 8 = 18446744073709551616 := by decide
  omega

theorem sizeN_read (r : List UInt8) (m : Nat) (hm : m ≤ 8) (hl : m ≤ r.length) : (sizeN (ofBE (r.take m)) = m) = ¬ (0 < m ∧ r[0]? = some 0) := by
  have hlen : (r.take m).length = m := by rw [List.length_take]; omega
  have h := sizeN_ofBE (r.take m) (by omega)
  rw [hlen] at h
  rw [propext h]
  apply propext
  cases m with
  | zero => simp
  | succ m =>
    cases r with
    | nil => simp at hl
    | cons a r => simp

set_option maxHeartbeats 1000000 in
set_option maxRecDepth 100000 in
theorem readerNum_any {G : Nat → Prop} (p : Nat) (left : List UInt8) (bad : Nat) (w : World) (h : Rd G w p left bad) :
    Calls Tryz.prog 114 #[.pointer (some ⟨p, 0, none⟩)] w (RdPost G w p (.int .u64 ((rnum left bad).2 : Int)) (rnum left bad).1.1 (rnum left bad).1.2) := by
  have hR := h
  obtain ⟨ao, n, cap, l, k, hh, hb, hoff, hk, rfl, hbad⟩ := h
  obtain ⟨h0, h1, h2, f0, f1, f2⟩ := cells_three hh
  go_enter Tryz.func114, Tryz.ntmps114
  go_wp2_with fail
  by_cases c0 : bad = 0
  case neg =>
    have hr : rnum (l.drop k) bad = ((l.drop k, bad), 0) := by unfold rnum; rw [if_pos c0]
    rw [hr]
    refine wp_scope_straight ?_
    go_wp2_with fail
    go_ret
    exact ⟨rfl, hR, Kp.refl _ _⟩
  subst c0
  rw [Int.natCast_zero] at h2 hh
  have hmx := hb.max
  have hle := hb.le
  have hlen := hb.len
  unfold maxLen at hmx
  by_cases c1 : k < n
  case neg =>
    have this : l.drop k = [] := List.drop_eq_nil_of_le (by omega)
    have hr : rnum (l.drop k) 0 = (([], 10), 0) := by
      rw [this]; rfl
    rw [hr]
    refine wp_scope_fwd 0 rfl ?_
    go_wp2_with fail
    go_quiet (fail)
    go_wp2_with fail
    go_step3
    refine ⟨rfl, ?_⟩
    go_wp2_with fail
    go_ret
    obtain ⟨r1, r2⟩ := Rd.fail hh hb hoff hk ((Kp.refl Noone w).drewN nq) 10 (by omega)
    rw [this] at r1
    exact ⟨rfl, r1, r2⟩
  obtain ⟨b, off, hl, rfl, hbW, hck⟩ := hb.at c1
  have hds : l.drop k = l[k] :: l.drop (k + 1) := (List.getElem_cons_drop hl).symm
  rw [hds]
  have HD := Lib.hid hds
  clear hds
  generalize l[k] = c at *
  obtain ⟨m, hm, hmc, hcm⟩ : ∃ m : Nat, m ≤ 255 ∧ Hid (m = c.toNat) ∧ w.cell? ⟨b, off + k, none⟩ = some (.int .u8 (m : Int)) := ⟨c.toNat, by have := c.toNat_lt; omega, Lib.hid rfl, hck⟩
  clear hR hck
  by_cases c2 : 8 < m
  · have hr : rnum (c :: l.drop (k + 1)) 0 = ((c :: l.drop (k + 1), 11), 0) := by
      unfold rnum; rw [if_neg (by simp)]; simp only []; rw [if_pos (by rw [← hmc.out]; exact c2)]
    rw [hr]
    refine wp_scope_fwd 1 rfl ?_
    go_wp2_with fail
    go_quiet (fail)
    go_wp2_with fail
    go_quiet (fail)
    go_wp2_with fail
    go_step3
    refine ⟨rfl, ?_⟩
    go_wp2_with fail
    go_ret
    have R := fun q => Rd.fail hh hb hoff hk ((Kp.refl Noone w).drewN q) 11 (by omega)
    simp only [HD.out] at R
    exact ⟨rfl, (R _).1, (R _).2⟩
  have hdl : (l.drop (k + 1)).length = n - (k + 1) := by rw [List.length_drop, hlen]
  by_cases c3 : n - (k + 1) < m
  · have hr : rnum (c :: l.drop (k + 1)) 0 = ((c :: l.drop (k + 1), 10), 0) := by
      unfold rnum; rw [if_neg (by simp)]; simp only []; rw [if_neg (by rw [← hmc.out]; exact c2), if_pos (by rw [← hmc.out, hdl]; exact c3)]
    rw [hr]
    refine wp_scope_fwd 0 rfl ?_
    go_wp2_with fail
    go_quiet (fail)
    go_wp2_with fail
    go_quiet (fail)
    go_wp2_with fail
    go_quiet (fail)
    go_wp2_with fail
    go_step3
    refine ⟨rfl, ?_⟩
    go_wp2_with fail
    go_ret
    have R := fun q => Rd.fail hh hb hoff hk ((Kp.refl Noone w).drewN q) 10 (by omega)
    simp only [HD.out] at R
    exact ⟨rfl, (R _).1, (R _).2⟩
  have HLm : Hid (∀ j, (h : j < m) → ∃ h2 : k + 1 + j < l.length, w.cell? ⟨b, off + (k + 1) + j, none⟩ = some (.int .u8 ((l[k + 1 + j].toNat : Nat) : Int))) := Lib.hid (fun j hj => by
    obtain ⟨b', off', h2, he, -, hc⟩ := hb.at (k := k + 1 + j) (by omega)
    cases he
    exact ⟨h2, by rw [Nat.add_assoc]; exact hc⟩)
  have HS := Lib.hid (sizeN_read (l.drop (k + 1)) m (by omega) (by omega))
  have hcap : cap = k + 1 ∨ cap ≠ k + 1 := by omega
  refine wp_scope_fwd 1 rfl ?_
  rcases hcap with hcap | hcap
  · obtain rfl : m = 0 := by omega
    have hr : rnum (c :: l.drop (k + 1)) 0 = ((l.drop (k + 1), 0), 0) := by
      unfold rnum; rw [if_neg (by simp)]; simp only []; rw [← hmc.out, if_neg (by omega), if_neg (by omega), if_neg (by omega)]; rfl
    go_wp2_with fail
    go_quiet (fail)
    go_wp2_with fail
    go_quiet (fail)
    go_wp2_with fail
    go_quiet (fail)
    go_wp2_with fail
    go_quiet (fail)
    go_wp2_with fail
    go_loopw [70, 3] (fun i x wr => i = .int .i64 0 ∧ x = .int .u64 0 ∧ ∃ q, wr = w.drewN q) (fun _ _ _ => 0)
    case atStart => exact ⟨rfl, rfl, _, by simp only [World.drewN_drewN]; rfl⟩
    case round =>
      obtain ⟨rfl, rfl, q, rfl⟩ := hrel
      go_wp2_with fail
      refine (size_any 0 _ (by unfold W64; omega)).mono ?_
      rintro e w1 ⟨rfl, rfl⟩
      have hz : sizeN 0 = 0 := rfl
      rw [hz]
      go_wp2_with fail
      go_ret
      rw [hr]
      have R := fun q => Rd.go hh hb hoff (k := k + 1) (by omega) ((Kp.refl Noone w).drewN q)
      exact ⟨rfl, (R _).1, (R _).2⟩
  · go_wp2_with fail
    go_quiet (fail)
    go_wp2_with fail
    go_quiet (fail)
    go_wp2_with fail
    go_quiet (fail)
    go_wp2_with fail
    go_quiet (fail)
    go_wp2_with fail
    go_loopw [70, 3] (fun i x wr => ∃ j y : Nat, j ≤ m ∧ i = .int .i64 (j : Int) ∧ x = .int .u64 (y : Int) ∧ Hid (y = ofBE ((l.drop (k + 1)).take j)) ∧ y < 256 ^ j ∧ ∃ q, wr = w.drewN q) (fun i _ _ => m - (intOf i).toNat)
    case atStart => exact ⟨0, 0, Nat.zero_le _, rfl, rfl, Lib.hid rfl, by simp, _, by simp only [World.drewN_drewN]; rfl⟩
    case round =>
      obtain ⟨j, y, hj, rfl, rfl, hy, hyb, q, rfl⟩ := hrel
      by_cases hjm : j < m
      · obtain ⟨hl2, hcj⟩ := HLm.out j hjm
        have hHC : Hid (l[k + 1 + j].toNat = l[k + 1 + j].toNat) := Lib.hid rfl
        have hc256 := l[k + 1 + j].toNat_lt
        have hsn : ofBE ((l.drop (k + 1)).take (j + 1)) = 256 * ofBE ((l.drop (k + 1)).take j) + l[k + 1 + j].toNat := by
          rw [take_snoc _ j (by rw [List.length_drop]; omega), ofBE_snoc, List.getElem_drop]
        have HN := Lib.hid hsn
        clear hsn hHC
        generalize l[k + 1 + j].toNat = x at hcj HN hc256
        have hp := pow256_le (j := j) (by omega)
        go_wp2_with fail
        refine ⟨⟨j + 1, 256 * y + x, by omega, by go_num, by rw [shl_or y x (by omega) (by omega)], Lib.hid (by rw [HN.out, hy.out]), ?_, q, rfl⟩, by simp [intOf]; omega⟩
        rw [Nat.pow_succ]
        omega
      · obtain rfl : j = m := by omega
        have hp := pow256_le8 (j := j) (by omega)
        have hy64 : W64 y := by unfold W64; omega
        have hss := HS.out
        rw [← hy.out] at hss
        have HSS := Lib.hid hss
        clear hss
        go_wp2_with fail
        refine (size_any y _ hy64).mono ?_
        rintro e w1 ⟨rfl, rfl⟩
        by_cases c4 : 0 < j ∧ (l.drop (k + 1))[0]? = some 0
        · have hr : rnum (c :: l.drop (k + 1)) 0 = ((c :: l.drop (k + 1), 11), 0) := by
            unfold rnum; rw [if_neg (by simp)]; simp only []; rw [← hmc.out, if_neg (by omega), if_neg (by omega), if_pos c4]
          have hne : sizeN y ≠ j := fun c => (HSS.out ▸ c) c4
          have d : ((sizeN y : Int) + 1 != (j : Int) + 1) = true := by simp; omega
          clear c4
          go_wp2_with fail
          go_step3
          refine ⟨rfl, ?_⟩
          go_wp2_with fail
          go_ret
          have R := fun q => Rd.fail hh hb hoff hk ((Kp.refl Noone w).drewN q) 11 (by omega)
          simp only [HD.out] at R
          exact ⟨rfl, (R _).1, (R _).2⟩
        · have hr : rnum (c :: l.drop (k + 1)) 0 = (((l.drop (k + 1)).drop j, 0), y) := by
            unfold rnum; rw [if_neg (by simp)]; simp only []; rw [← hmc.out, if_neg (by omega), if_neg (by omega), if_neg c4, ← hy.out]
          have hne : sizeN y = j := by rw [HSS.out]; exact c4
          have d : ((sizeN y : Int) + 1 != (j : Int) + 1) = false := by simp; omega
          have HNE := Lib.hid hne
          clear c4 hne
          go_wp2_with fail
          go_ret
          rw [hr]
          have R := fun q => Rd.go hh hb hoff (k := k + (j + 1)) (by omega) ((Kp.refl Noone w).drewN q)
          have e : l.drop (k + (j + 1)) = (l.drop (k + 1)).drop j := by rw [List.drop_drop]; congr 1; omega
          simp only [e] at R
          exact ⟨rfl, (R _).1, (R _).2⟩

end Go.Proofs.YtigdhdclfdojgaaGreat

/-
  THE WALKS of pack's Reader's other calls.
-/
namespace Go.Proofs.YtigdhdclfdojgaaGreat
open Go.RowKit

def rcount (left : List UInt8) (bad : Nat) (most : Int) : (List UInt8 × Nat) × Nat :=
  if (max 0 most).toNat < (rnum left bad).2 then (((rnum left bad).1.1, 12), 0) else rnum left bad
def rtext (left : List UInt8) (bad : Nat) (most : Int) : (List UInt8 × Nat) × List UInt8 :=
  if (rcount left bad most).1.2 ≠ 0 then ((rcount left bad most).1, [])
  else if (rcount left bad most).1.1.length < (rcount left bad most).2 then (((rcount left bad most).1.1, 10), [])
  else (((rcount left bad most).1.1.drop (rcount left bad most).2, 0), (rcount left bad most).1.1.take (rcount left bad most).2)
def rdone (left : List UInt8) (bad : Nat) : Nat := if bad = 0 ∧ left ≠ [] then 13 else bad

theorem rnum_lt (left : List UInt8) (bad : Nat) : W64 (rnum left bad).2 := by
  unfold rnum W64
  split
  · simp
  · split
    · simp
    · rename_i c r
      split
      · simp
      · split
        · simp
        · split
          · simp
          · have h1 := ofBE_lt (r.take c.toNat)
            have h2 := pow256_le8 (j := (r.take c.toNat).length) (by rw [List.length_take]; omega)
            simp only []
            omega
theorem rcount_le (left : List UInt8) (bad : Nat) (most : Int) (hm : most ≤ 9223372036854775807) : (rcount left bad most).2 ≤ 9223372036854775807 := by
  unfold rcount
  split
  · simp
  · omega

theorem rnum_len (left : List UInt8) (bad : Nat) : (rnum left bad).1.1.length ≤ left.length := by
  unfold rnum
  split
  · exact Nat.le_refl _
  · split
    · simp
    · split
      · exact Nat.le_refl _
      · split
        · exact Nat.le_refl _
        · split
          · exact Nat.le_refl _
          · simp only [List.length_drop, List.length_cons]
            omega
theorem rcount_len (left : List UInt8) (bad : Nat) (most : Int) : (rcount left bad most).1.1.length ≤ left.length := by
  unfold rcount
  split
  · exact rnum_len left bad
  · exact rnum_len left bad

/-- The reader's error is set. -/
theorem Rd.set {G : Nat → Prop} {w : World} {p : Nat} {left : List UInt8} {bad : Nat} (h : Rd G w p left bad) (b : Nat) (hb : b ≤ 13) : Rd G (w.setCell ⟨p, 2, none⟩ (.int .i64 (b : Int))) p left b ∧ Kp (fun j => j = p) w (w.setCell ⟨p, 2, none⟩ (.int .i64 (b : Int))) := by
  obtain ⟨ao, n, cap, l, k, hh, hbs, hoff, hk, rfl, -⟩ := h
  exact Rd.fail hh hbs hoff hk (Kp.refl _ _) b hb
theorem Rd.cells {G : Nat → Prop} {w : World} {p : Nat} {left : List UInt8} {bad : Nat} (h : Rd G w p left bad) : w.cell? ⟨p, 2, none⟩ = some (.int .i64 (bad : Int)) ∧ w.frozen? ⟨p, 2, none⟩ = false ∧ p < w.heap.size := by
  obtain ⟨ao, n, cap, l, k, hh, -⟩ := h
  obtain ⟨-, -, h2, -, -, f2⟩ := cells_three hh
  exact ⟨h2, f2, (Array.getElem?_eq_some_iff.1 hh).1⟩

set_option maxHeartbeats 400000 in
set_option maxRecDepth 100000 in
theorem readerCount_any {G : Nat → Prop} (p : Nat) (left : List UInt8) (bad : Nat) (most : Int) (w : World) (h : Rd G w p left bad) (hm0 : -9223372036854775808 ≤ most) (hm1 : most ≤ 9223372036854775807) :
    Calls Tryz.prog 92 #[.pointer (some ⟨p, 0, none⟩), .int .i64 most] w (RdPost G w p (.int .i64 ((rcount left bad most).2 : Int)) (rcount left bad most).1.1 (rcount left bad most).1.2) := by
  have hf := rnum_lt left bad
  have HC := Lib.hid (show rcount left bad most = if (max 0 most).toNat < (rnum left bad).2 then (((rnum left bad).1.1, 12), 0) else rnum left bad from rfl)
  go_enter Tryz.func92, Tryz.ntmps92
  go_wp2_with fail
  refine (readerNum_any p left bad _ h).mono ?_
  rintro e w1 ⟨rfl, h1, k1⟩
  obtain ⟨hc, hfz, -⟩ := h1.cells
  generalize hu : (rnum left bad).2 = u at *
  unfold W64 at hf
  have HU := Lib.hid hu
  clear hu
  rcases Int.lt_or_le most 0 with hs | hs
  · have hmx := Lib.hid (show (max 0 most).toNat = 0 by omega)
    by_cases c : 0 < u
    · have hr : Hid (rcount left bad most = (((rnum left bad).1.1, 12), 0)) := Lib.hid (by rw [HC.out, hmx.out, if_pos c])
      go_wp2_with fail
      go_ret
      rw [hr.out]
      exact ⟨rfl, (h1.set 12 (by omega)).1, k1.trans (h1.set 12 (by omega)).2⟩
    · have hr : Hid (rcount left bad most = rnum left bad) := Lib.hid (by rw [HC.out, hmx.out, if_neg c])
      obtain rfl : u = 0 := by omega
      go_wp2_with fail
      go_ret
      rw [hr.out, HU.out]
      exact ⟨rfl, h1, k1⟩
  · obtain ⟨t, rfl⟩ := Int.eq_ofNat_of_zero_le hs
    have hmx := Lib.hid (show (max 0 (t : Int)).toNat = t by omega)
    by_cases c : t < u
    · have hr : Hid (rcount left bad t = (((rnum left bad).1.1, 12), 0)) := Lib.hid (by rw [HC.out, hmx.out, if_pos c])
      go_wp2_with fail
      all_goals (
        go_ret
        rw [hr.out]
        exact ⟨rfl, (h1.set 12 (by omega)).1, k1.trans (h1.set 12 (by omega)).2⟩)
    · have hr : Hid (rcount left bad t = rnum left bad) := Lib.hid (by rw [HC.out, hmx.out, if_neg c])
      go_wp2_with fail
      all_goals (
        go_ret
        rw [hr.out, HU.out]
        exact ⟨rfl, h1, k1⟩)

/-- What a text is answered by: new bytes, and the reader behind it. -/
def TextPost (G : Nat → Prop) (w : World) (p : Nat) (t left : List UInt8) (bad : Nat) (e : Ending) (w' : World) : Prop :=
  ∃ ao cap, e = .returned (.slice ao t.length cap) ∧ Own (Ex Noone w w') w' 5 1 ao t.length cap (bv t) ∧ Rd G w' p left bad ∧ Kp (fun j => j = p) w w'

set_option maxHeartbeats 2000000 in
set_option maxRecDepth 100000 in
theorem readerText_any {G : Nat → Prop} (p : Nat) (left : List UInt8) (bad : Nat) (most : Int) (w : World) (h : Rd G w p left bad) (hm0 : -9223372036854775808 ≤ most) (hm1 : most ≤ 9223372036854775807) (hlb : left.length ≤ 140737488355328) :
    Calls Tryz.prog 90 #[.pointer (some ⟨p, 0, none⟩), .int .i64 most] w (TextPost G w p (rtext left bad most).2 (rtext left bad most).1.1 (rtext left bad most).1.2) := by
  obtain ⟨i0, hi, hz0, hz1, hz2⟩ := info_parts info_u8
  have hle := rcount_le left bad most hm1
  have HT := Lib.hid (show rtext left bad most = if (rcount left bad most).1.2 ≠ 0 then ((rcount left bad most).1, [])
    else if (rcount left bad most).1.1.length < (rcount left bad most).2 then (((rcount left bad most).1.1, 10), [])
    else (((rcount left bad most).1.1.drop (rcount left bad most).2, 0), (rcount left bad most).1.1.take (rcount left bad most).2) from rfl)
  go_enter Tryz.func90, Tryz.ntmps90
  go_wp2_with fail
  refine (readerCount_any p left bad most _ h hm0 hm1).mono ?_
  rintro e w1 ⟨rfl, h1, k1⟩
  have hR := h1
  generalize hq : rcount left bad most = R at *
  obtain ⟨⟨left', bad'⟩, q⟩ := R
  simp only [] at *
  have HQ := Lib.hid hq
  clear hq
  by_cases c0 : bad' = 0
  case neg =>
    have hr : Hid (rtext left bad most = ((left', bad'), [])) := Lib.hid (by rw [HT.out, if_pos c0])
    obtain ⟨hc, -, -⟩ := h1.cells
    go_wp2_with fail
    go_ret
    rw [hr.out]
    exact ⟨none, 0, rfl, Own.nil _ _ _ _ _, hR, k1⟩
  subst c0
  obtain ⟨ao, n, cap, l, k, hh, hb, hoff, hk, rfl, -⟩ := h1
  rw [Int.natCast_zero] at hh
  obtain ⟨h0, h1, h2, f0, f1, f2⟩ := cells_three hh
  have hmx := hb.max
  have hlc := hb.le
  have hlen := hb.len
  have hmx : cap ≤ 9223372036854775807 := by unfold maxLen at hmx; omega
  have hdl : (l.drop k).length = n - k := by rw [List.length_drop, hlen]
  by_cases c1 : n - k < q
  · have hr : Hid (rtext left bad most = ((l.drop k, 10), [])) := Lib.hid (by rw [HT.out, if_neg (by simp), if_pos (by rw [hdl]; exact c1)])
    go_wp2_with fail
    go_quiet (fail)
    go_wp2_with fail
    go_ret
    rw [hr.out]
    have R := fun q => Rd.fail hh hb hoff hk ((Kp.refl Noone w1).drewN q) 10 (by omega)
    exact ⟨none, 0, rfl, Own.nil _ _ _ _ _, (R _).1, k1.trans (R _).2⟩
  · have hr : Hid (rtext left bad most = (((l.drop k).drop q, 0), (l.drop k).take q)) := Lib.hid (by rw [HT.out, if_neg (by simp), if_neg (by rw [hdl]; exact c1)])
    have hrow : Row w1 (if cap = k then ao else ao.map (·.add k)) (bv ((l.drop k).take q)) := hb.row.sub k cap (by rw [length_bv, hlen]; exact hlc) _ (by unfold bv; rw [List.map_take, List.map_drop]; exact List.take_prefix _ _)
    have htl : ((l.drop k).take q).length = q := by rw [List.length_take, hdl]; omega
    have hks := k1.size
    have hkq : k + q ≤ n := by omega
    have hnb : q ≤ 140737488355328 := by
      have := rcount_len left bad most
      rw [HQ.out] at this
      simp only [hdl] at this
      omega
    have hwr : IntKind.i64.wrap ((k : Int) + (q : Int)) = (k : Int) + (q : Int) := IntWalk.i64_in _ (by omega)
    have hw0 : (0 : Int) ≤ (k : Int) + (q : Int) := by omega
    have hw1 : (k : Int) + (q : Int) ≤ (cap : Int) := by omega
    have hw2 : ((k : Int) + (q : Int)).toNat = k + q := by omega
    have hw3 : k + q - k = q := by omega
    have key : ∀ (w2 : World) (ao' : Option Addr) (cap' : Nat) (w3 : World), Kp Noone w1 w2 → Own (Ex Noone w2 w3) w3 5 1 ao' q cap' (bv ((l.drop k).take q)) → Kp Noone w2 w3 → TextPost G w p (rtext left bad most).2 (rtext left bad most).1.1 (rtext left bad most).1.2 (.returned (.slice ao' q cap')) (w3.setCell ⟨p, 1, none⟩ (.int .i64 ((k : Int) + (q : Int)))) := by
      intro w2 ao' cap' w3 k2 ho k3
      have hp := hR.cells.2.2
      rw [hr.out]
      simp only []
      have R := Rd.go hh hb hoff (k := k + q) hkq (k2.trans k3)
      rw [Int.natCast_add, ← List.drop_drop] at R
      have hs2 := k2.size
      refine ⟨ao', cap', by rw [htl], ?_, R.1, k1.trans R.2⟩
      rw [htl]
      have kk : Kp (fun j => j = p) w3 (w3.setCell ⟨p, 1, none⟩ (.int .i64 ((k : Int) + (q : Int)))) := Kp.setCell (S := fun j => j = p) (p := ⟨p, 1, none⟩) (Kp.refl _ _) (fun _ => rfl) _
      refine (ho.kp kk (fun j hj c => by have := Ex.none hj; subst c; omega)).mono (fun j hj h => ?_)
      have := Ex.none h
      exact Or.inr ⟨by omega, hj⟩
    clear HT hR
    have HTL := Lib.hid htl
    generalize (l.drop k).take q = t at *
    by_cases hcap : cap = k
    · rw [if_pos hcap] at hrow
      obtain rfl : q = 0 := by omega
      subst hcap
      have hwc : IntKind.i64.wrap (cap : Int) = (cap : Int) := IntWalk.i64_in _ (by omega)
      have hwd : (0 : Int) ≤ (cap : Int) := by omega
      go_wp2_with fail
      go_quiet (fail)
      go_wp2_with fail
      go_region_law (refine step_append_gen rfl (.const (.slice none 0 0)) (.tmp 48) 42 rfl 5 i0 (.int .u8 0) 1 1 Tryz.underlying42 hi hz0 hz1 hz2 rfl none 0 0 rfl ao 0 0 rfl Noone [] (Own.nil _ _ _ _ _) (bv t) (by rw [length_bv, HTL.out, Nat.mul_one]) (hrow.keep ((Kp.refl _ _).drewN _).drew) (bv_one _) (by omega) (by unfold maxLen; omega) ?_; intro bo' c' w3 ho3 k3; have hh3 := (((Kp.refl Noone _).drewN _).drew.trans k3).heap hh id; obtain ⟨h03, h13, h23, f03, f13, f23⟩ := cells_three hh3)
      all_goals (
        have K := key _ bo' c' w3 (((Kp.refl Noone _).drewN _).drew) (by simpa using ho3) k3
        clear ho3 key hh3
        go_simp
        rename_i hkk
        refine hkk _ _ ?_
        clear hkk
        go_wp2_with fail
        go_ret
        exact K)
    · rw [if_neg hcap] at hrow
      go_wp2_with fail
      go_quiet (fail)
      go_wp2_with fail
      go_region_law (refine step_append_gen rfl (.const (.slice none 0 0)) (.tmp 48) 42 rfl 5 i0 (.int .u8 0) 1 1 Tryz.underlying42 hi hz0 hz1 hz2 rfl none 0 0 rfl (ao.map (·.add k)) q (cap - k) rfl Noone [] (Own.nil _ _ _ _ _) (bv t) (by rw [length_bv, HTL.out, Nat.mul_one]) (hrow.keep ((Kp.refl _ _).drewN _).drew) (bv_one _) (by omega) (by unfold maxLen; omega) ?_; intro bo' c' w3 ho3 k3; have hh3 := (((Kp.refl Noone _).drewN _).drew.trans k3).heap hh id; obtain ⟨h03, h13, h23, f03, f13, f23⟩ := cells_three hh3)
      all_goals (
        have K := key _ bo' c' w3 (((Kp.refl Noone _).drewN _).drew) (by simpa using ho3) k3
        clear ho3 key hh3
        go_simp
        rename_i hkk
        refine hkk _ _ ?_
        clear hkk
        go_wp2_with fail
        go_ret
        exact K)

set_option maxHeartbeats 1000000 in
set_option maxRecDepth 100000 in
theorem readerDone_any {G : Nat → Prop} (p : Nat) (left : List UInt8) (bad : Nat) (w : World) (h : Rd G w p left bad) :
    Calls Tryz.prog 93 #[.pointer (some ⟨p, 0, none⟩)] w (RdPost G w p (.int .i64 (rdone left bad : Int)) left (rdone left bad)) := by
  have hR := h
  obtain ⟨ao, n, cap, l, k, hh, hb, hoff, hk, rfl, hbad⟩ := h
  obtain ⟨h0, h1, h2, f0, f1, f2⟩ := cells_three hh
  have hlen := hb.len
  go_enter Tryz.func93, Tryz.ntmps93
  by_cases c0 : bad = 0
  · subst c0
    rw [Int.natCast_zero] at h2 hh
    by_cases c1 : k < n
    · have hr : rdone (l.drop k) 0 = 13 := by
        unfold rdone
        rw [if_pos ⟨rfl, fun c => by have := congrArg List.length c; rw [List.length_drop, hlen] at this; simp at this; omega⟩]
      rw [hr]
      have d1 : decide ((k : Int) < (n : Int)) = true := by simp; omega
      have R := fun q => Rd.fail hh hb hoff hk ((Kp.refl Noone w).drewN q) 13 (by omega)
      go_wp2_with fail
      go_quiet (fail)
      go_wp2_with fail
      refine (readerErr_any p _ 13 _ (R _).1).mono ?_
      rintro e w1 ⟨rfl, rfl⟩
      go_wp2_with fail
      go_ret
      exact ⟨rfl, (R _).1, (R _).2⟩
    · have hr : rdone (l.drop k) 0 = 0 := by
        unfold rdone
        rw [if_neg (fun c => c.2 (List.drop_eq_nil_of_le (by omega)))]
      rw [hr]
      have d1 : decide ((k : Int) < (n : Int)) = false := by simp; omega
      go_wp2_with fail
      go_quiet (fail)
      go_wp2_with fail
      refine (readerErr_any p _ 0 _ (hR.keep ((Kp.refl _ _).drewN _))).mono ?_
      rintro e w1 ⟨rfl, rfl⟩
      go_wp2_with fail
      go_ret
      exact ⟨rfl, hR.keep ((Kp.refl _ _).drewN _), ((Kp.refl _ _).drewN _)⟩
  · have hr : rdone (l.drop k) bad = bad := by
      unfold rdone
      rw [if_neg (fun c => c0 c.1)]
    rw [hr]
    have d1 : ((bad : Int) == 0) = false := by simp; omega
    go_wp2_with fail
    go_quiet (fail)
    go_wp2_with fail
    refine (readerErr_any p _ bad _ (hR.keep ((Kp.refl _ _).drewN _))).mono ?_
    rintro e w1 ⟨rfl, rfl⟩
    go_wp2_with fail
    go_ret
    exact ⟨rfl, hR.keep ((Kp.refl _ _).drewN _), ((Kp.refl _ _).drewN _)⟩

end Go.Proofs.YtigdhdclfdojgaaGreat

/-
  THE WALKS of pack's Reader's other calls.
-/
namespace Go.Proofs.YtigdhdclfdojgaaGreat
open Go.RowKit

end Go.Proofs.YtigdhdclfdojgaaGreat

/-
  THE WALKS of the document's own reader.
-/
namespace Go.Proofs.YtigdhdclfdojgaaGreat
open Go.RowKit

/-- The document's reader, as a value: what is left and the error. -/
def rrV (ao : Option Addr) (n cap : Nat) (bad : Nat) : Value := .agg #[.slice ao n cap, .int .i64 (bad : Int)]

/-- What a read of it answers: the reader behind it, and a value; nothing of the old is written. -/
def RefPost (w : World) (ao : Option Addr) (n cap : Nat) (left left' : List UInt8) (bad : Nat) (v : Value) (e : Ending) (w' : World) : Prop :=
  ∃ ao' n' cap', e = .returned (.tuple #[rrV ao' n' cap' bad, v]) ∧ (∀ W, BS W ao n cap left → BS W ao' n' cap' left') ∧ Kp Noone w w'

theorem BS.past {w : World} {ao : Option Addr} {n cap : Nat} {l : List UInt8} (h : BS w ao n cap l) {m : Nat} (hm : m ≤ n) : BS w (if cap = m then ao else ao.map (·.add m)) (n - m) (cap - m) (l.drop m) := by
  have h1 := h.le
  have h2 := h.max
  refine ⟨by rw [List.length_drop, h.len], by omega, by omega, ?_⟩
  exact h.row.sub m cap (by rw [length_bv, h.len]; exact h1) _ (by unfold bv; rw [List.map_drop]; exact List.prefix_rfl)

theorem rnum_cons (c : UInt8) (r : List UInt8) : rnum (c :: r) 0 = if 8 < c.toNat then ((c :: r, 11), 0) else if r.length < c.toNat then ((c :: r, 10), 0)
    else if 0 < c.toNat ∧ r[0]? = some 0 then ((c :: r, 11), 0) else ((r.drop c.toNat, 0), ofBE (r.take c.toNat)) := by
  unfold rnum; rw [if_neg (by simp)]

theorem ref_end {n cap n' cap' : Nat} {ao ao' : Option Addr} {left left' : List UInt8} {w : World} (hb : ∀ W, BS W ao n cap left → BS W ao' n' cap' left') (A B : Obj) : (∀ W, BS W ao n cap left → BS W ao' n' cap' left') ∧ Kp Noone w ((w.alloc A).alloc B) :=
  ⟨hb, ((Kp.refl _ _).alloc _).alloc _⟩

set_option maxHeartbeats 1000000 in
set_option maxRecDepth 100000 in
theorem refReadNum_any (ao : Option Addr) (n cap : Nat) (left : List UInt8) (bad : Nat) (w : World) (hb : BS w ao n cap left) (_hbad : bad ≤ 13) :
    Calls Tryz.prog 99 #[rrV ao n cap bad] w (RefPost w ao n cap left (rnum left bad).1.1 (rnum left bad).1.2 (.int .u64 ((rnum left bad).2 : Int))) := by
  unfold rrV
  go_enter Tryz.func99, Tryz.ntmps99
  by_cases c0 : bad = 0
  case neg =>
    have hr : rnum left bad = ((left, bad), 0) := by unfold rnum; rw [if_pos c0]
    have d : ((bad : Int) != 0) = true := by simp; omega
    rw [hr]
    go_wp2_with fail
    refine bodyPost_ret (v := .tuple #[rrV ao n cap bad, .int .u64 0]) (by rw [results_cell_tmp rfl]; go_simp; rfl) rfl ⟨ao, n, cap, rfl, ref_end (fun _ h => h) _ _⟩
  subst c0
  rw [Int.natCast_zero]
  have hmx : cap ≤ 9223372036854775807 := by have := hb.max; unfold maxLen at this; omega
  have hlc := hb.le
  have hlen := hb.len
  by_cases c1 : 0 < n
  case neg =>
    obtain rfl : n = 0 := by omega
    obtain rfl : left = [] := List.eq_nil_of_length_eq_zero hlen
    have hr : rnum [] 0 = (([], 10), 0) := rfl
    rw [hr]
    go_wp2_with fail
    refine bodyPost_ret (v := .tuple #[rrV ao 0 cap 10, .int .u64 0]) (by rw [results_cell_tmp rfl]; go_simp; rfl) rfl ⟨ao, 0, cap, rfl, ref_end (fun _ h => h) _ _⟩
  have HC : Hid (∀ j, (h : j < n) → ∃ b off, ∃ h2 : j < left.length, ao = some ⟨b, off, none⟩ ∧ ∀ A B, ((w.alloc A).alloc B).cell? ⟨b, off + j, none⟩ = some (.int .u8 ((left[j].toNat : Nat) : Int))) := Lib.hid (fun j hj => by
    obtain ⟨b', off', h2, he, hbw, hc⟩ := hb.at (k := j) hj
    refine ⟨b', off', h2, he, fun A B => ?_⟩
    have hs := ((Kp.refl Noone w).alloc A).size
    rw [World.cell?_alloc_past _ _ _ (by show b' < _; omega), World.cell?_alloc_past _ _ _ hbw]
    exact hc)
  obtain ⟨b, off, hl, rfl, hc0⟩ := HC.out 0 c1
  rw [Nat.add_zero] at hc0
  have hds : left = left[0] :: left.drop 1 := by
    have := (List.getElem_cons_drop hl).symm
    simpa using this
  have hrn := rnum_cons left[0] (left.drop 1)
  rw [← hds] at hrn
  clear hds
  have hm : left[0].toNat ≤ 255 := by have := left[0].toNat_lt; omega
  generalize left[0].toNat = m at hrn hc0 hm
  have hdl : (left.drop 1).length = n - 1 := by rw [List.length_drop, hlen]
  rw [hdl] at hrn
  have HRN := Lib.hid hrn
  clear hrn
  by_cases c2 : 8 < m
  · have hr : rnum left 0 = ((left, 11), 0) := by rw [HRN.out, if_pos c2]
    rw [hr]
    go_wp2_with fail
    refine bodyPost_ret (v := .tuple #[rrV (some ⟨b, off, none⟩) n cap 11, .int .u64 0]) (by rw [results_cell_tmp rfl]; go_simp; rfl) rfl ⟨_, n, cap, rfl, ref_end (fun _ h => h) _ _⟩
  by_cases c3 : n - 1 < m
  · have hr : rnum left 0 = ((left, 10), 0) := by rw [HRN.out, if_neg c2, if_pos c3]
    rw [hr]
    go_wp2_with fail
    refine bodyPost_ret (v := .tuple #[rrV (some ⟨b, off, none⟩) n cap 10, .int .u64 0]) (by rw [results_cell_tmp rfl]; go_simp; rfl) rfl ⟨_, n, cap, rfl, ref_end (fun _ h => h) _ _⟩
  by_cases c4 : 0 < m ∧ (left.drop 1)[0]? = some 0
  · have hr : rnum left 0 = ((left, 11), 0) := by rw [HRN.out, if_neg c2, if_neg c3, if_pos c4]
    rw [hr]
    obtain ⟨b', off', h2, he, hc1⟩ := HC.out 1 (by omega)
    cases he
    have hz : left[1].toNat = 0 := by
      have := c4.2
      rw [List.getElem?_drop, List.getElem?_eq_getElem h2] at this
      rw [Option.some.inj this]; rfl
    rw [hz] at hc1
    have hm0 := c4.1
    clear c4
    go_wp2_with fail
    refine bodyPost_ret (v := .tuple #[rrV (some ⟨b, off, none⟩) n cap 11, .int .u64 0]) (by rw [results_cell_tmp rfl]; go_simp; rfl) rfl ⟨_, n, cap, rfl, ref_end (fun _ h => h) _ _⟩
  · have hr : Hid (rnum left 0 = ((left.drop (m + 1), 0), ofBE ((left.drop 1).take m))) := Lib.hid (by rw [HRN.out, if_neg c2, if_neg c3, if_neg c4, List.drop_drop, Nat.add_comm 1 m])
    have hgo : (0 < m ∧ ∃ x : Nat, ((x : Int) == 0) = false ∧ ∀ A B, ((w.alloc A).alloc B).cell? ⟨b, off + 1, none⟩ = some (.int .u8 (x : Int))) ∨ m = 0 := by
      by_cases hm0 : 0 < m
      · left
        obtain ⟨b', off', h2, he, hc1⟩ := HC.out 1 (by omega)
        cases he
        refine ⟨hm0, left[1].toNat, ?_, hc1⟩
        have hne : left[1] ≠ 0 := fun c => c4 ⟨hm0, by rw [List.getElem?_drop, List.getElem?_eq_getElem h2, c]⟩
        have : left[1].toNat ≠ 0 := fun c => hne (UInt8.toNat_inj.1 c)
        simp; omega
      · right; omega
    have hcap : cap = m + 1 ∨ cap ≠ m + 1 := by omega
    clear c4
    rcases hgo with ⟨hm0, x, hx, hc1⟩ | hm0
    · go_wp2_with fail
      go_loopw [6, 5] (fun i x wr => ∃ j y : Nat, j ≤ m ∧ i = .int .i64 ((j : Int) + 1) ∧ x = .int .u64 (y : Int) ∧ Hid (y = ofBE ((left.drop 1).take j)) ∧ y < 256 ^ j ∧ wr = (w.alloc (.cells #[.slice (some ⟨b, off, none⟩) n cap, .int .i64 0] 138)).alloc (.cells #[.slice none 0 0, .int .i64 0] 138)) (fun i _ _ => m + 1 - (intOf i).toNat)
      case atStart => exact ⟨0, 0, Nat.zero_le _, rfl, rfl, Lib.hid rfl, by simp, rfl⟩
      case round =>
        obtain ⟨j, y, hj, rfl, rfl, hy, hyb, rfl⟩ := hrel
        by_cases hjm : j < m
        · obtain ⟨b', off', h2, he, hcj⟩ := HC.out (j + 1) (by omega)
          cases he
          have hsn : ofBE ((left.drop 1).take (j + 1)) = 256 * ofBE ((left.drop 1).take j) + left[j + 1].toNat := by
            rw [take_snoc _ j (by omega), ofBE_snoc, List.getElem_drop]
            simp [Nat.add_comm]
          have HN := Lib.hid hsn
          have hc256 := left[j + 1].toNat_lt
          clear hsn
          generalize left[j + 1].toNat = x at hcj HN hc256
          have hp := pow256_le (j := j) (by omega)
          go_wp2_with fail
          refine ⟨⟨j + 1, 256 * y + x, by omega, int_eq (by omega), int_eq (by omega), Lib.hid (by rw [HN.out, hy.out]), ?_, trivial⟩, by simp [intOf]; omega⟩
          rw [Nat.pow_succ]
          omega
        · obtain rfl : j = m := by omega
          have hp := pow256_le8 (j := j) (by omega)
          have hbp := fun W (h : BS W (some ⟨b, off, none⟩) n cap left) => h.past (m := j + 1) (by omega)
          rcases hcap with hcap | hcap
          · simp only [if_pos hcap, show cap - (j + 1) = 0 by omega] at hbp
            have HB := Lib.hid hbp
            clear hbp
            go_wp2_with fail
            rw [hr.out, ← hy.out]
            refine bodyPost_ret (v := .tuple #[rrV (some ⟨b, off, none⟩) (n - (j + 1)) 0 0, .int .u64 y]) (by rw [results_cell_tmp rfl]; go_simp; rfl) rfl ⟨_, _, _, rfl, ref_end HB.out _ _⟩
          · simp only [if_neg hcap] at hbp
            have HB := Lib.hid hbp
            clear hbp
            go_wp2_with fail
            rw [hr.out, ← hy.out]
            refine bodyPost_ret (v := .tuple #[rrV (some ⟨b, off + (j + 1), none⟩) (n - (j + 1)) (cap - (j + 1)) 0, .int .u64 y]) (by rw [results_cell_tmp rfl]; go_simp; rfl) rfl ⟨_, _, _, rfl, ref_end HB.out _ _⟩
    · subst hm0
      have hbp := fun W (h : BS W (some ⟨b, off, none⟩) n cap left) => h.past (m := 1) (by omega)
      go_wp2_with fail
      go_loopw [6, 5] (fun i x wr => i = .int .i64 1 ∧ x = .int .u64 0 ∧ wr = (w.alloc (.cells #[.slice (some ⟨b, off, none⟩) n cap, .int .i64 0] 138)).alloc (.cells #[.slice none 0 0, .int .i64 0] 138)) (fun _ _ _ => 0)
      case atStart => exact ⟨rfl, rfl, rfl⟩
      case round =>
        obtain ⟨rfl, rfl, rfl⟩ := hrel
        rcases hcap with hcap | hcap
        · simp only [if_pos (show cap = 1 by omega), show cap - 1 = 0 by omega] at hbp
          have HB := Lib.hid hbp
          clear hbp
          go_wp2_with fail
          rw [hr.out]
          refine bodyPost_ret (v := .tuple #[rrV (some ⟨b, off, none⟩) (n - 1) 0 0, .int .u64 0]) (by rw [results_cell_tmp rfl]; go_simp; rfl) rfl ⟨_, _, _, rfl, ref_end HB.out _ _⟩
        · simp only [if_neg (show ¬ cap = 1 by omega)] at hbp
          have HB := Lib.hid hbp
          clear hbp
          go_wp2_with fail
          rw [hr.out]
          refine bodyPost_ret (v := .tuple #[rrV (some ⟨b, off + 1, none⟩) (n - 1) (cap - 1) 0, .int .u64 0]) (by rw [results_cell_tmp rfl]; go_simp; rfl) rfl ⟨_, _, _, rfl, ref_end HB.out _ _⟩

end Go.Proofs.YtigdhdclfdojgaaGreat

/-
  THE WALKS of the document's own reader: counts, texts, the end.
-/
namespace Go.Proofs.YtigdhdclfdojgaaGreat
open Go.RowKit

theorem rnum_bad (left : List UInt8) (bad : Nat) (h : (rnum left bad).1.2 ≠ 0) : (rnum left bad).2 = 0 := by
  unfold rnum at *
  split
  · rfl
  · rename_i hb
    rw [if_neg hb] at h
    split
    · rfl
    · split
      · rfl
      · split
        · rfl
        · split
          · rfl
          · rename_i h1 h2 h3
            simp only [] at h
            rw [if_neg h1, if_neg h2, if_neg h3] at h
            exact (h rfl).elim
theorem rnum_bad_le (left : List UInt8) (bad : Nat) (h : bad ≤ 13) : (rnum left bad).1.2 ≤ 13 := by
  unfold rnum
  split
  · exact h
  · split
    · simp
    · split
      · simp
      · split
        · simp
        · split
          · simp
          · simp

theorem set_two0 {w : World} {p e : Nat} {a b : Value} (h : w.heap[p]? = some (.cells #[a, b] e (0, 0))) (u : Value) : (w.setCell ⟨p, 0, none⟩ u).heap[p]? = some (.cells #[u, b] e (0, 0)) := by
  simp [World.setCell, Array.getElem?_modify, h]
theorem set_two1 {w : World} {p e : Nat} {a b : Value} (h : w.heap[p]? = some (.cells #[a, b] e (0, 0))) (u : Value) : (w.setCell ⟨p, 1, none⟩ u).heap[p]? = some (.cells #[a, u] e (0, 0)) := by
  simp [World.setCell, Array.getElem?_modify, h]

/-- What is written and read at the two blocks of a reader that is handed on. -/
theorem two_blocks {w w1 : World} {g e : Nat} {a b c d : Value} (hg : w.heap.size ≤ g) (K : Kp Noone w w1) (hA : w1.heap[g]? = some (.cells #[a, b] e (0, 0))) (hB : w1.heap[g + 1]? = some (.cells #[c, d] e (0, 0))) (x y : Value) :
    ∃ w2, w2 = (w1.setCell ⟨g, 0, none⟩ x).setCell ⟨g, 1, none⟩ y ∧ Kp Noone w w2 ∧ w2.heap[g]? = some (.cells #[x, y] e (0, 0)) ∧ w2.heap[g + 1]? = some (.cells #[c, d] e (0, 0)) :=
  ⟨_, rfl, kp_new (kp_new K hg 0 x) hg 1 y, set_two1 (set_two0 hA x) y, set_off (set_off hB (by omega) 0 x) (by omega) 1 y⟩

set_option maxHeartbeats 1000000 in
set_option maxRecDepth 100000 in
theorem refReadCount_any (ao : Option Addr) (n cap : Nat) (left : List UInt8) (bad : Nat) (most : Int) (w : World) (hb : BS w ao n cap left) (hbad : bad ≤ 13) (hm0 : -9223372036854775808 ≤ most) (hm1 : most ≤ 9223372036854775807) :
    Calls Tryz.prog 80 #[rrV ao n cap bad, .int .i64 most] w (RefPost w ao n cap left (rcount left bad most).1.1 (rcount left bad most).1.2 (.int .i64 ((rcount left bad most).2 : Int))) := by
  have hf := rnum_lt left bad
  have hbd := rnum_bad left bad
  have hble := rnum_bad_le left bad hbad
  have HC := Lib.hid (show rcount left bad most = if (max 0 most).toNat < (rnum left bad).2 then (((rnum left bad).1.1, 12), 0) else rnum left bad from rfl)
  obtain ⟨t, ht⟩ : ∃ t : Nat, (max 0 most).toNat = t := ⟨_, rfl⟩
  have HT := Lib.hid ht
  have htt : (most < 0 ∧ t = 0) ∨ (most = (t : Int)) := by omega
  clear ht
  unfold rrV
  go_enter Tryz.func80, Tryz.ntmps80
  go_wp2_with fail
  have kA : ∀ A B : Obj, Kp Noone w ((w.alloc A).alloc B) := fun A B => ((Kp.refl _ _).alloc _).alloc _
  refine (refReadNum_any ao n cap left bad _ (hb.keep (kA _ _)) hbad).mono ?_
  rintro e w1 ⟨ao', n', cap', rfl, hb1, k1⟩
  have hA := k1.heap (heap_alloc2_old w _ _) id
  have hB := k1.heap (heap_alloc2_new w _ _) id
  obtain ⟨a0, a1, a2, a3⟩ := cells_two hA
  obtain ⟨b0, b1, b2, b3⟩ := cells_two hB
  have K1 := (kA _ _).trans k1
  generalize hR : rnum left bad = R at *
  obtain ⟨⟨left', bad'⟩, u⟩ := R
  simp only [] at *
  unfold W64 at hf
  unfold rrV
  clear kA k1 hR
  have hS := fun x y z => cells_two (set_two1 (set_two1 (set_two0 hA x) y) z)
  have hS0 := fun x y z => (hS x y z).1
  have hS1 := fun x y z => (hS x y z).2.1
  have hE := fun x y z a b => cells_two (set_two1 (set_two0 (set_off (set_off (set_off hB (g := w.heap.size) (by omega) 0 x) (g := w.heap.size) (by omega) 1 y) (g := w.heap.size) (by omega) 1 z) a) b)
  have hE0 := fun x y z a b => (hE x y z a b).1
  have hE1 := fun x y z a b => (hE x y z a b).2.1
  have hF := fun x y a b => cells_two (set_two1 (set_two0 (set_off (set_off hB (g := w.heap.size) (by omega) 0 x) (g := w.heap.size) (by omega) 1 y) a) b)
  have hF0 := fun x y a b => (hF x y a b).1
  have hF1 := fun x y a b => (hF x y a b).2.1
  have KE := fun x y z a b => kp_new (kp_new (kp_new (kp_new (kp_new K1 (g := w.heap.size) (Nat.le_refl _) 0 x) (g := w.heap.size) (Nat.le_refl _) 1 y) (g := w.heap.size) (Nat.le_refl _) 1 z) (g := w.heap.size + 1) (by omega) 0 a) (g := w.heap.size + 1) (by omega) 1 b
  have KF := fun x y a b => kp_new (kp_new (kp_new (kp_new K1 (g := w.heap.size) (Nat.le_refl _) 0 x) (g := w.heap.size) (Nat.le_refl _) 1 y) (g := w.heap.size + 1) (by omega) 0 a) (g := w.heap.size + 1) (by omega) 1 b
  have HKE := Lib.hid KE
  have HKF := Lib.hid KF
  clear hS hE hF hA hB KE KF K1
  have hcase : (t < u ∧ bad' = 0) ∨ (u ≤ t ∧ bad' = 0) ∨ (bad' ≠ 0 ∧ u = 0) := by
    rcases Nat.eq_zero_or_pos bad' with h | h
    · omega
    · have := hbd (by omega)
      omega
  clear hbd
  have hfin : ∀ x : Nat, x ≤ 9223372036854775807 → True := fun _ _ => trivial
  clear hfin
  rcases hcase with ⟨c, rfl⟩ | ⟨c, rfl⟩ | ⟨c, rfl⟩
  · have hr : Hid (rcount left bad most = ((left', 12), 0)) := Lib.hid (by rw [HC.out, HT.out, if_pos c])
    rw [Int.natCast_zero]
    rcases htt with ⟨hs, rfl⟩ | rfl
    all_goals (
      go_wp2_with fail
      rw [hr.out]
      exact bodyPost_ret (v := .tuple #[rrV ao' n' cap' 12, .int .i64 0]) (by rw [results_cell_tmp rfl]; go_simp; rfl) rfl ⟨_, _, _, rfl, hb1, HKE.out _ _ _ _ _⟩)
  · have hr : Hid (rcount left bad most = ((left', 0), u)) := Lib.hid (by rw [HC.out, HT.out, if_neg (by omega)])
    rw [Int.natCast_zero]
    rcases htt with ⟨hs, rfl⟩ | rfl
    all_goals (
      go_wp2_with fail
      rw [hr.out]
      exact bodyPost_ret (v := .tuple #[rrV ao' n' cap' 0, .int .i64 (u : Int)]) (by rw [results_cell_tmp rfl]; go_simp; rfl) rfl ⟨_, _, _, rfl, hb1, HKF.out _ _ _ _⟩)
  · have hr : Hid (rcount left bad most = ((left', bad'), 0)) := Lib.hid (by rw [HC.out, HT.out, if_neg (by omega)])
    have d : ((bad' : Int) == 0) = false := by simp; omega
    rcases htt with ⟨hs, rfl⟩ | rfl
    all_goals (
      go_wp2_with fail
      rw [hr.out]
      exact bodyPost_ret (v := .tuple #[rrV ao' n' cap' bad', .int .i64 0]) (by rw [results_cell_tmp rfl]; go_simp; rfl) rfl ⟨_, _, _, rfl, hb1, HKF.out _ _ _ _⟩)

theorem BS.front {w : World} {ao : Option Addr} {n cap : Nat} {l : List UInt8} (h : BS w ao n cap l) {m : Nat} (hm : m ≤ n) : BS w ao m cap (l.take m) := by
  have h1 := h.le
  refine ⟨by rw [List.length_take, h.len]; omega, by omega, h.max, ?_⟩
  rcases h.row with hr | ⟨b, off, rfl, hr⟩
  · left
    have : l = [] := by simpa [bv] using hr
    rw [this]; simp [bv]
  · right
    refine ⟨b, off, rfl, fun i hi => ?_⟩
    have hi2 : i < l.length := by rw [length_bv, List.length_take] at hi; omega
    rw [hr i (by rw [length_bv]; exact hi2)]
    simp [bv]

theorem rcount_bad_le (left : List UInt8) (bad : Nat) (most : Int) (h : bad ≤ 13) : (rcount left bad most).1.2 ≤ 13 := by
  unfold rcount
  split
  · simp
  · exact rnum_bad_le left bad h

def RefTextPost (w : World) (ao : Option Addr) (n cap : Nat) (left left' : List UInt8) (bad : Nat) (t : List UInt8) (e : Ending) (w' : World) : Prop :=
  ∃ ao' n' cap' bo c, e = .returned (.tuple #[rrV ao' n' cap' bad, .slice bo t.length c]) ∧ (∀ W, BS W ao n cap left → BS W ao' n' cap' left') ∧ BS w' bo t.length c t ∧ Kp Noone w w' ∧ ∀ a, bo = some a → w.heap.size ≤ a.block

/-- The text stays while the reader's two blocks are written. -/
theorem three_sets {w3 : World} {g B n : Nat} {l : List UInt8} (h : BS w3 (some ⟨B, 0, none⟩) n n l) (hB : g + 1 < B) (s a b : Value) : BS (((w3.setCell ⟨g, 0, none⟩ s).setCell ⟨g + 1, 0, none⟩ a).setCell ⟨g + 1, 1, none⟩ b) (some ⟨B, 0, none⟩) n n l := by
  have k : Kp (fun j => j = g ∨ j = g + 1) w3 (((w3.setCell ⟨g, 0, none⟩ s).setCell ⟨g + 1, 0, none⟩ a).setCell ⟨g + 1, 1, none⟩ b) :=
    Kp.setCell (S := fun j => j = g ∨ j = g + 1) (p := ⟨g + 1, 1, none⟩) (Kp.setCell (S := fun j => j = g ∨ j = g + 1) (p := ⟨g + 1, 0, none⟩) (Kp.setCell (S := fun j => j = g ∨ j = g + 1) (p := ⟨g, 0, none⟩) (Kp.refl _ _) (fun _ => Or.inl rfl) s) (fun _ => Or.inr rfl) a) (fun _ => Or.inr rfl) b
  refine h.kp k (fun x hx c => ?_)
  cases hx
  rcases c with c | c <;> simp at c <;> omega

set_option maxHeartbeats 1000000 in
set_option maxRecDepth 100000 in
theorem refReadText_any (ao : Option Addr) (n cap : Nat) (left : List UInt8) (bad : Nat) (most : Int) (w : World) (hb : BS w ao n cap left) (hbad : bad ≤ 13) (hm0 : -9223372036854775808 ≤ most) (hm1 : most ≤ 9223372036854775807) (hn : left.length ≤ 140737488355328) :
    Calls Tryz.prog 97 #[rrV ao n cap bad, .int .i64 most] w (RefTextPost w ao n cap left (rtext left bad most).1.1 (rtext left bad most).1.2 (rtext left bad most).2) := by
  have HT := Lib.hid (show rtext left bad most = if (rcount left bad most).1.2 ≠ 0 then ((rcount left bad most).1, [])
    else if (rcount left bad most).1.1.length < (rcount left bad most).2 then (((rcount left bad most).1.1, 10), [])
    else (((rcount left bad most).1.1.drop (rcount left bad most).2, 0), (rcount left bad most).1.1.take (rcount left bad most).2) from rfl)
  have hle := rcount_le left bad most hm1
  have hlen := rcount_len left bad most
  unfold rrV
  go_enter Tryz.func97, Tryz.ntmps97
  go_wp2_with fail
  have kA : ∀ A B : Obj, Kp Noone w ((w.alloc A).alloc B) := fun A B => ((Kp.refl _ _).alloc _).alloc _
  refine (refReadCount_any ao n cap left bad most _ (hb.keep (kA _ _)) hbad hm0 hm1).mono ?_
  rintro e w1 ⟨ao', n', cap', rfl, hb1, k1⟩
  have hA := k1.heap (heap_alloc2_old w _ _) id
  have hB := k1.heap (heap_alloc2_new w _ _) id
  obtain ⟨a0, a1, a2, a3⟩ := cells_two hA
  obtain ⟨b0, b1, b2, b3⟩ := cells_two hB
  have K1 := (kA _ _).trans k1
  generalize hR : rcount left bad most = R at *
  obtain ⟨⟨left', bad'⟩, q⟩ := R
  simp only [] at *
  unfold rrV
  have hbW := hb1 w hb
  have hlen' := hbW.len
  have hlc' := hbW.le
  have hmx' : cap' ≤ 9223372036854775807 := by have := hbW.max; unfold maxLen at this; omega
  clear kA k1 hR
  have hS := fun x y z => cells_two (set_two1 (set_two1 (set_two0 hA x) y) z)
  have hS0 := fun x y z => (hS x y z).1
  have hS1 := fun x y z => (hS x y z).2.1
  have hE := fun x y z a b => cells_two (set_two1 (set_two0 (set_off (set_off (set_off hB (g := w.heap.size) (by omega) 0 x) (g := w.heap.size) (by omega) 1 y) (g := w.heap.size) (by omega) 1 z) a) b)
  have hE0 := fun x y z a b => (hE x y z a b).1
  have hE1 := fun x y z a b => (hE x y z a b).2.1
  have hF := fun x y a b => cells_two (set_two1 (set_two0 (set_off (set_off hB (g := w.heap.size) (by omega) 0 x) (g := w.heap.size) (by omega) 1 y) a) b)
  have hF0 := fun x y a b => (hF x y a b).1
  have hF1 := fun x y a b => (hF x y a b).2.1
  have KE := fun x y z a b => kp_new (kp_new (kp_new (kp_new (kp_new K1 (g := w.heap.size) (Nat.le_refl _) 0 x) (g := w.heap.size) (Nat.le_refl _) 1 y) (g := w.heap.size) (Nat.le_refl _) 1 z) (g := w.heap.size + 1) (by omega) 0 a) (g := w.heap.size + 1) (by omega) 1 b
  have KF := fun x y a b => kp_new (kp_new (kp_new (kp_new K1 (g := w.heap.size) (Nat.le_refl _) 0 x) (g := w.heap.size) (Nat.le_refl _) 1 y) (g := w.heap.size + 1) (by omega) 0 a) (g := w.heap.size + 1) (by omega) 1 b
  have HKE := Lib.hid KE
  have HKF := Lib.hid KF
  by_cases c0 : bad' = 0
  case neg =>
    have hr : Hid (rtext left bad most = ((left', bad'), [])) := Lib.hid (by rw [HT.out, if_pos c0])
    have d : ((bad' : Int) != 0) = true := by simp; omega
    clear hS hE hF hA hB KE KF K1
    go_wp2_with fail
    rw [hr.out]
    exact bodyPost_ret (v := .tuple #[rrV ao' n' cap' bad', .slice none 0 0]) (by rw [results_cell_tmp rfl]; go_simp; rfl) rfl ⟨_, _, _, none, 0, rfl, hb1, ⟨rfl, Nat.le_refl _, by unfold maxLen; omega, Row.nil _ _⟩, HKF.out _ _ _ _, fun a h => by cases h⟩
  subst c0
  rw [Int.natCast_zero]
  by_cases c1 : n' < q
  · have hr : Hid (rtext left bad most = ((left', 10), [])) := Lib.hid (by rw [HT.out, if_neg (by simp), if_pos (by rw [hlen']; exact c1)])
    clear hS hE hF hA hB KE KF K1
    go_wp2_with fail
    rw [hr.out]
    exact bodyPost_ret (v := .tuple #[rrV ao' n' cap' 10, .slice none 0 0]) (by rw [results_cell_tmp rfl]; go_simp; rfl) rfl ⟨_, _, _, none, 0, rfl, hb1, ⟨rfl, Nat.le_refl _, by unfold maxLen; omega, Row.nil _ _⟩, HKE.out _ _ _ _ _, fun a h => by cases h⟩
  · have hr : Hid (rtext left bad most = ((left'.drop q, 0), left'.take q)) := Lib.hid (by rw [HT.out, if_neg (by simp), if_neg (by rw [hlen']; exact c1)])
    have HA := Lib.hid hA
    have HB := Lib.hid hB
    have HK1 := Lib.hid K1
    clear hS hE hF hA hB KE KF K1
    go_wp2_with fail
    obtain ⟨w2, hw2, K2, h2A, h2B⟩ := two_blocks (Nat.le_refl _) HK1.out HA.out HB.out (.slice ao' n' cap') (.int .i64 0)
    rw [← hw2]
    clear hw2
    have hK2s := K2.size
    have htl : (left'.take q).length = q := by rw [List.length_take]; omega
    refine (copy_exact _ _ _ (left'.take q) _ ((hb1 w2 (hb.keep K2)).front (by omega)) (by omega)).mono ?_
    rintro e w3 ⟨rfl, hw3⟩
    obtain ⟨hB3, k3⟩ := copied2 hw3 htl (by unfold maxLen; omega)
    clear hw3
    have h3A := k3.heap h2A id
    have h3B := k3.heap h2B id
    have K3 := K2.trans k3
    have hg1 := (Array.getElem?_eq_some_iff.1 h2B).1
    obtain ⟨c0, c1', c2, c3⟩ := cells_two h3A
    obtain ⟨d0, d1, d2, d3⟩ := cells_two h3B
    have hG := fun s a b => cells_two (set_two1 (set_two0 (set_off h3B (g := w.heap.size) (by omega) 0 s) a) b)
    have hG0 := fun s a b => (hG s a b).1
    have hG1 := fun s a b => (hG s a b).2.1
    have HKG := Lib.hid (fun s a b => kp_new (kp_new (kp_new K3 (g := w.heap.size) (Nat.le_refl _) 0 s) (g := w.heap.size + 1) (by omega) 0 a) (g := w.heap.size + 1) (by omega) 1 b)
    have HB3 := Lib.hid (fun s a b => three_sets (g := w.heap.size) hB3 hg1 s a b)
    have hbp := fun W (h : BS W ao n cap left) => (hb1 W h).past (m := q) (by omega)
    clear hG h3A h3B h2A h2B k3 K3 K2 hB3 hE0 hE1 hF0 hF1 hS0 hS1 a0 a1 a2 a3 b0 b1 b2 b3
    by_cases hcap : cap' = q
    · simp only [if_pos hcap, show cap' - q = 0 by omega] at hbp
      have HBP := Lib.hid hbp
      clear hbp
      go_wp2_with fail
      rw [hr.out]
      refine bodyPost_ret (v := .tuple #[rrV (ao') (n' - q) (0) 0, .slice (some ⟨w2.heap.size, 0, none⟩) q q]) (by rw [results_cell_tmp rfl]; go_simp; rfl) rfl ⟨_, _, _, some ⟨w2.heap.size, 0, none⟩, q, by rw [htl], HBP.out, by rw [htl]; exact HB3.out _ _ _, HKG.out _ _ _, fun a h => by cases h; exact hK2s⟩
    · simp only [if_neg hcap] at hbp
      have HBP := Lib.hid hbp
      clear hbp
      go_wp2_with fail
      rw [hr.out]
      refine bodyPost_ret (v := .tuple #[rrV (ao'.map (·.add q)) (n' - q) (cap' - q) 0, .slice (some ⟨w2.heap.size, 0, none⟩) q q]) (by rw [results_cell_tmp rfl]; go_simp; rfl) rfl ⟨_, _, _, some ⟨w2.heap.size, 0, none⟩, q, by rw [htl], HBP.out, by rw [htl]; exact HB3.out _ _ _, HKG.out _ _ _, fun a h => by cases h; exact hK2s⟩

theorem info_reader : (Tryz.prog.info? 138).map (·.size) = some 2 := by kernel_rfl

set_option maxHeartbeats 400000 in
set_option maxRecDepth 100000 in
theorem refDone_any (ao : Option Addr) (n cap : Nat) (left : List UInt8) (bad : Nat) (w : World) (hb : BS w ao n cap left) :
    Calls Tryz.prog 81 #[rrV ao n cap bad] w fun e w' => e = .returned (rrV ao n cap (rdone left bad)) ∧ Kp Noone w w' := by
  unfold rrV
  go_enter Tryz.func81, Tryz.ntmps81
  have hlen := hb.len
  by_cases c0 : bad = 0
  · subst c0
    rw [Int.natCast_zero]
    by_cases c1 : 0 < n
    · have hr : rdone left 0 = 13 := by
        unfold rdone
        rw [if_pos ⟨rfl, fun c => by subst c; simp at hlen; omega⟩]
      rw [hr]
      go_wp2_with fail
      exact bodyPost_ret (v := .agg #[.slice ao n cap, .int .i64 13]) (results_cell_row (ty := 138) rfl _ _ (w.heap.size + 1) _ _ _ _ rfl (heap_alloc2_new w _ _) Tryz.underlying138 rfl info_reader) rfl ⟨rfl, ((Kp.refl _ _).alloc _).alloc _⟩
    · have hr : rdone left 0 = 0 := by
        unfold rdone
        rw [if_neg (fun c => c.2 (List.eq_nil_of_length_eq_zero (by omega)))]
      rw [hr]
      go_wp2_with fail
      exact bodyPost_ret (v := .agg #[.slice ao n cap, .int .i64 0]) (results_cell_row (ty := 138) rfl _ _ (w.heap.size + 1) _ _ _ _ rfl (heap_alloc2_new w _ _) Tryz.underlying138 rfl info_reader) rfl ⟨rfl, ((Kp.refl _ _).alloc _).alloc _⟩
  · have hr : rdone left bad = bad := by
      unfold rdone
      rw [if_neg (fun c => c0 c.1)]
    rw [hr]
    have d : ((bad : Int) == 0) = false := by simp; omega
    go_wp2_with fail
    exact bodyPost_ret (v := .agg #[.slice ao n cap, .int .i64 (bad : Int)]) (results_cell_row (ty := 138) rfl _ _ (w.heap.size + 1) _ _ _ _ rfl (heap_alloc2_new w _ _) Tryz.underlying138 rfl info_reader) rfl ⟨rfl, ((Kp.refl _ _).alloc _).alloc _⟩

end Go.Proofs.YtigdhdclfdojgaaGreat

/-
  THE WALKS of the two sums: what each computes, for every byte slice.
-/
namespace Go.Proofs.YtigdhdclfdojgaaGreat
open Go.RowKit

set_option maxHeartbeats 400000 in
theorem refSum_any (ao : Option Addr) (n cap : Nat) (l : List UInt8) (w : World) (hb : BS w ao n cap l) (hn : n ≤ 9223372036854775807) :
    Calls Tryz.prog 112 #[.slice ao n cap] w fun e w' => e = .returned (.int .u64 (sumN l : Int)) ∧ w = w' := by
  go_enter Tryz.func112, Tryz.ntmps112
  go_wp2
  go_loop [3, 7] (fun h i => ∃ k : Nat, k ≤ n ∧ i = .int .i64 k ∧ h = .int .u64 (sumFrom start (l.take k) : Nat)) (fun _ i => n - (intOf i).toNat)
  case atStart => exact ⟨0, Nat.zero_le _, rfl, rfl⟩
  case round =>
    obtain ⟨k, hk, rfl, rfl⟩ := hrel
    by_cases hlt : k < n
    · obtain ⟨b, off, hl, rfl, _, hck⟩ := hb.at hlt
      have HS : Hid (sumFrom start (l.take (k + 1)) = stepN (sumFrom start (l.take k)) l[k]) := by rw [take_snoc l k hl]; exact sumFrom_snoc _ _ _
      have HW : Hid (W64 (sumFrom start (l.take k))) := W64_sumFrom _ _ W64_start
      generalize sumFrom start (l.take k) = H at *
      clear hb
      go_wp2
      go_round
      case rel => exact ⟨k + 1, by omega, by go_num, int_eq (by rw [HS.out]; exact step_val' _ HW.out)⟩
      case measure => simp [intOf]; omega
    · go_wp2
      go_ret
      exact ⟨ret_eq (int_eq (by rw [List.take_of_length_le (by rw [hb.len]; omega)]; rfl)), rfl⟩

theorem flat_snoc (ls : List (List UInt8)) (k : Nat) (h : k < ls.length) : (ls.take (k + 1)).flatten = (ls.take k).flatten ++ ls[k] := by
  rw [List.take_succ_eq_append_getElem h, List.flatten_append]; simp

set_option maxHeartbeats 400000 in
theorem sum_any (ao : Option Addr) (n cap : Nat) (ls : List (List UInt8)) (w : World) (hb : BSS w ao n cap ls) :
    Calls Tryz.prog 96 #[.slice ao n cap] w fun e w' => e = .returned (.int .u64 (sumN ls.flatten : Int)) ∧ w = w' := by
  have hn : n ≤ 9223372036854775807 := by have h1 := hb.le; have h2 := hb.max; unfold maxLen at h2; omega
  go_enter Tryz.func96, Tryz.ntmps96
  go_wp2
  go_loop [3, 10] (fun h i => ∃ k : Nat, k ≤ n ∧ i = .int .i64 k ∧ h = .int .u64 (sumFrom start (ls.take k).flatten : Nat)) (fun _ i => n - (intOf i).toNat)
  case atStart => exact ⟨0, Nat.zero_le _, rfl, rfl⟩
  case round =>
    obtain ⟨k, hk, rfl, rfl⟩ := hrel
    by_cases hlt : k < n
    · obtain ⟨b, off, bo, m, c, hl, rfl, _, hck, hB⟩ := hb.at hlt
      have hm : m ≤ 9223372036854775807 := by have h1 := hB.le; have h2 := hB.max; unfold maxLen at h2; omega
      have HS : Hid (sumFrom start (ls.take (k + 1)).flatten = sumFrom (sumFrom start (ls.take k).flatten) ls[k]) := by rw [flat_snoc ls k hl]; exact sumFrom_append _ _ _
      have HW : Hid (W64 (sumFrom start (ls.take k).flatten)) := W64_sumFrom _ _ W64_start
      generalize sumFrom start (ls.take k).flatten = H at *
      generalize ls[k] = l at *
      clear hb
      go_wp2
      go_loop [3, 16] (fun h i => ∃ j : Nat, j ≤ m ∧ i = .int .i64 j ∧ h = .int .u64 (sumFrom H (l.take j) : Nat)) (fun _ i => m - (intOf i).toNat)
      case atStart => exact ⟨0, Nat.zero_le _, rfl, rfl⟩
      case round =>
        obtain ⟨j, hj, rfl, rfl⟩ := hrel
        by_cases hjt : j < m
        · obtain ⟨b', off', hl', rfl, _, hcj⟩ := hB.at hjt
          have HT : Hid (sumFrom H (l.take (j + 1)) = stepN (sumFrom H (l.take j)) l[j]) := by rw [take_snoc l j hl']; exact sumFrom_snoc _ _ _
          have HX : Hid (W64 (sumFrom H (l.take j))) := W64_sumFrom _ _ HW.out
          generalize sumFrom H (l.take j) = G at *
          clear hB hck
          go_wp2
          go_round
          case rel => exact ⟨j + 1, by omega, by go_num, int_eq (by rw [HT.out]; exact step_val _ HX.out)⟩
          case measure => simp [intOf]; omega
        · go_wp2
          go_round
          case rel => exact ⟨k + 1, by omega, by go_num, int_eq (by rw [HS.out, List.take_of_length_le (by rw [hB.len]; omega)])⟩
          case measure => simp [intOf]; omega
    · go_wp2
      go_ret
      exact ⟨ret_eq (int_eq (by rw [List.take_of_length_le (by rw [hb.len]; omega)]; rfl)), rfl⟩

end Go.Proofs.YtigdhdclfdojgaaGreat

/-
  THE WALKS of Seal and its reference: what each computes, for every byte slice.
-/
namespace Go.Proofs.YtigdhdclfdojgaaGreat
open Go.RowKit

/-- The sum, the most significant byte first. -/
def eightL (h : Nat) : List UInt8 := [UInt8.ofNat (h / 72057594037927936), UInt8.ofNat (h / 281474976710656), UInt8.ofNat (h / 1099511627776), UInt8.ofNat (h / 4294967296), UInt8.ofNat (h / 16777216), UInt8.ofNat (h / 65536), UInt8.ofNat (h / 256), UInt8.ofNat h]

theorem u8_ofNat (x : Nat) : Value.int .u8 ((x : Int) % 256) = .int .u8 ((UInt8.ofNat x).toNat : Int) := by
  simp

set_option maxHeartbeats 1000000 in
theorem eight_any (h : Nat) (x0 x1 x2 x3 x4 x5 x6 x7 : UInt8) (hx : [x0, x1, x2, x3, x4, x5, x6, x7] = eightL h) (w : World) : Calls Tryz.prog 95 #[.int .u64 (h : Int)] w fun e w' =>
    e = .returned (.agg #[.int .u8 (x0.toNat : Int), .int .u8 (x1.toNat : Int), .int .u8 (x2.toNat : Int), .int .u8 (x3.toNat : Int), .int .u8 (x4.toNat : Int), .int .u8 (x5.toNat : Int), .int .u8 (x6.toNat : Int), .int .u8 (x7.toNat : Int)]) ∧ Kp Noone w w' := by
  simp only [eightL, List.cons.injEq] at hx
  obtain ⟨rfl, rfl, rfl, rfl, rfl, rfl, rfl, rfl, _⟩ := hx
  go_enter Tryz.func95, Tryz.ntmps95
  go_wp2
  refine wp_loop_rounds 9 ?_
  rw [rounds_succ]
  go_wp2
  rw [rounds_succ]
  go_wp2
  rw [rounds_succ]
  go_wp2
  rw [rounds_succ]
  go_wp2
  rw [rounds_succ]
  go_wp2
  rw [rounds_succ]
  go_wp2
  rw [rounds_succ]
  go_wp2
  rw [rounds_succ]
  go_wp2
  rw [rounds_succ]
  go_wp2
  refine bodyPost_ret (v := .agg (bv (eightL h)).toArray) ?_ rfl ⟨rfl, ?_⟩
  · simp [results, Tryz.results95, go_sem, bv, eightL, U8]
  · repeat (first | exact Kp.refl _ _ | apply Kp.alloc | refine Kp.setCell ?_ (fun h => absurd h (by simp)) _)

theorem eight_get (h : Nat) : ∃ x0 x1 x2 x3 x4 x5 x6 x7 : UInt8, [x0, x1, x2, x3, x4, x5, x6, x7] = eightL h := ⟨_, _, _, _, _, _, _, _, rfl⟩

set_option maxHeartbeats 400000 in
theorem seal_any (ao : Option Addr) (n cap : Nat) (l : List UInt8) (w : World) (hb : BS w ao n cap l) (hn : n ≤ 140737488353000) :
    Calls Tryz.prog 75 #[.slice ao n cap] w fun e w' => ∃ bo c, e = .returned (.slice bo (n + 8) c) ∧ Own (Ex Noone w w') w' 5 1 bo (n + 8) c (bv (l ++ eightL (sumN l))) ∧ Kp Noone w w' := by
  obtain ⟨i0, hi, hz0, hz1, hz2⟩ := info_parts info_u8
  obtain ⟨x0, x1, x2, x3, x4, x5, x6, x7, hx⟩ := eight_get (sumN l)
  have HX := Lib.hid hx
  clear hx
  go_enter Tryz.func75, Tryz.ntmps75
  go_wp2_with fail
  refine (sum_any _ _ _ [l] _ (BSS.one (bo := ao) (m := n) (c := cap) (by go_simp) (hb.keep ((Kp.refl _ _).alloc _)))).mono ?_
  rintro e w' ⟨rfl, rfl⟩
  rw [show [l].flatten = l from by simp]
  go_wp2_with fail
  refine (eight_any _ x0 x1 x2 x3 x4 x5 x6 x7 HX.out _).mono ?_
  rintro e w1 ⟨rfl, hk⟩
  have hb1 := hb.keep (((Kp.refl _ _).alloc _).trans hk)
  have hr8 := Row.ofHeap (w := (w1.alloc (.cells (bv [x0, x1, x2, x3, x4, x5, x6, x7]).toArray 157)).drew) (e := 157) (fr := (0, 0)) (heap_alloc_new w1 _)
  go_wp2_with fail
  go_region_law (first
    | (refine step_append_gen rfl (.const (.slice none 0 0)) (.tmp 8) 42 rfl 5 i0 (.int .u8 0) 1 1 Tryz.underlying42 hi hz0 hz1 hz2 rfl none 0 0 rfl ao n cap rfl Noone [] (Own.nil _ _ _ _ _) (bv l) (by simp [bv, hb.len]) (hb1.row.keep ((((Kp.refl _ _).alloc _)).drew)) (bv_one l) (by omega) (by unfold maxLen; omega) ?_; intro ao1 cap1 w2 hown1 hk1; simp only [Nat.zero_add, List.nil_append] at hown1)
    | (refine step_append_gen rfl (.tmp 9) (.tmp 10) 42 rfl 5 i0 (.int .u8 0) 1 1 Tryz.underlying42 hi hz0 hz1 hz2 rfl ao1 n cap1 rfl _ 8 8 rfl _ (bv l) hown1 (bv [x0, x1, x2, x3, x4, x5, x6, x7]) rfl (hr8.keep hk1) (bv_one _) (by omega) (by unfold maxLen; omega) ?_; intro ao2 cap2 w3 hown2 hk2))
  go_wp2
  go_ret
  have s1 : w.heap.size + 1 ≤ w1.heap.size := by simpa using hk.size
  have s2 : w1.heap.size + 1 ≤ w2.heap.size := by simpa using hk1.size
  have s3 := hk2.size
  refine ⟨ao2, cap2, rfl, ?_, ?_⟩
  · rw [← HX.out, ← bv_append]
    refine hown2.mono (fun k hk h => ?_)
    rcases h with h | h
    · have h' := h.none
      simp at h'
      exact Or.inr ⟨by omega, by omega⟩
    · exact Or.inr ⟨by omega, h.2⟩
  · refine Kp.fin (((((Kp.refl _ _).alloc _).trans hk).alloc _).drew.trans hk1) hk2 (fun k h => Or.inr ?_)
    have h' := h.none
    simp at h'
    omega

/-- h shifted left by k bytes, and what its first byte is. -/
def shl (h k : Nat) : Nat := h * 256 ^ k % 18446744073709551616
theorem W64_sumN (l : List UInt8) : W64 (sumN l) := W64_sumFrom _ _ W64_start
theorem shl_zero {h : Nat} (hh : W64 h) : shl h 0 = h := by
  unfold shl; unfold W64 at hh; rw [Nat.pow_zero, Nat.mul_one]; exact Nat.mod_eq_of_lt hh
theorem shl_succ (h k : Nat) : IntKind.u64.wrap ((shl h k : Int) * 256) = (shl h (k + 1) : Int) := by
  rw [IntKind.wrap_u64]; unfold shl; rw [Nat.pow_succ, ← Nat.mul_assoc]; generalize h * 256 ^ k = x; omega
theorem shl_top (h k : Nat) (hk : k < 8) : IntKind.u64.wrap ((shl h k : Int) / 72057594037927936) % 256 = ((eightL h)[k]'(by simpa [eightL] using hk)).toNat := by
  have h8 : k = 0 ∨ k = 1 ∨ k = 2 ∨ k = 3 ∨ k = 4 ∨ k = 5 ∨ k = 6 ∨ k = 7 := by omega
  rcases h8 with rfl | rfl | rfl | rfl | rfl | rfl | rfl | rfl <;> simp [IntKind.wrap_u64, shl, eightL] <;> omega

set_option maxHeartbeats 400000 in
theorem refSeal_any (ao : Option Addr) (n cap : Nat) (l : List UInt8) (w : World) (hb : BS w ao n cap l) (hn : n ≤ 140737488355320) :
    Calls Tryz.prog 86 #[.slice ao n cap] w fun e w' => ∃ bo c, e = .returned (.slice bo (n + 8) c) ∧ Own (Ex Noone w w') w' 5 1 bo (n + 8) c (bv (l ++ eightL (sumN l))) ∧ Kp Noone w w' := by
  obtain ⟨i0, hi, hz0, hz1, hz2⟩ := info_parts info_u8
  go_enter Tryz.func86, Tryz.ntmps86
  go_wp2_with fail
  refine (copy_exact _ _ _ l _ hb (by omega)).mono ?_
  rintro e w1 ⟨rfl, hw1⟩
  have hk : Kp Noone w w1 := by rw [hw1]; exact (Kp.refl _ _).alloc _
  have hown : Own (Ex Noone w w1) w1 5 1 (some ⟨w.heap.size, 0, none⟩) n n (bv l) :=
    Own.fresh (Or.inr ⟨Nat.le_refl _, by rw [hw1]; simp⟩) (by rw [hw1]; exact heap_alloc_new w _) (by simp [bv, hb.len]) (by unfold maxLen; omega)
  have hb1 := hb.keep hk
  clear hw1
  go_wp2_with fail
  refine (refSum_any _ _ _ l _ hb1 (by omega)).mono ?_
  rintro e w' ⟨rfl, rfl⟩
  have hs1 := hk.size
  go_wp2_with fail
  go_loopw [3, 4, 5] (fun v h i wr => ∃ (k : Nat) (bo : Option Addr) (c : Nat), k ≤ 8 ∧ i = .int .i64 k ∧ h = .int .u64 (shl (sumN l) k : Nat) ∧ v = .slice bo (n + k) c ∧ Own (Ex Noone w wr) wr 5 1 bo (n + k) c (bv (l ++ (eightL (sumN l)).take k)) ∧ Kp Noone w wr)
    (fun _ _ i _ => 8 - (intOf i).toNat)
  case atStart => exact ⟨0, _, _, by omega, rfl, by rw [shl_zero (W64_sumN l)], rfl, by simpa using hown, hk⟩
  case round =>
    obtain ⟨k, bo, c, hk8, rfl, rfl, rfl, ho, hkr⟩ := hrel
    by_cases hlt : k < 8
    · have hkl : k < (eightL (sumN l)).length := hlt
      have HT := Lib.hid (shl_top (sumN l) k hlt)
      have HS := Lib.hid (shl_succ (sumN l) k)
      have HA : Hid ((eightL (sumN l)).take (k + 1) = (eightL (sumN l)).take k ++ [(eightL (sumN l))[k]]) := take_snoc _ _ hkl
      generalize (eightL (sumN l))[k] = x at HT HA
      generalize shl (sumN l) k = X at *
      clear hb hb1 hown hk hs1
      have HR : Hid (∀ W : World, Row (W.alloc (.cells #[.int .u8 (IntKind.u64.wrap ((X : Int) / 72057594037927936) % 256)] 5)) (some ⟨W.heap.size, 0, none⟩) (bv [x])) := by
        intro W
        rw [HT.out]
        exact Row.ofHeap (heap_alloc_new W _)
      go_wp2_with (at_builtin; refine wpList_append_gen _ rfl (.tmp 14) (.tmp 18) 42 rfl 5 i0 (.int .u8 0) 1 1 Tryz.underlying42 hi hz0 hz1 hz2 rfl bo (n + k) c rfl _ 1 1 rfl _ (bv (l ++ (eightL (sumN l)).take k)) (ho.keep ((Kp.refl _ _).alloc _)) (bv [x]) rfl (HR.out _) (bv_one _) (by omega) (by unfold maxLen; omega) ?_)
      intro bo' c' w2 ho2 hk2
      go_wp2
      go_roundw
      case rel =>
        have s1 := hkr.size
        have s2 : wr.heap.size + 1 ≤ w2.heap.size := by simpa using hk2.size
        refine ⟨k + 1, bo', c', by omega, by go_num, int_eq HS.out, rfl, ?_, ?_⟩
        · rw [HA.out, ← List.append_assoc, ← bv_append]
          refine ho2.mono (fun j hj h => ?_)
          rcases h with h | h
          · exact Or.inr ⟨h.none.1, hj⟩
          · simp at h
            exact Or.inr ⟨by omega, hj⟩
        · exact Kp.fin (hkr.alloc _) hk2 (fun j h => Or.inr h.none.1)
      case measure => simp [intOf]; omega
    · go_wp2
      go_ret
      obtain rfl : k = 8 := by omega
      exact ⟨bo, c, rfl, ho, hkr⟩

end Go.Proofs.YtigdhdclfdojgaaGreat

/-
  THE WALKS of the two Open: what each answers, for every byte slice.
-/
namespace Go.Proofs.YtigdhdclfdojgaaGreat
open Go.RowKit

/-- Is it sealed? -/
def okSeal (l : List UInt8) : Bool := decide (8 ≤ l.length) && (eightL (sumN (l.take (l.length - 8))) == l.drop (l.length - 8))
def openL (l : List UInt8) : List UInt8 := if okSeal l then l.take (l.length - 8) else []
def openE (l : List UInt8) : Int := if okSeal l then 0 else if l.length < 8 then 10 else 14

theorem openL_length (l : List UInt8) : (openL l).length ≤ l.length := by unfold openL; split <;> simp <;> omega

def OpenPost (l : List UInt8) (w : World) (e : Ending) (w' : World) : Prop :=
  ∃ bo m c, e = .returned (.tuple #[.slice bo m c, .int .i64 (openE l)]) ∧ Own (Ex Noone w w') w' 5 1 bo m c (bv (openL l)) ∧ Kp Noone w w'

theorem open_nil (l : List UInt8) (w w' : World) (hk : Kp Noone w w') (h : okSeal l = false) (e : Ending) (he : e = .returned (.tuple #[.slice none 0 0, .int .i64 (openE l)])) : OpenPost l w e w' := by
  refine ⟨none, 0, 0, he, ?_, hk⟩
  rw [openL, h]
  exact Own.nil _ _ _ _ _

theorem okSeal_iff {l : List UInt8} {m : Nat} (hl : l.length = m + 8) : okSeal l = (eightL (sumN (l.take m)) == l.drop m) := by
  unfold okSeal
  rw [show l.length - 8 = m from by omega]
  simp [hl]

theorem seal_iff {l : List UInt8} {m : Nat} (hl : l.length = m + 8) : (l.take m ++ eightL (sumN (l.take m)) == l) = okSeal l := by
  rw [okSeal_iff hl]
  rw [Bool.eq_iff_iff, beq_iff_eq, beq_iff_eq]
  constructor
  · intro h
    have h2 := congrArg (List.drop m) h
    rw [List.drop_append_of_le_length (by rw [List.length_take]; omega), List.drop_eq_nil_of_le (by rw [List.length_take]; omega)] at h2
    simpa using h2
  · intro h
    rw [h, List.take_append_drop]

/-- What is cut in front. -/
theorem BS.take {w : World} {ao : Option Addr} {n cap : Nat} {l : List UInt8} (h : BS w ao n cap l) {m : Nat} (hm : m ≤ n) : BS w ao m cap (l.take m) := by
  refine ⟨by rw [List.length_take, h.len]; omega, by have := h.le; omega, h.max, ?_⟩
  rcases h.row with hr | ⟨b, off, rfl, hr⟩
  · left
    have : l = [] := by simpa [bv] using hr
    simp [this, bv]
  · refine Or.inr ⟨b, off, rfl, fun i hi => ?_⟩
    have hi' : i < (bv l).length := by simp [bv] at hi ⊢; omega
    rw [hr i hi']
    simp [bv]

set_option maxHeartbeats 400000 in
theorem refOpen_any (ao : Option Addr) (n cap : Nat) (l : List UInt8) (w : World) (hb : BS w ao n cap l) (hn : n ≤ 140737488355328) :
    Calls Tryz.prog 98 #[.slice ao n cap] w (OpenPost l w) := by
  have HL := Lib.hid hb.len
  by_cases h8 : n < 8
  · go_enter Tryz.func98, Tryz.ntmps98
    go_wp2
    go_ret2
    have h : okSeal l = false := by unfold okSeal; simp; intro; rw [HL.out] at *; omega
    exact open_nil l w _ (Kp.refl _ _) h _ (by rw [openE, h, HL.out, if_neg (by simp), if_pos h8]; rfl)
  · obtain ⟨m, rfl⟩ : ∃ m, n = m + 8 := ⟨n - 8, by omega⟩
    have hbt := hb.take (m := m) (by omega)
    have HO := Lib.hid (seal_iff HL.out)
    have hle := hb.le
    go_enter Tryz.func98, Tryz.ntmps98
    go_wp2_with fail
    refine (copy_exact _ _ _ _ _ hbt (by omega)).mono ?_
    rintro e w1 ⟨rfl, hw1⟩
    have hk : Kp Noone w w1 := by rw [hw1]; exact (Kp.refl _ _).alloc _
    have hown : Own (Ex Noone w w1) w1 5 1 (some ⟨w.heap.size, 0, none⟩) m m (bv (l.take m)) :=
      Own.fresh (Or.inr ⟨Nat.le_refl _, by rw [hw1]; simp⟩) (by rw [hw1]; exact heap_alloc_new w _) (by simp [bv]; rw [HL.out]; omega) (by unfold maxLen; omega)
    clear hw1
    go_wp2_with fail
    refine (refSeal_any _ _ _ _ _ hown.bs (by omega)).mono ?_
    rintro e w2 ⟨bo, c, rfl, ho2, hk2⟩
    go_wp2_with fail
    refine (same_any _ _ _ _ _ _ _ _ _ ho2.bs (hb.keep (hk.trans hk2)) (by omega)).mono ?_
    rintro e w3 ⟨rfl, q, rfl⟩
    rw [HO.out]
    cases hok : okSeal l with
    | false =>
      have HK := Lib.hid hok
      clear hok
      go_wp2
      go_ret2
      exact open_nil l w _ ((hk.trans hk2).drewN _) HK.out _ (by rw [openE, HK.out, HL.out]; rfl)
    | true =>
      have HK := Lib.hid hok
      clear hok
      go_wp2
      go_ret2
      have s1 := hk2.size
      refine ⟨_, m, m, by rw [openE, HK.out]; rfl, ?_, (hk.trans hk2).drewN _⟩
      rw [openL, HK.out, HL.out]
      have := (hown.keep (hk2.drewN q))
      refine (show Own _ _ _ _ _ _ _ (bv (l.take (m + 8 - 8))) from this).mono (fun j hj h => ?_)
      exact Or.inr ⟨h.none.1, hj⟩

theorem eight_of {l : List UInt8} (h : l.length = 8) : ∃ x0 x1 x2 x3 x4 x5 x6 x7 : UInt8, l = [x0, x1, x2, x3, x4, x5, x6, x7] := by
  match l, h with
  | [x0, x1, x2, x3, x4, x5, x6, x7], _ => exact ⟨x0, x1, x2, x3, x4, x5, x6, x7, rfl⟩

theorem eight_cells {w : World} {b off m cap : Nat} {l : List UInt8} {y0 y1 y2 y3 y4 y5 y6 y7 : UInt8} (hb : BS w (some ⟨b, off, none⟩) (m + 8) cap l) (hy : l.drop m = [y0, y1, y2, y3, y4, y5, y6, y7]) :
    w.cell? ⟨b, off + m, none⟩ = some (.int .u8 (y0.toNat : Int)) ∧ w.cell? ⟨b, off + m + 1, none⟩ = some (.int .u8 (y1.toNat : Int)) ∧ w.cell? ⟨b, off + m + 2, none⟩ = some (.int .u8 (y2.toNat : Int)) ∧ w.cell? ⟨b, off + m + 3, none⟩ = some (.int .u8 (y3.toNat : Int)) ∧
    w.cell? ⟨b, off + m + 4, none⟩ = some (.int .u8 (y4.toNat : Int)) ∧ w.cell? ⟨b, off + m + 5, none⟩ = some (.int .u8 (y5.toNat : Int)) ∧ w.cell? ⟨b, off + m + 6, none⟩ = some (.int .u8 (y6.toNat : Int)) ∧ w.cell? ⟨b, off + m + 7, none⟩ = some (.int .u8 (y7.toNat : Int)) := by
  have key : ∀ j (hj : j < 8), w.cell? ⟨b, off + (m + j), none⟩ = some (U8 ([y0, y1, y2, y3, y4, y5, y6, y7][j]'(by simpa using hj))) := by
    intro j hj
    obtain ⟨b', off', hl, he, _, hc⟩ := hb.at (k := m + j) (by omega)
    simp only [Option.some.injEq, Addr.mk.injEq] at he
    obtain ⟨rfl, rfl, _⟩ := he
    rw [hc]
    have h1 : l[m + j]? = [y0, y1, y2, y3, y4, y5, y6, y7][j]? := by rw [← hy, List.getElem?_drop]
    rw [List.getElem?_eq_getElem hl, List.getElem?_eq_getElem (by simpa using hj)] at h1
    rw [Option.some.inj h1]
    rfl
  refine ⟨key 0 (by omega), key 1 (by omega), key 2 (by omega), key 3 (by omega), key 4 (by omega), key 5 (by omega), key 6 (by omega), key 7 (by omega)⟩

theorem run_arrayAt8 (W : World) (a : Option Addr) (c : Nat) : (Instr.arrayAt 157 (.slice a 8 c)).run Tryz.prog W = .ok (.pointer a) W := by
  simp [Instr.arrayAt, run_underlying Tryz.underlying157]

theorem run_equal8 (x0 x1 x2 x3 x4 x5 x6 x7 y0 y1 y2 y3 y4 y5 y6 y7 : UInt8) (W : World) :
    (Op.equalIn 10000 157 (.agg #[.int .u8 (x0.toNat : Int), .int .u8 (x1.toNat : Int), .int .u8 (x2.toNat : Int), .int .u8 (x3.toNat : Int), .int .u8 (x4.toNat : Int), .int .u8 (x5.toNat : Int), .int .u8 (x6.toNat : Int), .int .u8 (x7.toNat : Int)])
      (.agg #[.int .u8 (y0.toNat : Int), .int .u8 (y1.toNat : Int), .int .u8 (y2.toNat : Int), .int .u8 (y3.toNat : Int), .int .u8 (y4.toNat : Int), .int .u8 (y5.toNat : Int), .int .u8 (y6.toNat : Int), .int .u8 (y7.toNat : Int)])).run Tryz.prog W =
      .ok ([y0, y1, y2, y3, y4, y5, y6, y7] == [x0, x1, x2, x3, x4, x5, x6, x7]) W := by
  obtain ⟨i0, hi, hz0, hz1, hz2⟩ := info_parts info_u8
  have hc : Tryz.prog.cellsOf 5 = 1 := by simp [Program.cellsOf, hi, hz1]
  have h := run_equalIn_array (P := Tryz.prog) W 9999 (bv [x0, x1, x2, x3, x4, x5, x6, x7]).toArray (bv [y0, y1, y2, y3, y4, y5, y6, y7]).toArray Tryz.underlying157 hi
  rw [hc, run_eqItems_bytes 9998 5 Tryz.underlying5 _ _ _ (by intro i hi; simp at hi ⊢; omega)] at h
  refine Eq.trans h (congrArg (fun b => Result.ok b W) ?_)
  rw [Bool.eq_iff_iff, beq_iff_eq]
  simp [List.range_succ]
  constructor
  · rintro ⟨rfl, rfl, rfl, rfl, rfl, rfl, rfl, rfl⟩
    simp
  · rintro ⟨rfl, rfl, rfl, rfl, rfl, rfl, rfl, rfl⟩
    simp

set_option maxHeartbeats 1000000 in
theorem open_any (ao : Option Addr) (n cap : Nat) (l : List UInt8) (w : World) (hb : BS w ao n cap l) (hn : n ≤ 140737488355328) :
    Calls Tryz.prog 89 #[.slice ao n cap] w (OpenPost l w) := by
  have HL := Lib.hid hb.len
  have hle := hb.le
  obtain ⟨i0, hi, hz0, hz1, hz2⟩ := info_parts info_u8
  by_cases h8 : n < 8
  · go_enter Tryz.func89, Tryz.ntmps89
    go_wp2
    go_ret2
    have h : okSeal l = false := by unfold okSeal; simp; intro; rw [HL.out] at *; omega
    exact open_nil l w _ (Kp.refl _ _) h _ (by rw [openE, h, HL.out, if_neg (by simp), if_pos h8]; rfl)
  · obtain ⟨m, rfl⟩ : ∃ m, n = m + 8 := ⟨n - 8, by omega⟩
    have hbt := hb.take (m := m) (by omega)
    have HO := Lib.hid (okSeal_iff HL.out)
    obtain ⟨x0, x1, x2, x3, x4, x5, x6, x7, hx⟩ := eight_get (sumN (l.take m))
    obtain ⟨y0, y1, y2, y3, y4, y5, y6, y7, hy⟩ := eight_of (l := l.drop m) (by rw [List.length_drop, HL.out]; omega)
    obtain ⟨b, off, _, rfl, hbW, _⟩ := hb.at (k := 0) (by omega)
    have HX := Lib.hid hx
    have HY := Lib.hid hy
    obtain ⟨c0, c1, c2, c3, c4, c5, c6, c7⟩ := eight_cells hb hy
    clear hx hy
    go_enter Tryz.func89, Tryz.ntmps89
    go_wp2_with fail
    have b1 : (m : Int) ≤ (m : Int) + 8 := by omega
    have b2 : ¬ cap = m := by omega
    have b3 : (m : Int) ≤ (cap : Int) := by omega
    have b4 : m ≤ cap := by omega
    have ka := run_arrayAt8
    have ke := fun W => run_equal8 y0 y1 y2 y3 y4 y5 y6 y7 x0 x1 x2 x3 x4 x5 x6 x7 W
    rw [HX.out, ← HY.out, ← HO.out] at ke
    go_region_law (first
      | (go_simp; go_at_call 96; refine (sum_any _ _ _ [l.take m] _ (BSS.one (bo := some ⟨b, off, none⟩) (m := m) (c := cap) (by go_simp) (hbt.keep (((Kp.refl _ _).alloc _).drew)))).mono ?_; rintro e w' ⟨rfl, rfl⟩)
      | (go_simp; go_at_call 95; refine (eight_any _ x0 x1 x2 x3 x4 x5 x6 x7 HX.out _).mono ?_; rintro e w1 ⟨rfl, hk⟩; obtain ⟨d0, d1, d2, d3, d4, d5, d6, d7⟩ := eight_cells (hb.keep ((((Kp.refl _ _).alloc _).drew).trans hk)) HY.out))
    all_goals
      have hk1 : Kp Noone w w1 := (((Kp.refl _ _).alloc _).drew).trans hk
      clear ke ka b1 b2 c0 c1 c2 c3 c4 c5 c6 c7 d0 d1 d2 d3 d4 d5 d6 d7 HX HY hk
      cases hok : okSeal l with
      | false =>
        have HK := Lib.hid hok
        clear hok
        go_wp2
        go_ret2
        exact open_nil l w _ hk1 HK.out _ (by rw [openE, HK.out, HL.out]; rfl)
      | true =>
        have HK := Lib.hid hok
        have s1 := hk1.size
        clear hok
        go_wp2_with (at_builtin; refine wpList_append_gen _ rfl (.const (.slice none 0 0)) (.tmp 24) 42 rfl 5 i0 (.int .u8 0) 1 1 Tryz.underlying42 hi hz0 hz1 hz2 rfl none 0 0 rfl (some ⟨b, off, none⟩) m cap rfl Noone [] (Own.nil _ _ _ _ _) (bv (l.take m)) (by rw [length_bv, hbt.len, Nat.mul_one]) (hbt.keep hk1).row (bv_one _) (by omega) (by unfold maxLen; omega) ?_)
        intro bo c w2 ho hk2
        go_wp2
        go_ret2
        refine ⟨bo, m, c, by rw [openE, HK.out]; rfl, ?_, hk1.trans hk2⟩
        rw [openL, HK.out, HL.out]
        refine (show Own _ _ _ _ _ _ _ (bv (l.take (m + 8 - 8))) from ho).mono (fun j hj h => ?_)
        have h' := h.none
        exact Or.inr ⟨by omega, hj⟩

end Go.Proofs.YtigdhdclfdojgaaGreat

/-
  PLAIN LAWS of the sum: each step is one to one, so one byte turned is told; a sealed text with one byte turned is not sealed.
-/
namespace Go.Proofs.YtigdhdclfdojgaaGreat

theorem xor_back (h c : Nat) : (h ^^^ c) ^^^ c = h := by
  rw [Nat.xor_assoc, Nat.xor_self, Nat.xor_zero]

theorem mul_back {x : Nat} (hx : x < 18446744073709551616) : (x * 1099511628211 % 18446744073709551616) * 14886173955864302971 % 18446744073709551616 = x := by
  rw [Nat.mod_mul_mod, Nat.mul_assoc, Nat.mul_mod, show 1099511628211 * 14886173955864302971 % 18446744073709551616 = 1 from by decide, Nat.mul_one, Nat.mod_mod, Nat.mod_eq_of_lt hx]

theorem step_inj_h {h h' : Nat} {c : UInt8} (hh : W64 h) (hh' : W64 h') (e : stepN h c = stepN h' c) : h = h' := by
  unfold stepN at e
  have e1 := congrArg (fun y => y * 14886173955864302971 % 18446744073709551616) e
  rw [mul_back (xor_lt64 c hh), mul_back (xor_lt64 c hh')] at e1
  have e2 := congrArg (fun y => y ^^^ c.toNat) e1
  simpa [xor_back] using e2

theorem step_inj_c {h : Nat} {c c' : UInt8} (hh : W64 h) (e : stepN h c = stepN h c') : c = c' := by
  unfold stepN at e
  have e1 := congrArg (fun y => y * 14886173955864302971 % 18446744073709551616) e
  rw [mul_back (xor_lt64 c hh), mul_back (xor_lt64 c' hh)] at e1
  rw [Nat.xor_comm h, Nat.xor_comm h] at e1
  have e2 := congrArg (fun y => y ^^^ h) e1
  simp only [xor_back] at e2
  exact UInt8.toNat_inj.1 e2

theorem sumFrom_cons (h : Nat) (c : UInt8) (l : List UInt8) : sumFrom h (c :: l) = sumFrom (stepN h c) l := by unfold sumFrom; exact List.foldl_cons ..
theorem sumFrom_nil (h : Nat) : sumFrom h [] = h := by unfold sumFrom; exact List.foldl_nil ..

theorem sumFrom_inj (l : List UInt8) : ∀ {h h' : Nat}, W64 h → W64 h' → sumFrom h l = sumFrom h' l → h = h' := by
  induction l with
  | nil => intro h h' _ _ e; simpa [sumFrom_nil] using e
  | cons c l ih =>
    intro h h' hh hh' e
    rw [sumFrom_cons, sumFrom_cons] at e
    exact step_inj_h hh hh' (ih (W64_step _ _) (W64_step _ _) e)

theorem sumFrom_set (l : List UInt8) : ∀ {h : Nat} {k : Nat} (hk : k < l.length) (c : UInt8), W64 h → (sumFrom h (l.set k c) = sumFrom h l ↔ l[k] = c) := by
  induction l with
  | nil => intro h k hk; simp at hk
  | cons x l ih =>
    intro h k hk c hh
    cases k with
    | zero =>
      rw [List.set_cons_zero, sumFrom_cons, sumFrom_cons, List.getElem_cons_zero]
      constructor
      · intro e
        exact (step_inj_c hh (sumFrom_inj l (W64_step _ _) (W64_step _ _) e)).symm
      · rintro rfl; rfl
    | succ k =>
      rw [List.set_cons_succ, sumFrom_cons, sumFrom_cons, List.getElem_cons_succ]
      exact ih (by simpa using hk) c (W64_step _ _)

/-- Two texts of one length that differ in one byte alone have different sums. -/
theorem sum_set {l : List UInt8} {k : Nat} (hk : k < l.length) (c : UInt8) : sumN (l.set k c) = sumN l ↔ l[k] = c := sumFrom_set l hk c W64_start

theorem ofNat_inj {x y : Nat} (h : UInt8.ofNat x = UInt8.ofNat y) : x % 256 = y % 256 := by
  have := congrArg UInt8.toNat h
  simpa using this

theorem eight_inj {h h' : Nat} (hh : W64 h) (hh' : W64 h') (e : eightL h = eightL h') : h = h' := by
  simp only [eightL, List.cons.injEq] at e
  obtain ⟨e0, e1, e2, e3, e4, e5, e6, e7, _⟩ := e
  have a0 := ofNat_inj e0
  have a1 := ofNat_inj e1
  have a2 := ofNat_inj e2
  have a3 := ofNat_inj e3
  have a4 := ofNat_inj e4
  have a5 := ofNat_inj e5
  have a6 := ofNat_inj e6
  have a7 := ofNat_inj e7
  unfold W64 at hh hh'
  clear e0 e1 e2 e3 e4 e5 e6 e7
  have q7 : h / 72057594037927936 = h' / 72057594037927936 := by omega
  have q6 : h / 281474976710656 = h' / 281474976710656 := by omega
  have q5 : h / 1099511627776 = h' / 1099511627776 := by omega
  have q4 : h / 4294967296 = h' / 4294967296 := by omega
  have q3 : h / 16777216 = h' / 16777216 := by omega
  have q2 : h / 65536 = h' / 65536 := by omega
  have q1 : h / 256 = h' / 256 := by omega
  omega

theorem length_eightL (h : Nat) : (eightL h).length = 8 := rfl

/-- One byte of what was sealed, turned into another one, is told. -/
theorem ok_set (l : List UInt8) {k : Nat} (hk : k < (l ++ eightL (sumN l)).length) (c : UInt8) : okSeal ((l ++ eightL (sumN l)).set k c) = ((l ++ eightL (sumN l))[k] == c) := by
  have hlen : ((l ++ eightL (sumN l)).set k c).length = l.length + 8 := by rw [List.length_set, List.length_append, length_eightL]
  rw [okSeal_iff hlen, Bool.eq_iff_iff, beq_iff_eq, beq_iff_eq]
  by_cases hkl : k < l.length
  · rw [List.set_append_left _ _ hkl, List.take_left' (by simp), List.drop_left' (by simp), List.getElem_append_left hkl]
    constructor
    · intro e
      exact (sum_set hkl c).1 (eight_inj (W64_sumN _) (W64_sumN _) e)
    · intro e
      rw [(sum_set hkl c).2 e]
  · have hk8 : k - l.length < (eightL (sumN l)).length := by rw [length_eightL]; rw [List.length_append, length_eightL] at hk; omega
    rw [List.set_append_right _ _ (by omega), List.take_left' rfl, List.drop_left' rfl, List.getElem_append_right (by omega)]
    constructor
    · intro e
      have h1 : (eightL (sumN l))[k - l.length]? = ((eightL (sumN l)).set (k - l.length) c)[k - l.length]? := by rw [← e]
      rw [List.getElem?_eq_getElem hk8, List.getElem?_set_self hk8] at h1
      exact Option.some.inj h1
    · intro e
      rw [← e, List.set_getElem_self]

end Go.Proofs.YtigdhdclfdojgaaGreat

