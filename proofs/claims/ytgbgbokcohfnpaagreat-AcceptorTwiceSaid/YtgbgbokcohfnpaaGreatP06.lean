/-
  The texts PackSeal in one: what the claim reaches of them.
-/
import Derived.Test.YtgbgbokcohfnpaaGreatP01
import Derived.Test.YtgbgbokcohfnpaaGreatProg
import Derived.Lib.Tables
import Derived.Deep.Light
import Derived.Laws.BitsAllLaws
import Derived.Test.YtgbgbokcohfnpaaGreatP03
import Derived.ScopeJumps
import Derived.WalkMore
import Derived.Laws.ResultCell
set_option maxRecDepth 100000
/-
  PackPlain, Len, Writer, WriteT, Write, RefsN, Refs, Reader, ReadsT, Reads, RefReads, RefTexts, Sums, Seal, Open, Tell in one text.
-/
/-
  PLAIN LAWS of packed numbers: how a number is written, how it is read, that it has one form. No program.
-/
namespace Go.Proofs.YtgbgbokcohfnpaaGreat

/-- How many bytes a number has. -/
def sizeN (u : Nat) : Nat :=
  if u = 0 then 0 else if u < 256 then 1 else if u < 65536 then 2 else if u < 16777216 then 3 else if u < 4294967296 then 4
  else if u < 1099511627776 then 5 else if u < 281474976710656 then 6 else if u < 72057594037927936 then 7 else 8
/-- The last k bytes, the most significant one first. -/
def beN : Nat → Nat → List UInt8
  | 0, _ => []
  | k + 1, u => UInt8.ofNat (u / 256 ^ k) :: beN k u
def numL (u : Nat) : List UInt8 := UInt8.ofNat (sizeN u) :: beN (sizeN u) u
def ofBE (l : List UInt8) : Nat := l.foldl (fun u c => 256 * u + c.toNat) 0

theorem length_beN (k u : Nat) : (beN k u).length = k := by
  induction k with
  | zero => rfl
  | succ k ih => simp [beN, ih]
theorem sizeN_le (u : Nat) : sizeN u ≤ 8 := by
  unfold sizeN; repeat' split
  all_goals omega
theorem length_numL (u : Nat) : (numL u).length = sizeN u + 1 := by simp [numL, length_beN]

theorem foldl_be (l : List UInt8) : ∀ a : Nat, l.foldl (fun u c => 256 * u + c.toNat) a = a * 256 ^ l.length + ofBE l := by
  unfold ofBE
  induction l with
  | nil => intro a; simp
  | cons c l ih =>
    intro a
    simp only [List.foldl_cons, List.length_cons]
    rw [ih, ih (256 * 0 + c.toNat), Nat.pow_succ]
    simp only [Nat.mul_zero, Nat.zero_add, Nat.add_mul]
    rw [Nat.mul_comm 256 a, Nat.mul_assoc, Nat.mul_comm 256 (256 ^ l.length), Nat.add_assoc]
theorem ofBE_cons (c : UInt8) (l : List UInt8) : ofBE (c :: l) = c.toNat * 256 ^ l.length + ofBE l := by
  have h := foldl_be l (256 * 0 + c.toNat)
  simp only [Nat.mul_zero, Nat.zero_add] at h
  rw [← h]
  unfold ofBE
  simp
theorem ofBE_snoc (l : List UInt8) (c : UInt8) : ofBE (l ++ [c]) = 256 * ofBE l + c.toNat := by
  unfold ofBE; rw [List.foldl_append, List.foldl_cons, List.foldl_nil]
theorem ofBE_lt (l : List UInt8) : ofBE l < 256 ^ l.length := by
  induction l with
  | nil => simp [ofBE]
  | cons c l ih =>
    rw [ofBE_cons, List.length_cons, Nat.pow_succ]
    have hc := c.toNat_lt
    have h1 : (c.toNat + 1) * 256 ^ l.length ≤ 256 * 256 ^ l.length := Nat.mul_le_mul_right _ (by omega)
    rw [Nat.add_mul] at h1
    omega

theorem ofBE_beN (k : Nat) : ∀ u, ofBE (beN k u) = u % 256 ^ k := by
  induction k with
  | zero => intro u; simp [beN, ofBE, Nat.mod_one]
  | succ k ih =>
    intro u
    rw [beN, ofBE_cons, ih, length_beN, UInt8.toNat_ofNat']
    show u / 256 ^ k % 256 * 256 ^ k + u % 256 ^ k = _
    rw [Nat.pow_succ, Nat.mod_mul, Nat.mul_comm, Nat.add_comm]
theorem beN_ofBE (l : List UInt8) : beN l.length (ofBE l) = l := by
  induction l with
  | nil => rfl
  | cons c l ih =>
    have hlt := ofBE_lt l
    have hp : 0 < 256 ^ l.length := Nat.pow_pos (by omega)
    rw [List.length_cons, beN]
    have e1 : ofBE (c :: l) / 256 ^ l.length = c.toNat := by
      rw [ofBE_cons, Nat.mul_comm, Nat.mul_add_div hp, Nat.div_eq_of_lt hlt, Nat.add_zero]
    have e2 : beN l.length (ofBE (c :: l)) = beN l.length (ofBE l) := by
      have key : ∀ k u v, k ≤ l.length → beN k (v * 256 ^ l.length + u) = beN k u := by
        intro k
        induction k with
        | zero => intros; rfl
        | succ k ih2 =>
          intro u v hk
          rw [beN, beN, ih2 u v (by omega)]
          congr 1
          apply UInt8.toNat_inj.1
          rw [UInt8.toNat_ofNat', UInt8.toNat_ofNat']
          have hd : 256 ^ l.length = 256 ^ k * (256 * 256 ^ (l.length - k - 1)) := by
            rw [← Nat.pow_succ', ← Nat.pow_add]; congr 1; omega
          rw [hd, Nat.mul_comm v, Nat.mul_assoc, Nat.mul_add_div (Nat.pow_pos (by omega))]
          show (256 * 256 ^ (l.length - k - 1) * v + u / 256 ^ k) % 256 = _
          rw [Nat.mul_assoc, Nat.mul_add_mod]
      rw [ofBE_cons]
      exact key _ _ _ (Nat.le_refl _)
    rw [e1, e2, ih]
    congr 1
    apply UInt8.toNat_inj.1
    rw [UInt8.toNat_ofNat']
    have := c.toNat_lt
    exact Nat.mod_eq_of_lt this

theorem sizeN_lt (u : Nat) (h : u < 18446744073709551616) : u < 256 ^ sizeN u := by
  unfold sizeN; repeat' split
  all_goals simp; omega
theorem sizeN_min (u : Nat) {k : Nat} (h : u < 256 ^ k) (hk : k ≤ 8) : sizeN u ≤ k := by
  have h8 : k = 0 ∨ k = 1 ∨ k = 2 ∨ k = 3 ∨ k = 4 ∨ k = 5 ∨ k = 6 ∨ k = 7 ∨ k = 8 := by omega
  unfold sizeN
  rcases h8 with rfl | rfl | rfl | rfl | rfl | rfl | rfl | rfl | rfl <;> simp at h <;> (repeat' split) <;> omega
theorem sizeN_big (u : Nat) {k : Nat} (h : 256 ^ k ≤ u) (hk : k < 8) : k < sizeN u := by
  have h8 : k = 0 ∨ k = 1 ∨ k = 2 ∨ k = 3 ∨ k = 4 ∨ k = 5 ∨ k = 6 ∨ k = 7 := by omega
  unfold sizeN
  rcases h8 with rfl | rfl | rfl | rfl | rfl | rfl | rfl | rfl <;> simp at h <;> (repeat' split) <;> omega

/-- A row of at most eight bytes is a number's one form just where it is empty or does not begin with a nought. -/
theorem sizeN_ofBE (l : List UInt8) (hl : l.length ≤ 8) : sizeN (ofBE l) = l.length ↔ (l = [] ∨ ∃ c r, l = c :: r ∧ c ≠ 0) := by
  cases l with
  | nil => simp [ofBE, sizeN]
  | cons c r =>
    have hlt := ofBE_lt r
    have hp : 0 < 256 ^ r.length := Nat.pow_pos (by omega)
    simp only [List.length_cons] at hl ⊢
    constructor
    · intro h
      refine Or.inr ⟨c, r, rfl, fun hc => ?_⟩
      subst hc
      rw [ofBE_cons] at h
      simp only [UInt8.toNat_zero, Nat.zero_mul, Nat.zero_add] at h
      have := sizeN_min _ hlt (by omega)
      omega
    · rintro (h | ⟨c', r', h, hc⟩)
      · cases h
      · obtain ⟨rfl, rfl⟩ := List.cons.inj h
        have h1 := sizeN_min (ofBE (c :: r)) (k := r.length + 1) (ofBE_lt _) hl
        have hc1 : 1 ≤ c.toNat := by
          rcases Nat.eq_zero_or_pos c.toNat with h0 | h0
          · exact (hc (UInt8.toNat_inj.1 h0)).elim
          · exact h0
        have h2 : 256 ^ r.length ≤ ofBE (c :: r) := by
          rw [ofBE_cons]
          have := Nat.mul_le_mul_right (256 ^ r.length) hc1
          omega
        have h3 := sizeN_big _ h2 (by omega)
        omega

theorem beN_take (s u : Nat) {k d : Nat} (h : k + d + 1 = s) : (beN s u).take (k + 1) = (beN s u).take k ++ [UInt8.ofNat (u / 256 ^ d)] := by
  have hk : k < (beN s u).length := by rw [length_beN]; omega
  rw [List.take_succ_eq_append_getElem hk]
  congr 2
  have key : ∀ (s k d : Nat) (hk : k < (beN s u).length), k + d + 1 = s → (beN s u)[k] = UInt8.ofNat (u / 256 ^ d) := by
    intro s
    induction s with
    | zero => intro k d hk h; omega
    | succ s ih =>
      intro k d hk h
      cases k with
      | zero => simp only [beN, List.getElem_cons_zero]; congr 3; omega
      | succ k => simp only [beN, List.getElem_cons_succ]; exact ih k d (by rw [length_beN]; omega) (by omega)
  exact key s k d hk h

end Go.Proofs.YtgbgbokcohfnpaaGreat

/-
  THE WALKS of Len64 and Size: how many bytes a number has.
-/
namespace Go.Proofs.YtgbgbokcohfnpaaGreat
open Go.RowKit

/-- The number of bits of a byte. -/
def bits8 (y : Nat) : Nat := if y = 0 then 0 else if y < 2 then 1 else if y < 4 then 2 else if y < 8 then 3 else if y < 16 then 4 else if y < 32 then 5 else if y < 64 then 6 else if y < 128 then 7 else 8

theorem len8_bits : ∀ y : Fin 256, Lib.len8 (y.val : Int) = (bits8 y.val : Int) := by decide +kernel
theorem len8_at (y : Nat) (h : y < 256) : Lib.len8 (y : Int) = (bits8 y : Int) := len8_bits ⟨y, h⟩
theorem bits8_le (y : Nat) : bits8 y ≤ 8 := by unfold bits8; repeat' split
                                               all_goals omega

def LenPost (x : Nat) (w : World) (e : Ending) (w' : World) : Prop := ∃ b : Nat, e = .returned (.int .i64 (b : Int)) ∧ (b + 7) / 8 = sizeN x ∧ b ≤ 64 ∧ w = w'

theorem tab_get (y : Int) (h0 : 0 ≤ y) (h1 : y < 256) (h : y.toNat < Lib.len8tab.size) : (Lib.len8tab[y.toNat]'h).toNat = bits8 y.toNat := by
  have e := len8_at y.toNat (by omega)
  unfold Lib.len8 at e
  rw [show ((y.toNat : Nat) : Int).toNat = y.toNat from by omega, getElem?_pos Lib.len8tab y.toNat h] at e
  exact Int.ofNat.inj e
theorem bits8_pos {y : Nat} (h : 1 ≤ y) : 1 ≤ bits8 y := by unfold bits8; repeat' split
                                                            all_goals omega

/-- The last step of each way. -/
theorem len_end (x y : Int) (k m : Nat) (w : World) (v : Int) (h0 : 0 ≤ y) (h1 : y < 256) (h : y.toNat < Lib.len8tab.size) (hk : k = 8 * m) (hm : m ≤ 7) (hv : v = wrap64 ((k : Int) + wrap64 ((Lib.len8tab[y.toNat]'h).toNat : Int)))
    (hs : (1 ≤ y ∧ sizeN x.toNat = m + 1) ∨ (y = 0 ∧ m = 0 ∧ sizeN x.toNat = 0)) : LenPost x.toNat w (.returned (.int .i64 v)) w := by
  have a := bits8_le y.toNat
  rw [tab_get y h0 h1 h] at hv
  refine ⟨k + bits8 y.toNat, ?_, ?_, by omega, rfl⟩
  · have e : v = ((k + bits8 y.toNat : Nat) : Int) := by rw [hv]; unfold wrap64; omega
    rw [e]
  · rcases hs with ⟨h2, h3⟩ | ⟨rfl, rfl, h3⟩
    · have b := bits8_pos (y := y.toNat) (by omega)
      rw [h3]; omega
    · rw [h3, hk]; rfl

theorem size_of (x : Int) (_h0 : 0 ≤ x) (m : Nat) (hm : m ≤ 7) (h : (256 : Int) ^ m ≤ x) (h' : m = 7 ∨ x < (256 : Int) ^ (m + 1)) : sizeN x.toNat = m + 1 := by
  have h8 : m = 0 ∨ m = 1 ∨ m = 2 ∨ m = 3 ∨ m = 4 ∨ m = 5 ∨ m = 6 ∨ m = 7 := by omega
  unfold sizeN
  rcases h8 with rfl | rfl | rfl | rfl | rfl | rfl | rfl | rfl <;> simp at h h' <;> (repeat' split) <;> omega

set_option maxRecDepth 1000000 in
set_option maxHeartbeats 4000000 in
theorem len64_int (x : Int) (w : World) (h0 : 0 ≤ x) (h1 : x ≤ 18446744073709551615) : Calls Tryz.prog 148 #[.int .u64 x] w (LenPost x.toNat w) := by
  go_enter Tryz.func148, Tryz.ntmps148
  go_wp2
  all_goals first
    | (go_ret; go_light)
    | (exfalso
       go_light
       have hs := Lib.len8tab_size
       omega)
  all_goals first
    | exact len_end x (x / 4294967296 / 65536 / 256) 56 7 w _ (by omega) (by omega) _ (by decide) (by decide) rfl (Or.inl ⟨by omega, size_of x h0 7 (by decide) (by simp; omega) (Or.inl rfl)⟩)
    | exact len_end x (x / 4294967296 / 65536) 48 6 w _ (by omega) (by omega) _ (by decide) (by decide) rfl (Or.inl ⟨by omega, size_of x h0 6 (by decide) (by simp; omega) (Or.inr (by simp; omega))⟩)
    | exact len_end x (x / 4294967296 / 256) 40 5 w _ (by omega) (by omega) _ (by decide) (by decide) rfl (Or.inl ⟨by omega, size_of x h0 5 (by decide) (by simp; omega) (Or.inr (by simp; omega))⟩)
    | exact len_end x (x / 4294967296) 32 4 w _ (by omega) (by omega) _ (by decide) (by decide) rfl (Or.inl ⟨by omega, size_of x h0 4 (by decide) (by simp; omega) (Or.inr (by simp; omega))⟩)
    | exact len_end x (x / 65536 / 256) 24 3 w _ (by omega) (by omega) _ (by decide) (by decide) rfl (Or.inl ⟨by omega, size_of x h0 3 (by decide) (by simp; omega) (Or.inr (by simp; omega))⟩)
    | exact len_end x (x / 65536) 16 2 w _ (by omega) (by omega) _ (by decide) (by decide) rfl (Or.inl ⟨by omega, size_of x h0 2 (by decide) (by simp; omega) (Or.inr (by simp; omega))⟩)
    | exact len_end x (x / 256) 8 1 w _ (by omega) (by omega) _ (by decide) (by decide) rfl (Or.inl ⟨by omega, size_of x h0 1 (by decide) (by simp; omega) (Or.inr (by simp; omega))⟩)
    | (rename_i hsz
       refine len_end x x 0 0 w _ (by omega) (by omega) (by omega) (by decide) (by decide) ?_ ?_
       · show wrap64 (wrap64 _) = wrap64 (0 + wrap64 _)
         rw [Int.zero_add]
       · by_cases hx : x = 0
         · exact Or.inr ⟨hx, rfl, by rw [hx]; rfl⟩
         · exact Or.inl ⟨by omega, size_of x h0 0 (by decide) (by simp; omega) (Or.inr (by simp; omega))⟩)

theorem len64_any (x : Nat) (w : World) (hx : W64 x) : Calls Tryz.prog 148 #[.int .u64 (x : Int)] w (LenPost x w) := by
  have h := len64_int (x : Int) w (by omega) (by unfold W64 at hx; omega)
  rwa [Int.toNat_natCast] at h

set_option maxHeartbeats 400000 in
theorem size_any (x : Nat) (w : World) (hx : W64 x) : Calls Tryz.prog 171 #[.int .u64 (x : Int)] w fun e w' => e = .returned (.int .i64 ((sizeN x : Int) + 1)) ∧ w = w' := by
  have HX := Lib.hid hx
  clear hx
  go_enter Tryz.func171, Tryz.ntmps171
  go_wp2_with fail
  refine (len64_any x w HX.out).mono ?_
  rintro e w' ⟨b, rfl, hb, h64, rfl⟩
  have HB := Lib.hid hb
  clear hb
  go_wp2
  go_ret
  refine ⟨ret_eq (int_eq ?_), rfl⟩
  have := HB.out
  omega

end Go.Proofs.YtgbgbokcohfnpaaGreat

/-
  THE WALKS of pack's Writer: what has been written so far is a list of bytes.
-/
namespace Go.Proofs.YtgbgbokcohfnpaaGreat
open Go.RowKit

/-- A writer at block p that has written l; its blocks are of F. -/
def Wr (F : Nat → Prop) (w : World) (p : Nat) (l : List UInt8) : Prop :=
  F p ∧ ∃ ao n cap, w.heap[p]? = some (.cells #[.slice ao n cap] 267 (0, 0)) ∧ Own (fun k => F k ∧ k ≠ p) w 5 1 ao n cap (bv l)

theorem Wr.mono {F G : Nat → Prop} {w : World} {p : Nat} {l : List UInt8} (h : Wr F w p l) (hfg : ∀ k, k < w.heap.size → F k → G k) : Wr G w p l := by
  obtain ⟨hp, ao, n, cap, hh, ho⟩ := h
  exact ⟨hfg p (Array.getElem?_eq_some_iff.1 hh).1 hp, ao, n, cap, hh, ho.mono (fun k hk h => ⟨hfg k hk h.1, h.2⟩)⟩
theorem Wr.kp {F S : Nat → Prop} {w w' : World} {p : Nat} {l : List UInt8} (h : Wr F w p l) (k : Kp S w w') (hd : ∀ k, F k → ¬ S k) : Wr F w' p l := by
  obtain ⟨hp, ao, n, cap, hh, ho⟩ := h
  exact ⟨hp, ao, n, cap, k.heap hh (hd p hp), ho.kp k (fun j hj => hd j hj.1)⟩
theorem Wr.keep {F : Nat → Prop} {w w' : World} {p : Nat} {l : List UInt8} (h : Wr F w p l) (k : Kp Noone w w') : Wr F w' p l := h.kp k (fun _ _ c => c.elim)

theorem cell_one {w : World} {p e : Nat} {v : Value} (h : w.heap[p]? = some (.cells #[v] e (0, 0))) : w.cell? ⟨p, 0, none⟩ = some v ∧ w.frozen? ⟨p, 0, none⟩ = false := by
  constructor
  · rw [cell_of_row w p 0 _ e (0, 0) h]; rfl
  · simp [World.frozen?, h]
theorem heap_set_one {w : World} {p e : Nat} {v u : Value} (h : w.heap[p]? = some (.cells #[v] e (0, 0))) : (w.setCell ⟨p, 0, none⟩ u).heap[p]? = some (.cells #[u] e (0, 0)) := by
  simp [World.setCell, Array.getElem?_modify, h]

/-- Behind 'w.b = append(w.b, ..)'. -/
theorem Wr.put {F : Nat → Prop} {w w1 : World} {p : Nat} {v : Value} {ao' : Option Addr} {n' cap' : Nat} {l : List UInt8} (hp : F p) (hh : w.heap[p]? = some (.cells #[v] 267 (0, 0)))
    (ho : Own (Ex (fun k => F k ∧ k ≠ p) w w1) w1 5 1 ao' n' cap' (bv l)) (k : Kp (fun k => F k ∧ k ≠ p) w w1) :
    Wr (Ex F w w1) (w1.setCell ⟨p, 0, none⟩ (.slice ao' n' cap')) p l ∧ Kp F w (w1.setCell ⟨p, 0, none⟩ (.slice ao' n' cap')) := by
  have hh1 := k.heap hh (fun h => h.2 rfl)
  have hpw := (Array.getElem?_eq_some_iff.1 hh).1
  refine ⟨⟨Or.inl hp, ao', n', cap', heap_set_one hh1, ?_⟩, ?_⟩
  · have h1 : Own (fun k => Ex F w w1 k ∧ k ≠ p) w1 5 1 ao' n' cap' (bv l) := ho.mono (fun j _ h => by
      rcases h with h | h
      · exact ⟨Or.inl h.1, h.2⟩
      · exact ⟨Or.inr h, by omega⟩)
    have h2 : Kp (fun k => k = p) w1 (w1.setCell ⟨p, 0, none⟩ (.slice ao' n' cap')) := (Kp.refl (fun k => k = p) w1).setCell (p := ⟨p, 0, none⟩) (fun _ => rfl) _
    exact h1.kp h2 (fun j hj => hj.2)
  · exact (k.mono (fun j _ h => h.1)).setCell (fun _ => hp) _

/-- A put in a later world: the blocks that are his by then. -/
theorem Wr.chain {F : Nat → Prop} {w wr wA w3 wf : World} {p : Nat} {l : List UInt8} (h : Wr (Ex (Ex F w wr) wA w3) wf p l) (ha : w.heap.size ≤ wA.heap.size) : Wr (Ex F w wf) wf p l :=
  h.mono (fun k hk h => by
    rcases h with h | h
    · rcases h with h | h
      · exact Or.inl h
      · exact Or.inr ⟨h.1, hk⟩
    · exact Or.inr ⟨by omega, hk⟩)
/-- Two spans of one writer. -/
theorem Kp.ex {F : Nat → Prop} {a b c : World} (h : Kp F a b) (k : Kp (Ex F a b) b c) : Kp F a c :=
  h.fin k (fun _ hj => by rcases hj with hj | hj; exact Or.inl hj; exact Or.inr hj.1)

/-- What a writer's call answers. -/
def WrPost (F : Nat → Prop) (w : World) (p : Nat) (l : List UInt8) (e : Ending) (w' : World) : Prop :=
  e = .returned (.pointer (some ⟨p, 0, none⟩)) ∧ Wr (Ex F w w') w' p l ∧ Kp F w w'

set_option maxHeartbeats 400000 in
set_option maxRecDepth 100000 in
theorem newWriter_any (w : World) : Calls Tryz.prog 134 #[] w fun e w' => ∃ p, e = .returned (.pointer (some ⟨p, 0, none⟩)) ∧ Wr (Ex Noone w w') w' p [] ∧ Kp Noone w w' ∧ w.heap.size ≤ p := by
  go_enter Tryz.func134, Tryz.ntmps134
  go_wp2
  go_ret
  refine ⟨w.heap.size, rfl, ⟨Or.inr ⟨Nat.le_refl _, by simp⟩, none, 0, 0, heap_alloc_new w _, Own.nil _ _ _ _ _⟩, (Kp.refl _ _).alloc _, Nat.le_refl _⟩

theorem run_shr8 (u d : Nat) (hd : d ≤ 7) (W : World) : (Op.shift BinOp.shr IntKind.u64 (u : Int) IntKind.i64 (IntKind.i64.wrap (8 * (d : Int)))).run Tryz.prog W = .ok (.int .u64 ((u / 256 ^ d : Nat) : Int)) W := by
  have hw : IntKind.i64.wrap (8 * (d : Int)) = 8 * (d : Int) := IntWalk.i64_in _ (by omega)
  have hp : (u : Int) / 2 ^ (8 * (d : Int)).toNat = ((u / 256 ^ d : Nat) : Int) := by
    have : (8 * (d : Int)).toNat = 8 * d := by omega
    have h2 : (2 : Int) ^ (8 * d) = ((256 ^ d : Nat) : Int) := by
      rw [Int.pow_mul]; simp
    rw [this, h2, Int.natCast_ediv]
  rw [hw, shift_shr _ _ _ _ (by omega) (by simp [IntKind.bits]; omega), hp]
  rfl

set_option maxHeartbeats 1000000 in
set_option maxRecDepth 100000 in
theorem writerNum_any (F : Nat → Prop) (p : Nat) (l : List UInt8) (u : Nat) (w : World) (hw : Wr F w p l) (hu : W64 u) (hl : l.length ≤ 140737488355000) :
    Calls Tryz.prog 135 #[.pointer (some ⟨p, 0, none⟩), .int .u64 (u : Int)] w (WrPost F w p (l ++ numL u)) := by
  obtain ⟨i0, hi, hz0, hz1, hz2⟩ := info_parts info_u8
  have HU := Lib.hid hu
  have hs8 := sizeN_le u
  clear hu
  obtain ⟨hp, ao, n, cap, hh, ho⟩ := hw
  obtain ⟨hc0, hf0⟩ := cell_one hh
  have hn : n = l.length := by have := ho.1; rw [length_bv] at this; omega
  have hnb : n ≤ 140737488355000 := by omega
  have HN := Lib.hid hn
  clear hn hl
  go_enter Tryz.func135, Tryz.ntmps135
  go_wp2_with fail
  refine (size_any u _ HU.out).mono ?_
  rintro e w' ⟨rfl, rfl⟩
  have HR : Hid (∀ W : World, Row (W.alloc (.cells #[.int .u8 (sizeN u : Int)] 5)) (some ⟨W.heap.size, 0, none⟩) (bv [UInt8.ofNat (sizeN u)])) := by
    intro W
    refine Row.ofHeap (e := 5) (fr := (0, 0)) ?_
    rw [heap_alloc_new]
    simp [bv, U8]
    omega
  have kal : ∀ o : Obj, Kp Noone w (w.alloc o) := fun o => (Kp.refl _ _).alloc o
  have hha := fun o : Obj => (kal o).heap hh id
  have HSL : Hid (numL u = UInt8.ofNat (sizeN u) :: beN (sizeN u) u) := Lib.hid rfl
  generalize sizeN u = s at *
  go_wp2_with (at_builtin; refine wpList_append_gen _ rfl (.tmp 16) (.tmp 19) 44 rfl 5 i0 (.int .u8 0) 1 1 Tryz.underlying44 hi hz0 hz1 hz2 rfl ao n cap rfl (some ⟨w.heap.size, 0, none⟩) 1 1 rfl _ _ (ho.keep (kal _)) (bv [UInt8.ofNat s]) rfl (HR.out _) (bv_one _) (by omega) (by unfold maxLen; omega) ?_)
  intro ao1 cap1 w1 ho1 k1
  have hh1 := k1.heap (hha _) (fun h => h.2 rfl)
  obtain ⟨hc1, hf1⟩ := cell_one hh1
  rw [bv_append] at ho1
  have P := Wr.put hp (hha _) ho1 k1
  have hs1 := k1.size
  have hsA := (kal (.cells #[.int .u8 (s : Int)] 5)).size
  have K2 := (kal _).none.trans P.2
  have W2 : Wr (Ex F w (w1.setCell ⟨p, 0, none⟩ (.slice ao1 (n + 1) cap1))) (w1.setCell ⟨p, 0, none⟩ (.slice ao1 (n + 1) cap1)) p (l ++ [UInt8.ofNat s]) :=
    P.1.mono (fun k hk h => by
      rcases h with h | h
      · exact Or.inl h
      · exact Or.inr ⟨by omega, hk⟩)
  clear ho1 k1 hh1 hha hc0 hf0 ho hh P hs1 hsA HR
  go_wp2_with fail
  generalize w1.setCell ⟨p, 0, none⟩ (.slice ao1 (n + 1) cap1) = w2 at *
  clear hc1 hf1
  go_loopw [6] (fun i wr => ∃ (k : Nat) (j : Int), k ≤ s ∧ i = .int .i64 j ∧ j = (s : Int) - 1 - k ∧ Wr (Ex F w wr) wr p (l ++ [UInt8.ofNat s] ++ (beN s u).take k) ∧ Kp F w wr) (fun i _ => (intOf i + 1).toNat)
  case atStart => exact ⟨0, _, Nat.zero_le _, rfl, by omega, by simpa using W2, K2⟩
  case round =>
    obtain ⟨k, j, hk, rfl, hj, hwr, kr⟩ := hrel
    have HJ := Lib.hid hj
    by_cases h0 : 0 ≤ j
    · obtain ⟨d, rfl⟩ := Int.eq_ofNat_of_zero_le h0
      have hd : d ≤ 7 := by omega
      have HB := Lib.hid (beN_take s u (k := k) (d := d) (by omega))
      obtain ⟨hp', bo, m, c, hh, ho⟩ := hwr
      obtain ⟨hc0, hf0⟩ := cell_one hh
      clear hj W2
      have hsh := run_shr8 u d hd
      have hm : m = l.length + 1 + k := by
        have := ho.1
        simp [bv, length_beN] at this
        omega
      have hmb : m ≤ 140737488355016 := by have := HN.out; omega
      clear hm
      generalize u / 256 ^ d = x at *
      have HR : Hid (∀ W : World, Row (W.alloc (.cells #[.int .u8 ((x : Int) % 256)] 5)) (some ⟨W.heap.size, 0, none⟩) (bv [UInt8.ofNat x])) := by
        intro W
        refine Row.ofHeap (e := 5) (fr := (0, 0)) ?_
        rw [heap_alloc_new]
        simp [bv, U8]
      have kar : ∀ o : Obj, Kp Noone wr (wr.alloc o).drew := fun o => ((Kp.refl _ _).alloc o).drew
      have hha := fun o : Obj => (kar o).heap hh id
      have hka := fun o : Obj => cell_one (hha o)
      have hka1 := fun o : Obj => (hka o).1
      go_wp2_with fail
      go_region_law (refine step_append_gen rfl (.tmp 33) (.tmp 39) 44 rfl 5 i0 (.int .u8 0) 1 1 Tryz.underlying44 hi hz0 hz1 hz2 rfl bo m c rfl (some ⟨wr.heap.size, 0, none⟩) 1 1 rfl _ _ (ho.keep (kar _)) (bv [UInt8.ofNat x]) rfl ((HR.out _).keep ((Kp.refl _ _).drew)) (bv_one _) (by omega) (by unfold maxLen; omega) ?_; intro bo' c' w3 ho3 k3; have hh3 := k3.heap (hha _) (fun h => h.2 rfl); obtain ⟨hc3, hf3⟩ := cell_one hh3)
      all_goals (
        rw [bv_append] at ho3
        have P := Wr.put hp' (hha _) ho3 k3
        have hsA := (kar (.cells #[.int .u8 (IntKind.u8.wrap (x : Int))] 5)).size
        have hwr := kr.size
        have Wf := Wr.chain P.1 (by omega)
        have Kf := kr.ex ((kar _).none.trans P.2)
        rw [List.append_assoc _ _ [UInt8.ofNat x], ← HB.out] at Wf
        clear ho3 k3 hh3 hha hka hka1 hc0 hf0 ho hh P HR kar
        go_simp
        rename_i hkk
        refine hkk _ _ ?_
        clear hkk
        go_wp2_with fail
        exact ⟨⟨k + 1, _, by have := HJ.out; omega, rfl, by have := HJ.out; omega, by simpa using Wf, Kf⟩, by simp [intOf]⟩)
    · have hks : k = s := by omega
      subst hks
      have hx : l ++ [UInt8.ofNat k] ++ (beN k u).take k = l ++ numL u := by
        rw [HSL.out, List.take_of_length_le (by rw [length_beN]; omega), List.append_assoc]; rfl
      rw [hx] at hwr
      clear W2 K2
      go_wp2_with fail
      go_ret
      exact ⟨rfl, hwr, kr⟩

end Go.Proofs.YtgbgbokcohfnpaaGreat

/-
  THE WALKS of the writer's texts.
-/
namespace Go.Proofs.YtgbgbokcohfnpaaGreat
open Go.RowKit

set_option maxHeartbeats 400000 in
set_option maxRecDepth 100000 in
theorem writerText_any (F : Nat → Prop) (p : Nat) (l : List UInt8) (bo : Option Addr) (m c : Nat) (b : List UInt8) (w : World) (hw : Wr F w p l) (hb : BS w bo m c b) (hoff : Off F bo) (hl : l.length + m ≤ 140737488355000) :
    Calls Tryz.prog 169 #[.pointer (some ⟨p, 0, none⟩), .slice bo m c] w (WrPost F w p (l ++ numL m ++ b)) := by
  obtain ⟨i0, hi, hz0, hz1, hz2⟩ := info_parts info_u8
  go_enter Tryz.func169, Tryz.ntmps169
  go_wp2_with fail
  refine (writerNum_any F p l m _ hw (by unfold W64; omega) (by omega)).mono ?_
  rintro e w1 ⟨rfl, hw1, k1⟩
  have hb1 := hb.kp k1 hoff
  obtain ⟨hp', ao, n, cap, hh, ho⟩ := hw1
  obtain ⟨hc0, hf0⟩ := cell_one hh
  have hnb : n + m ≤ 140737488355016 := by
    have := ho.1
    rw [length_bv, List.length_append, length_numL] at this
    have := sizeN_le m
    omega
  go_wp2_with (at_builtin; refine wpList_append_gen _ rfl (.tmp 16) (.tmp 17) 44 rfl 5 i0 (.int .u8 0) 1 1 Tryz.underlying44 hi hz0 hz1 hz2 rfl ao n cap rfl bo m c rfl _ _ ho (bv b) (by rw [length_bv, hb.len, Nat.mul_one]) hb1.row (bv_one _) (by omega) (by unfold maxLen; omega) ?_)
  intro ao1 cap1 w2 ho2 k2
  have hh2 := k2.heap hh (fun h => h.2 rfl)
  obtain ⟨hc2, hf2⟩ := cell_one hh2
  rw [bv_append] at ho2
  have P := Wr.put hp' hh ho2 k2
  have hs1 := k1.size
  have Wf := Wr.chain P.1 hs1
  have Kf := k1.ex P.2
  clear ho2 k2 hh2 hc0 hf0 ho hh P
  go_wp2_with fail
  go_ret
  exact ⟨rfl, Wf, Kf⟩

set_option maxHeartbeats 400000 in
set_option maxRecDepth 100000 in
/-- All that was written, in new memory. -/
theorem writerBytes_any (F : Nat → Prop) (p : Nat) (l : List UInt8) (w : World) (hw : Wr F w p l) (hl : l.length ≤ 140737488355328) :
    Calls Tryz.prog 137 #[.pointer (some ⟨p, 0, none⟩)] w fun e w' => ∃ ao cap, e = .returned (.slice ao l.length cap) ∧ Own (Ex Noone w w') w' 5 1 ao l.length cap (bv l) ∧ Kp Noone w w' := by
  obtain ⟨i0, hi, hz0, hz1, hz2⟩ := info_parts info_u8
  obtain ⟨hp', ao, n, cap, hh, ho⟩ := hw
  obtain ⟨hc0, hf0⟩ := cell_one hh
  have hn : l.length = n := by have := ho.1; rw [length_bv] at this; omega
  rw [hn] at hl ⊢
  go_enter Tryz.func137, Tryz.ntmps137
  go_wp2_with (at_builtin; refine wpList_append_gen _ rfl (.const (.slice none 0 0)) (.tmp 8) 44 rfl 5 i0 (.int .u8 0) 1 1 Tryz.underlying44 hi hz0 hz1 hz2 rfl none 0 0 rfl ao n cap rfl Noone [] (Own.nil _ _ _ _ _) (bv l) (by rw [length_bv, hn, Nat.mul_one]) ho.row (bv_one _) (by omega) (by unfold maxLen; omega) ?_)
  intro ao1 cap1 w2 ho2 k2
  go_wp2_with fail
  go_ret

  exact ⟨ao1, cap1, rfl, ho2, k2⟩

end Go.Proofs.YtgbgbokcohfnpaaGreat

/-
  THE WALKS of pack's signs, and of the writer's other calls.
-/
namespace Go.Proofs.YtgbgbokcohfnpaaGreat
open Go.RowKit

def foldN (i : Int) : Nat := if 0 ≤ i then (2 * i).toNat else (-2 * i - 1).toNat
def unfoldN (u : Nat) : Int := if u % 2 = 0 then ((u / 2 : Nat) : Int) else -((u / 2 : Nat) : Int) - 1

theorem u64_xor_max (a : Nat) (ha : a < 18446744073709551616) : bits .xor .u64 (a : Int) 18446744073709551615 = ((18446744073709551615 - a : Nat) : Int) := by
  show IntKind.u64.wrap ((BitVec.ofInt 64 (a : Int) ^^^ BitVec.ofInt 64 18446744073709551615).toNat : Int) = _
  have h1 : BitVec.ofInt 64 18446744073709551615 = BitVec.allOnes 64 := by decide
  rw [h1, BitVec.xor_allOnes, BitVec.toNat_not, ofInt_u64 a (by omega), IntKind.wrap_u64]
  omega
theorem u64_xor_zero (a : Nat) (ha : a < 18446744073709551616) : bits .xor .u64 (a : Int) 0 = (a : Int) := by
  have := u64_xor_nat a 0 ha (by omega)
  simpa using this
theorem i64_xor_zero (a : Nat) (ha : a < 9223372036854775808) : bits .xor .i64 (a : Int) 0 = (a : Int) := by
  show IntKind.i64.wrap ((BitVec.ofInt 64 (a : Int) ^^^ BitVec.ofInt 64 0).toNat : Int) = _
  have h1 : BitVec.ofInt 64 0 = 0#64 := by decide
  rw [h1, BitVec.xor_zero, ofInt_u64 a (by omega), IntKind.wrap_i64]
  omega
theorem i64_xor_neg (a : Nat) (ha : a < 9223372036854775808) : bits .xor .i64 (a : Int) (-1) = -1 - (a : Int) := by
  show IntKind.i64.wrap ((BitVec.ofInt 64 (a : Int) ^^^ BitVec.ofInt 64 (-1)).toNat : Int) = _
  have h1 : BitVec.ofInt 64 (-1) = BitVec.allOnes 64 := by decide
  rw [h1, BitVec.xor_allOnes, BitVec.toNat_not, ofInt_u64 a (by omega), IntKind.wrap_i64]
  omega

theorem foldN_lt (i : Int) (h0 : -9223372036854775808 ≤ i) (h1 : i ≤ 9223372036854775807) : W64 (foldN i) := by
  unfold foldN W64
  split <;> omega
theorem unfold_fold (i : Int) : unfoldN (foldN i) = i := by
  unfold foldN unfoldN
  split <;> split <;> omega

set_option maxHeartbeats 400000 in
theorem fold_any (i : Int) (h0 : -9223372036854775808 ≤ i) (h1 : i ≤ 9223372036854775807) (w : World) :
    Calls Tryz.prog 212 #[.int .i64 i] w fun e w' => e = .returned (.int .u64 (foldN i : Int)) ∧ w = w' := by
  go_enter Tryz.func212, Tryz.ntmps212
  by_cases h : 0 ≤ i
  · obtain ⟨n, rfl⟩ := Int.eq_ofNat_of_zero_le h
    go_wp2_with fail
    go_ret
    refine ⟨ret_eq (int_eq ?_), rfl⟩
    have e1 : (n : Int) * 2 = ((2 * n : Nat) : Int) := by omega
    have e2 : (n : Int) / 9223372036854775808 = 0 := by omega
    rw [e1, e2, u64_xor_zero _ (by omega)]
    unfold foldN
    rw [if_pos (by omega)]
    omega
  · go_wp2_with fail
    go_ret
    refine ⟨ret_eq (int_eq ?_), rfl⟩
    have e1 : IntKind.u64.wrap (IntKind.u64.wrap i * 2) = ((2 * i + 18446744073709551616).toNat : Int) := by
      rw [IntKind.wrap_u64, IntKind.wrap_u64]
      omega
    have e2 : IntKind.u64.wrap (i / 9223372036854775808) = 18446744073709551615 := by
      rw [IntKind.wrap_u64]
      omega
    rw [e1, e2, u64_xor_max _ (by omega)]
    unfold foldN
    rw [if_neg (by omega)]
    omega

theorem u64_and_one (u : Nat) (hu : u < 18446744073709551616) : bits .and .u64 (u : Int) 1 = ((u % 2 : Nat) : Int) := by
  have := u64_and_nat u 1 hu (by omega)
  rw [Nat.and_one_is_mod] at this
  simpa using this

set_option maxHeartbeats 400000 in
theorem unfold_any (u : Nat) (hu : W64 u) (w : World) :
    Calls Tryz.prog 205 #[.int .u64 (u : Int)] w fun e w' => e = .returned (.int .i64 (unfoldN u)) ∧ w = w' := by
  have hu' := hu
  unfold W64 at hu'
  clear hu
  go_enter Tryz.func205, Tryz.ntmps205
  go_wp2_with fail
  go_ret
  refine ⟨ret_eq (int_eq ?_), rfl⟩
  rw [u64_and_one _ hu']
  unfold unfoldN
  have e0 : (u : Int) / 2 = ((u / 2 : Nat) : Int) := by omega
  rw [e0]
  rcases Nat.mod_two_eq_zero_or_one u with h | h
  · rw [h, if_pos rfl]
    have e1 : wrap64 (-wrap64 ((0 : Nat) : Int)) = 0 := by unfold wrap64; omega
    rw [e1, i64_xor_zero _ (by omega)]
  · rw [h, if_neg (by omega)]
    have e1 : wrap64 (-wrap64 ((1 : Nat) : Int)) = -1 := by unfold wrap64; omega
    rw [e1, i64_xor_neg _ (by omega)]
    omega

set_option maxHeartbeats 400000 in
theorem writerInt_any (F : Nat → Prop) (p : Nat) (l : List UInt8) (i : Int) (w : World) (hw : Wr F w p l) (h0 : -9223372036854775808 ≤ i) (h1 : i ≤ 9223372036854775807) (hl : l.length ≤ 140737488355000) :
    Calls Tryz.prog 201 #[.pointer (some ⟨p, 0, none⟩), .int .i64 i] w (WrPost F w p (l ++ numL (foldN i))) := by
  go_enter Tryz.func201, Tryz.ntmps201
  go_wp2_with fail
  refine (fold_any i h0 h1 _).mono ?_
  rintro e w1 ⟨rfl, rfl⟩
  have hf := foldN_lt i h0 h1
  have HF := Lib.hid (rfl : foldN i = foldN i)
  generalize foldN i = u at *
  clear h0 h1
  go_wp2_with fail
  refine (writerNum_any F p l u _ hw hf hl).mono ?_
  rintro e w2 ⟨rfl, hw2, k2⟩
  go_wp2_with fail
  go_ret
  exact ⟨rfl, hw2, k2⟩

end Go.Proofs.YtgbgbokcohfnpaaGreat

/-
  THE WALKS of the document's own writer.
-/
namespace Go.Proofs.YtgbgbokcohfnpaaGreat
open Go.RowKit

end Go.Proofs.YtgbgbokcohfnpaaGreat

/-
  THE WALKS of the document's own writer.
-/
namespace Go.Proofs.YtgbgbokcohfnpaaGreat
open Go.RowKit

end Go.Proofs.YtgbgbokcohfnpaaGreat

/-
  THE WALKS of pack's Reader, and the document's own.
-/
namespace Go.Proofs.YtgbgbokcohfnpaaGreat
open Go.RowKit

/-- A number as it is read: what is left, the error, and the number. -/
def rnum (left : List UInt8) (bad : Nat) : (List UInt8 × Nat) × Nat :=
  if bad ≠ 0 then ((left, bad), 0) else
  match left with
  | [] => (([], 10), 0)
  | c :: r => if 8 < c.toNat then ((c :: r, 11), 0) else if r.length < c.toNat then ((c :: r, 10), 0)
    else if 0 < c.toNat ∧ r[0]? = some 0 then ((c :: r, 11), 0) else ((r.drop c.toNat, 0), ofBE (r.take c.toNat))

/-- Where a reader's memory lies: its own block, and its bytes' block. -/
def Roff (G : Nat → Prop) (p : Nat) (ao : Option Addr) (l : List UInt8) : Prop := G p ∧ (l ≠ [] → ∀ a, ao = some a → a.block ≠ p ∧ G a.block)

/-- A reader at block p: what it has left, and its error; its blocks are of G. -/
def Rd (G : Nat → Prop) (w : World) (p : Nat) (left : List UInt8) (bad : Nat) : Prop :=
  ∃ (ao : Option Addr) (n cap : Nat) (l : List UInt8) (k : Nat), w.heap[p]? = some (.cells #[.slice ao n cap, .int .i64 (k : Int), .int .i64 (bad : Int)] 252 (0, 0)) ∧ BS w ao n cap l ∧ Roff G p ao l ∧ k ≤ n ∧ left = l.drop k ∧ bad ≤ 13

theorem Rd.keep {G : Nat → Prop} {w w' : World} {p : Nat} {left : List UInt8} {bad : Nat} (h : Rd G w p left bad) (k : Kp Noone w w') : Rd G w' p left bad := by
  obtain ⟨ao, n, cap, l, i, h1, h2, h3⟩ := h
  exact ⟨ao, n, cap, l, i, k.heap h1 id, h2.keep k, h3⟩

theorem Rd.kp {G S : Nat → Prop} {w w' : World} {p : Nat} {left : List UInt8} {bad : Nat} (h : Rd G w p left bad) (k : Kp S w w') (hd : ∀ j, G j → ¬ S j) : Rd G w' p left bad := by
  obtain ⟨ao, n, cap, l, i, h1, h2, h3, h4⟩ := h
  refine ⟨ao, n, cap, l, i, k.heap h1 (hd _ h3.1), ?_, h3, h4⟩
  by_cases hl : l = []
  · subst hl
    exact ⟨h2.len, h2.le, h2.max, Row.nil _ _⟩
  · exact h2.kp k (fun a ha => hd _ (h3.2 hl a ha).2)

/-- What a reader's call answers. -/
def RdPost (G : Nat → Prop) (w : World) (p : Nat) (v : Value) (left : List UInt8) (bad : Nat) (e : Ending) (w' : World) : Prop :=
  e = .returned v ∧ Rd G w' p left bad ∧ Kp (fun j => j = p) w w'

set_option maxHeartbeats 400000 in
set_option maxRecDepth 100000 in
theorem readerErr_any {G : Nat → Prop} (p : Nat) (left : List UInt8) (bad : Nat) (w : World) (h : Rd G w p left bad) :
    Calls Tryz.prog 152 #[.pointer (some ⟨p, 0, none⟩)] w fun e w' => e = .returned (.int .i64 (bad : Int)) ∧ w = w' := by
  obtain ⟨ao, n, cap, l, k, hh, -⟩ := h
  obtain ⟨h0, h1, h2, -⟩ := cells_three hh
  go_enter Tryz.func152, Tryz.ntmps152
  go_wp2_with fail
  go_ret
  exact ⟨rfl, rfl⟩

set_option maxHeartbeats 1000000 in
set_option maxRecDepth 100000 in
theorem newReader_any (ao : Option Addr) (n cap : Nat) (l : List UInt8) (w : World) (hb : BS w ao n cap l) (hn : n ≤ 140737488355328) :
    Calls Tryz.prog 116 #[.slice ao n cap] w fun e w' => ∃ p, e = .returned (.pointer (some ⟨p, 0, none⟩)) ∧ Rd (Ex Noone w w') w' p l 0 ∧ Kp Noone w w' ∧ w.heap.size ≤ p := by
  obtain ⟨i0, hi, hz0, hz1, hz2⟩ := info_parts info_u8
  go_enter Tryz.func116, Tryz.ntmps116
  go_wp2_with (at_builtin; refine wpList_append_gen _ rfl (.const (.slice none 0 0)) (.tmp 3) 44 rfl 5 i0 (.int .u8 0) 1 1 Tryz.underlying44 hi hz0 hz1 hz2 rfl none 0 0 rfl ao n cap rfl Noone [] (Own.nil _ _ _ _ _) (bv l) (by rw [length_bv, hb.len, Nat.mul_one]) hb.row (bv_one _) (by omega) (by unfold maxLen; omega) ?_)
  intro ao1 cap1 w1 ho1 k1
  have hb1 : BS w1 ao1 n cap1 l := by
    have := ho1.bs (l := l)
    simpa using this
  have hs := k1.size
  have hoff : l ≠ [] → ∀ a, ao1 = some a → a.block ≠ w1.heap.size ∧ w.heap.size ≤ a.block ∧ a.block < w1.heap.size := by
    rintro hl a rfl
    rcases ho1.2.2.2 with h | ⟨g, off, cs, ha, hg, hh, -⟩
    · have h1 := hb1.len
      have h2 := hb1.le
      exact (hl (List.eq_nil_of_length_eq_zero (by omega))).elim
    · have := (Array.getElem?_eq_some_iff.1 hh).1
      have hg' := Ex.none hg
      cases ha
      simp
      omega
  clear ho1
  go_wp2_with fail
  go_ret
  exact ⟨_, rfl, ⟨ao1, n, cap1, l, 0, heap_alloc_new _ _, hb1.keep ((Kp.refl _ _).alloc _), ⟨Or.inr ⟨hs, by simp⟩, fun hl a ha => ⟨(hoff hl a ha).1, Or.inr ⟨(hoff hl a ha).2.1, by have := (hoff hl a ha).2.2; simp; omega⟩⟩⟩, Nat.zero_le _, rfl, by omega⟩, k1.alloc _, hs⟩

/-- The bytes stay, whatever is written into the reader's own block. -/
theorem bs_off {G : Nat → Prop} {w w' : World} {p : Nat} {ao : Option Addr} {n cap : Nat} {l : List UInt8} (h : BS w ao n cap l) (hoff : Roff G p ao l) (k : Kp (fun j => j = p) w w') : BS w' ao n cap l := by
  by_cases hl : l = []
  · subst hl
    exact ⟨h.len, h.le, h.max, Row.nil _ _⟩
  · exact h.kp k (fun a ha => (hoff.2 hl a ha).1)

theorem heap_set_bad {w : World} {p e : Nat} {a b c u : Value} (h : w.heap[p]? = some (.cells #[a, b, c] e (0, 0))) : (w.setCell ⟨p, 2, none⟩ u).heap[p]? = some (.cells #[a, b, u] e (0, 0)) := by
  simp [World.setCell, Array.getElem?_modify, h]
theorem heap_set_at {w : World} {p e : Nat} {a b c u : Value} (h : w.heap[p]? = some (.cells #[a, b, c] e (0, 0))) : (w.setCell ⟨p, 1, none⟩ u).heap[p]? = some (.cells #[a, u, c] e (0, 0)) := by
  simp [World.setCell, Array.getElem?_modify, h]

/-- The reader behind a read that failed. -/
theorem Rd.fail {G : Nat → Prop} {w w1 : World} {p : Nat} {ao : Option Addr} {n cap : Nat} {l : List UInt8} {k : Nat} {c : Value} (hh : w.heap[p]? = some (.cells #[.slice ao n cap, .int .i64 (k : Int), c] 252 (0, 0))) (hb : BS w ao n cap l) (hoff : Roff G p ao l) (hk : k ≤ n)
    (kw : Kp Noone w w1) (bad : Nat) (hbad : bad ≤ 13) : Rd G (w1.setCell ⟨p, 2, none⟩ (.int .i64 (bad : Int))) p (l.drop k) bad ∧ Kp (fun j => j = p) w (w1.setCell ⟨p, 2, none⟩ (.int .i64 (bad : Int))) := by
  have k2 : Kp (fun j => j = p) w (w1.setCell ⟨p, 2, none⟩ (.int .i64 (bad : Int))) := Kp.setCell (S := fun j => j = p) (p := ⟨p, 2, none⟩) kw.none (fun _ => rfl) _
  exact ⟨⟨ao, n, cap, l, k, heap_set_bad (kw.heap hh id), bs_off hb hoff k2, hoff, hk, rfl, hbad⟩, k2⟩
/-- The reader behind a read. -/
theorem Rd.go {G : Nat → Prop} {w w1 : World} {p : Nat} {ao : Option Addr} {n cap : Nat} {l : List UInt8} {k : Nat} {c : Value} (hh : w.heap[p]? = some (.cells #[.slice ao n cap, c, .int .i64 0] 252 (0, 0))) (hb : BS w ao n cap l) (hoff : Roff G p ao l) (hk : k ≤ n)
    (kw : Kp Noone w w1) : Rd G (w1.setCell ⟨p, 1, none⟩ (.int .i64 (k : Int))) p (l.drop k) 0 ∧ Kp (fun j => j = p) w (w1.setCell ⟨p, 1, none⟩ (.int .i64 (k : Int))) := by
  have k2 : Kp (fun j => j = p) w (w1.setCell ⟨p, 1, none⟩ (.int .i64 (k : Int))) := Kp.setCell (S := fun j => j = p) (p := ⟨p, 1, none⟩) kw.none (fun _ => rfl) _
  exact ⟨⟨ao, n, cap, l, k, heap_set_at (kw.heap hh id), bs_off hb hoff k2, hoff, hk, rfl, by omega⟩, k2⟩

/-- A scope that is left by one goto, forward. -/
theorem wp_scope_fwd {P : Program} {a : Act} {w : World} {Q : Exit → Act → World → Prop} {c rest : Code} (l : Nat) (hf : findLabel c l = some rest)
    (h : c.wp P (Exit.jump l (fun a w => rest.wp P (Exit.noGoto Q) a w) Q) a w) : (Code.scope c).wp P Q a w :=
  wp_scope_jumps l _ (fun _ _ => 0) hf h (fun _ _ hJ => wp_mono hJ (fun e a w hq => by
    cases e with
    | goto l => exact hq.elim
    | normal => exact hq
    | exit id => exact hq
    | ret => exact hq
    | panic ch => exact hq
    | outgrown => exact hq))

theorem shl_or (y c : Nat) (hy : y < 72057594037927936) (hc : c < 256) : bits .or .u64 ((y : Int) * 256) (c : Int) = ((256 * y + c : Nat) : Int) := by
  have e1 : (y : Int) * 256 = ((256 * y : Nat) : Int) := by omega
  have e3 : 256 * y + c = 256 * y ||| c := Nat.two_pow_add_eq_or_of_lt (i := 8) hc y
  rw [e1, u64_or_nat _ _ (by omega) (by omega), e3]

theorem pow256_le {j : Nat} (hj : j < 8) : 256 ^ j ≤ 72057594037927936 := by
  have h : 256 ^ j ≤ 256 ^ 7 := Nat.pow_le_pow_right (by omega) (by omega)
  have : (256 : Nat) ^ 7 = 72057594037927936 := by decide
  omega
theorem pow256_le8 {j : Nat} (hj : j ≤ 8) : 256 ^ j ≤ 18446744073709551616 := by
  have h : 256 ^ j ≤ 256 ^ 8 := Nat.pow_le_pow_right (by omega) (by omega)
  have : (256 : Nat) ^ 8 = 18446744073709551616 := by decide
  omega

theorem sizeN_read (r : List UInt8) (m : Nat) (hm : m ≤ 8) (hl : m ≤ r.length) : (sizeN (ofBE (r.take m)) = m) = ¬ (0 < m ∧ r[0]? = some 0) := by
  have hlen : (r.take m).length = m := by rw [List.length_take]; omega
  have h := sizeN_ofBE (r.take m) (by omega)
  rw [hlen] at h
  rw [propext h]
  apply propext
  cases m with
  | zero => simp
  | succ m =>
    cases r with
    | nil => simp at hl
    | cons a r => simp

set_option maxHeartbeats 1000000 in
set_option maxRecDepth 100000 in
theorem readerNum_any {G : Nat → Prop} (p : Nat) (left : List UInt8) (bad : Nat) (w : World) (h : Rd G w p left bad) :
    Calls Tryz.prog 159 #[.pointer (some ⟨p, 0, none⟩)] w (RdPost G w p (.int .u64 ((rnum left bad).2 : Int)) (rnum left bad).1.1 (rnum left bad).1.2) := by
  have hR := h
  obtain ⟨ao, n, cap, l, k, hh, hb, hoff, hk, rfl, hbad⟩ := h
  obtain ⟨h0, h1, h2, f0, f1, f2⟩ := cells_three hh
  go_enter Tryz.func159, Tryz.ntmps159
  go_wp2_with fail
  by_cases c0 : bad = 0
  case neg =>
    have hr : rnum (l.drop k) bad = ((l.drop k, bad), 0) := by unfold rnum; rw [if_pos c0]
    rw [hr]
    refine wp_scope_straight ?_
    go_wp2_with fail
    go_ret
    exact ⟨rfl, hR, Kp.refl _ _⟩
  subst c0
  rw [Int.natCast_zero] at h2 hh
  have hmx := hb.max
  have hle := hb.le
  have hlen := hb.len
  unfold maxLen at hmx
  by_cases c1 : k < n
  case neg =>
    have this : l.drop k = [] := List.drop_eq_nil_of_le (by omega)
    have hr : rnum (l.drop k) 0 = (([], 10), 0) := by
      rw [this]; rfl
    rw [hr]
    refine wp_scope_fwd 0 rfl ?_
    go_wp2_with fail
    go_quiet (fail)
    go_wp2_with fail
    go_step3
    refine ⟨rfl, ?_⟩
    go_wp2_with fail
    go_ret
    obtain ⟨r1, r2⟩ := Rd.fail hh hb hoff hk ((Kp.refl Noone w).drewN nq) 10 (by omega)
    rw [this] at r1
    exact ⟨rfl, r1, r2⟩
  obtain ⟨b, off, hl, rfl, hbW, hck⟩ := hb.at c1
  have hds : l.drop k = l[k] :: l.drop (k + 1) := (List.getElem_cons_drop hl).symm
  rw [hds]
  have HD := Lib.hid hds
  clear hds
  generalize l[k] = c at *
  obtain ⟨m, hm, hmc, hcm⟩ : ∃ m : Nat, m ≤ 255 ∧ Hid (m = c.toNat) ∧ w.cell? ⟨b, off + k, none⟩ = some (.int .u8 (m : Int)) := ⟨c.toNat, by have := c.toNat_lt; omega, Lib.hid rfl, hck⟩
  clear hR hck
  by_cases c2 : 8 < m
  · have hr : rnum (c :: l.drop (k + 1)) 0 = ((c :: l.drop (k + 1), 11), 0) := by
      unfold rnum; rw [if_neg (by simp)]; simp only []; rw [if_pos (by rw [← hmc.out]; exact c2)]
    rw [hr]
    refine wp_scope_fwd 1 rfl ?_
    go_wp2_with fail
    go_quiet (fail)
    go_wp2_with fail
    go_quiet (fail)
    go_wp2_with fail
    go_step3
    refine ⟨rfl, ?_⟩
    go_wp2_with fail
    go_ret
    have R := fun q => Rd.fail hh hb hoff hk ((Kp.refl Noone w).drewN q) 11 (by omega)
    simp only [HD.out] at R
    exact ⟨rfl, (R _).1, (R _).2⟩
  have hdl : (l.drop (k + 1)).length = n - (k + 1) := by rw [List.length_drop, hlen]
  by_cases c3 : n - (k + 1) < m
  · have hr : rnum (c :: l.drop (k + 1)) 0 = ((c :: l.drop (k + 1), 10), 0) := by
      unfold rnum; rw [if_neg (by simp)]; simp only []; rw [if_neg (by rw [← hmc.out]; exact c2), if_pos (by rw [← hmc.out, hdl]; exact c3)]
    rw [hr]
    refine wp_scope_fwd 0 rfl ?_
    go_wp2_with fail
    go_quiet (fail)
    go_wp2_with fail
    go_quiet (fail)
    go_wp2_with fail
    go_quiet (fail)
    go_wp2_with fail
    go_step3
    refine ⟨rfl, ?_⟩
    go_wp2_with fail
    go_ret
    have R := fun q => Rd.fail hh hb hoff hk ((Kp.refl Noone w).drewN q) 10 (by omega)
    simp only [HD.out] at R
    exact ⟨rfl, (R _).1, (R _).2⟩
  have HLm : Hid (∀ j, (h : j < m) → ∃ h2 : k + 1 + j < l.length, w.cell? ⟨b, off + (k + 1) + j, none⟩ = some (.int .u8 ((l[k + 1 + j].toNat : Nat) : Int))) := Lib.hid (fun j hj => by
    obtain ⟨b', off', h2, he, -, hc⟩ := hb.at (k := k + 1 + j) (by omega)
    cases he
    exact ⟨h2, by rw [Nat.add_assoc]; exact hc⟩)
  have HS := Lib.hid (sizeN_read (l.drop (k + 1)) m (by omega) (by omega))
  have hcap : cap = k + 1 ∨ cap ≠ k + 1 := by omega
  refine wp_scope_fwd 1 rfl ?_
  rcases hcap with hcap | hcap
  · obtain rfl : m = 0 := by omega
    have hr : rnum (c :: l.drop (k + 1)) 0 = ((l.drop (k + 1), 0), 0) := by
      unfold rnum; rw [if_neg (by simp)]; simp only []; rw [← hmc.out, if_neg (by omega), if_neg (by omega), if_neg (by omega)]; rfl
    go_wp2_with fail
    go_quiet (fail)
    go_wp2_with fail
    go_quiet (fail)
    go_wp2_with fail
    go_quiet (fail)
    go_wp2_with fail
    go_quiet (fail)
    go_wp2_with fail
    go_loopw [70, 3] (fun i x wr => i = .int .i64 0 ∧ x = .int .u64 0 ∧ ∃ q, wr = w.drewN q) (fun _ _ _ => 0)
    case atStart => exact ⟨rfl, rfl, _, by simp only [World.drewN_drewN]; rfl⟩
    case round =>
      obtain ⟨rfl, rfl, q, rfl⟩ := hrel
      go_wp2_with fail
      refine (size_any 0 _ (by unfold W64; omega)).mono ?_
      rintro e w1 ⟨rfl, rfl⟩
      have hz : sizeN 0 = 0 := rfl
      rw [hz]
      go_wp2_with fail
      go_ret
      rw [hr]
      have R := fun q => Rd.go hh hb hoff (k := k + 1) (by omega) ((Kp.refl Noone w).drewN q)
      exact ⟨rfl, (R _).1, (R _).2⟩
  · go_wp2_with fail
    go_quiet (fail)
    go_wp2_with fail
    go_quiet (fail)
    go_wp2_with fail
    go_quiet (fail)
    go_wp2_with fail
    go_quiet (fail)
    go_wp2_with fail
    go_loopw [70, 3] (fun i x wr => ∃ j y : Nat, j ≤ m ∧ i = .int .i64 (j : Int) ∧ x = .int .u64 (y : Int) ∧ Hid (y = ofBE ((l.drop (k + 1)).take j)) ∧ y < 256 ^ j ∧ ∃ q, wr = w.drewN q) (fun i _ _ => m - (intOf i).toNat)
    case atStart => exact ⟨0, 0, Nat.zero_le _, rfl, rfl, Lib.hid rfl, by simp, _, by simp only [World.drewN_drewN]; rfl⟩
    case round =>
      obtain ⟨j, y, hj, rfl, rfl, hy, hyb, q, rfl⟩ := hrel
      by_cases hjm : j < m
      · obtain ⟨hl2, hcj⟩ := HLm.out j hjm
        have hHC : Hid (l[k + 1 + j].toNat = l[k + 1 + j].toNat) := Lib.hid rfl
        have hc256 := l[k + 1 + j].toNat_lt
        have hsn : ofBE ((l.drop (k + 1)).take (j + 1)) = 256 * ofBE ((l.drop (k + 1)).take j) + l[k + 1 + j].toNat := by
          rw [take_snoc _ j (by rw [List.length_drop]; omega), ofBE_snoc, List.getElem_drop]
        have HN := Lib.hid hsn
        clear hsn hHC
        generalize l[k + 1 + j].toNat = x at hcj HN hc256
        have hp := pow256_le (j := j) (by omega)
        go_wp2_with fail
        refine ⟨⟨j + 1, 256 * y + x, by omega, by go_num, by rw [shl_or y x (by omega) (by omega)], Lib.hid (by rw [HN.out, hy.out]), ?_, q, rfl⟩, by simp [intOf]; omega⟩
        rw [Nat.pow_succ]
        omega
      · obtain rfl : j = m := by omega
        have hp := pow256_le8 (j := j) (by omega)
        have hy64 : W64 y := by unfold W64; omega
        have hss := HS.out
        rw [← hy.out] at hss
        have HSS := Lib.hid hss
        clear hss
        go_wp2_with fail
        refine (size_any y _ hy64).mono ?_
        rintro e w1 ⟨rfl, rfl⟩
        by_cases c4 : 0 < j ∧ (l.drop (k + 1))[0]? = some 0
        · have hr : rnum (c :: l.drop (k + 1)) 0 = ((c :: l.drop (k + 1), 11), 0) := by
            unfold rnum; rw [if_neg (by simp)]; simp only []; rw [← hmc.out, if_neg (by omega), if_neg (by omega), if_pos c4]
          have hne : sizeN y ≠ j := fun c => (HSS.out ▸ c) c4
          have d : ((sizeN y : Int) + 1 != (j : Int) + 1) = true := by simp; omega
          clear c4
          go_wp2_with fail
          go_step3
          refine ⟨rfl, ?_⟩
          go_wp2_with fail
          go_ret
          have R := fun q => Rd.fail hh hb hoff hk ((Kp.refl Noone w).drewN q) 11 (by omega)
          simp only [HD.out] at R
          exact ⟨rfl, (R _).1, (R _).2⟩
        · have hr : rnum (c :: l.drop (k + 1)) 0 = (((l.drop (k + 1)).drop j, 0), y) := by
            unfold rnum; rw [if_neg (by simp)]; simp only []; rw [← hmc.out, if_neg (by omega), if_neg (by omega), if_neg c4, ← hy.out]
          have hne : sizeN y = j := by rw [HSS.out]; exact c4
          have d : ((sizeN y : Int) + 1 != (j : Int) + 1) = false := by simp; omega
          have HNE := Lib.hid hne
          clear c4 hne
          go_wp2_with fail
          go_ret
          rw [hr]
          have R := fun q => Rd.go hh hb hoff (k := k + (j + 1)) (by omega) ((Kp.refl Noone w).drewN q)
          have e : l.drop (k + (j + 1)) = (l.drop (k + 1)).drop j := by rw [List.drop_drop]; congr 1; omega
          simp only [e] at R
          exact ⟨rfl, (R _).1, (R _).2⟩

end Go.Proofs.YtgbgbokcohfnpaaGreat

/-
  THE WALKS of pack's Reader's other calls.
-/
namespace Go.Proofs.YtgbgbokcohfnpaaGreat
open Go.RowKit

def rcount (left : List UInt8) (bad : Nat) (most : Int) : (List UInt8 × Nat) × Nat :=
  if (max 0 most).toNat < (rnum left bad).2 then (((rnum left bad).1.1, 12), 0) else rnum left bad
def rtext (left : List UInt8) (bad : Nat) (most : Int) : (List UInt8 × Nat) × List UInt8 :=
  if (rcount left bad most).1.2 ≠ 0 then ((rcount left bad most).1, [])
  else if (rcount left bad most).1.1.length < (rcount left bad most).2 then (((rcount left bad most).1.1, 10), [])
  else (((rcount left bad most).1.1.drop (rcount left bad most).2, 0), (rcount left bad most).1.1.take (rcount left bad most).2)
def rdone (left : List UInt8) (bad : Nat) : Nat := if bad = 0 ∧ left ≠ [] then 13 else bad

theorem rnum_lt (left : List UInt8) (bad : Nat) : W64 (rnum left bad).2 := by
  unfold rnum W64
  split
  · simp
  · split
    · simp
    · rename_i c r
      split
      · simp
      · split
        · simp
        · split
          · simp
          · have h1 := ofBE_lt (r.take c.toNat)
            have h2 := pow256_le8 (j := (r.take c.toNat).length) (by rw [List.length_take]; omega)
            simp only []
            omega
theorem rcount_le (left : List UInt8) (bad : Nat) (most : Int) (hm : most ≤ 9223372036854775807) : (rcount left bad most).2 ≤ 9223372036854775807 := by
  unfold rcount
  split
  · simp
  · omega

theorem rnum_len (left : List UInt8) (bad : Nat) : (rnum left bad).1.1.length ≤ left.length := by
  unfold rnum
  split
  · exact Nat.le_refl _
  · split
    · simp
    · split
      · exact Nat.le_refl _
      · split
        · exact Nat.le_refl _
        · split
          · exact Nat.le_refl _
          · simp only [List.length_drop, List.length_cons]
            omega
theorem rcount_len (left : List UInt8) (bad : Nat) (most : Int) : (rcount left bad most).1.1.length ≤ left.length := by
  unfold rcount
  split
  · exact rnum_len left bad
  · exact rnum_len left bad

/-- The reader's error is set. -/
theorem Rd.set {G : Nat → Prop} {w : World} {p : Nat} {left : List UInt8} {bad : Nat} (h : Rd G w p left bad) (b : Nat) (hb : b ≤ 13) : Rd G (w.setCell ⟨p, 2, none⟩ (.int .i64 (b : Int))) p left b ∧ Kp (fun j => j = p) w (w.setCell ⟨p, 2, none⟩ (.int .i64 (b : Int))) := by
  obtain ⟨ao, n, cap, l, k, hh, hbs, hoff, hk, rfl, -⟩ := h
  exact Rd.fail hh hbs hoff hk (Kp.refl _ _) b hb
theorem Rd.cells {G : Nat → Prop} {w : World} {p : Nat} {left : List UInt8} {bad : Nat} (h : Rd G w p left bad) : w.cell? ⟨p, 2, none⟩ = some (.int .i64 (bad : Int)) ∧ w.frozen? ⟨p, 2, none⟩ = false ∧ p < w.heap.size := by
  obtain ⟨ao, n, cap, l, k, hh, -⟩ := h
  obtain ⟨-, -, h2, -, -, f2⟩ := cells_three hh
  exact ⟨h2, f2, (Array.getElem?_eq_some_iff.1 hh).1⟩

set_option maxHeartbeats 400000 in
set_option maxRecDepth 100000 in
theorem readerCount_any {G : Nat → Prop} (p : Nat) (left : List UInt8) (bad : Nat) (most : Int) (w : World) (h : Rd G w p left bad) (hm0 : -9223372036854775808 ≤ most) (hm1 : most ≤ 9223372036854775807) :
    Calls Tryz.prog 117 #[.pointer (some ⟨p, 0, none⟩), .int .i64 most] w (RdPost G w p (.int .i64 ((rcount left bad most).2 : Int)) (rcount left bad most).1.1 (rcount left bad most).1.2) := by
  have hf := rnum_lt left bad
  have HC := Lib.hid (show rcount left bad most = if (max 0 most).toNat < (rnum left bad).2 then (((rnum left bad).1.1, 12), 0) else rnum left bad from rfl)
  go_enter Tryz.func117, Tryz.ntmps117
  go_wp2_with fail
  refine (readerNum_any p left bad _ h).mono ?_
  rintro e w1 ⟨rfl, h1, k1⟩
  obtain ⟨hc, hfz, -⟩ := h1.cells
  generalize hu : (rnum left bad).2 = u at *
  unfold W64 at hf
  have HU := Lib.hid hu
  clear hu
  rcases Int.lt_or_le most 0 with hs | hs
  · have hmx := Lib.hid (show (max 0 most).toNat = 0 by omega)
    by_cases c : 0 < u
    · have hr : Hid (rcount left bad most = (((rnum left bad).1.1, 12), 0)) := Lib.hid (by rw [HC.out, hmx.out, if_pos c])
      go_wp2_with fail
      go_ret
      rw [hr.out]
      exact ⟨rfl, (h1.set 12 (by omega)).1, k1.trans (h1.set 12 (by omega)).2⟩
    · have hr : Hid (rcount left bad most = rnum left bad) := Lib.hid (by rw [HC.out, hmx.out, if_neg c])
      obtain rfl : u = 0 := by omega
      go_wp2_with fail
      go_ret
      rw [hr.out, HU.out]
      exact ⟨rfl, h1, k1⟩
  · obtain ⟨t, rfl⟩ := Int.eq_ofNat_of_zero_le hs
    have hmx := Lib.hid (show (max 0 (t : Int)).toNat = t by omega)
    by_cases c : t < u
    · have hr : Hid (rcount left bad t = (((rnum left bad).1.1, 12), 0)) := Lib.hid (by rw [HC.out, hmx.out, if_pos c])
      go_wp2_with fail
      all_goals (
        go_ret
        rw [hr.out]
        exact ⟨rfl, (h1.set 12 (by omega)).1, k1.trans (h1.set 12 (by omega)).2⟩)
    · have hr : Hid (rcount left bad t = rnum left bad) := Lib.hid (by rw [HC.out, hmx.out, if_neg c])
      go_wp2_with fail
      all_goals (
        go_ret
        rw [hr.out, HU.out]
        exact ⟨rfl, h1, k1⟩)

/-- What a text is answered by: new bytes, and the reader behind it. -/
def TextPost (G : Nat → Prop) (w : World) (p : Nat) (t left : List UInt8) (bad : Nat) (e : Ending) (w' : World) : Prop :=
  ∃ ao cap, e = .returned (.slice ao t.length cap) ∧ Own (Ex Noone w w') w' 5 1 ao t.length cap (bv t) ∧ Rd G w' p left bad ∧ Kp (fun j => j = p) w w'

set_option maxHeartbeats 2000000 in
set_option maxRecDepth 100000 in
theorem readerText_any {G : Nat → Prop} (p : Nat) (left : List UInt8) (bad : Nat) (most : Int) (w : World) (h : Rd G w p left bad) (hm0 : -9223372036854775808 ≤ most) (hm1 : most ≤ 9223372036854775807) (hlb : left.length ≤ 140737488355328) :
    Calls Tryz.prog 151 #[.pointer (some ⟨p, 0, none⟩), .int .i64 most] w (TextPost G w p (rtext left bad most).2 (rtext left bad most).1.1 (rtext left bad most).1.2) := by
  obtain ⟨i0, hi, hz0, hz1, hz2⟩ := info_parts info_u8
  have hle := rcount_le left bad most hm1
  have HT := Lib.hid (show rtext left bad most = if (rcount left bad most).1.2 ≠ 0 then ((rcount left bad most).1, [])
    else if (rcount left bad most).1.1.length < (rcount left bad most).2 then (((rcount left bad most).1.1, 10), [])
    else (((rcount left bad most).1.1.drop (rcount left bad most).2, 0), (rcount left bad most).1.1.take (rcount left bad most).2) from rfl)
  go_enter Tryz.func151, Tryz.ntmps151
  go_wp2_with fail
  refine (readerCount_any p left bad most _ h hm0 hm1).mono ?_
  rintro e w1 ⟨rfl, h1, k1⟩
  have hR := h1
  generalize hq : rcount left bad most = R at *
  obtain ⟨⟨left', bad'⟩, q⟩ := R
  simp only [] at *
  have HQ := Lib.hid hq
  clear hq
  by_cases c0 : bad' = 0
  case neg =>
    have hr : Hid (rtext left bad most = ((left', bad'), [])) := Lib.hid (by rw [HT.out, if_pos c0])
    obtain ⟨hc, -, -⟩ := h1.cells
    go_wp2_with fail
    go_ret
    rw [hr.out]
    exact ⟨none, 0, rfl, Own.nil _ _ _ _ _, hR, k1⟩
  subst c0
  obtain ⟨ao, n, cap, l, k, hh, hb, hoff, hk, rfl, -⟩ := h1
  rw [Int.natCast_zero] at hh
  obtain ⟨h0, h1, h2, f0, f1, f2⟩ := cells_three hh
  have hmx := hb.max
  have hlc := hb.le
  have hlen := hb.len
  have hmx : cap ≤ 9223372036854775807 := by unfold maxLen at hmx; omega
  have hdl : (l.drop k).length = n - k := by rw [List.length_drop, hlen]
  by_cases c1 : n - k < q
  · have hr : Hid (rtext left bad most = ((l.drop k, 10), [])) := Lib.hid (by rw [HT.out, if_neg (by simp), if_pos (by rw [hdl]; exact c1)])
    go_wp2_with fail
    go_quiet (fail)
    go_wp2_with fail
    go_ret
    rw [hr.out]
    have R := fun q => Rd.fail hh hb hoff hk ((Kp.refl Noone w1).drewN q) 10 (by omega)
    exact ⟨none, 0, rfl, Own.nil _ _ _ _ _, (R _).1, k1.trans (R _).2⟩
  · have hr : Hid (rtext left bad most = (((l.drop k).drop q, 0), (l.drop k).take q)) := Lib.hid (by rw [HT.out, if_neg (by simp), if_neg (by rw [hdl]; exact c1)])
    have hrow : Row w1 (if cap = k then ao else ao.map (·.add k)) (bv ((l.drop k).take q)) := hb.row.sub k cap (by rw [length_bv, hlen]; exact hlc) _ (by unfold bv; rw [List.map_take, List.map_drop]; exact List.take_prefix _ _)
    have htl : ((l.drop k).take q).length = q := by rw [List.length_take, hdl]; omega
    have hks := k1.size
    have hkq : k + q ≤ n := by omega
    have hnb : q ≤ 140737488355328 := by
      have := rcount_len left bad most
      rw [HQ.out] at this
      simp only [hdl] at this
      omega
    have hwr : IntKind.i64.wrap ((k : Int) + (q : Int)) = (k : Int) + (q : Int) := IntWalk.i64_in _ (by omega)
    have hw0 : (0 : Int) ≤ (k : Int) + (q : Int) := by omega
    have hw1 : (k : Int) + (q : Int) ≤ (cap : Int) := by omega
    have hw2 : ((k : Int) + (q : Int)).toNat = k + q := by omega
    have hw3 : k + q - k = q := by omega
    have key : ∀ (w2 : World) (ao' : Option Addr) (cap' : Nat) (w3 : World), Kp Noone w1 w2 → Own (Ex Noone w2 w3) w3 5 1 ao' q cap' (bv ((l.drop k).take q)) → Kp Noone w2 w3 → TextPost G w p (rtext left bad most).2 (rtext left bad most).1.1 (rtext left bad most).1.2 (.returned (.slice ao' q cap')) (w3.setCell ⟨p, 1, none⟩ (.int .i64 ((k : Int) + (q : Int)))) := by
      intro w2 ao' cap' w3 k2 ho k3
      have hp := hR.cells.2.2
      rw [hr.out]
      simp only []
      have R := Rd.go hh hb hoff (k := k + q) hkq (k2.trans k3)
      rw [Int.natCast_add, ← List.drop_drop] at R
      have hs2 := k2.size
      refine ⟨ao', cap', by rw [htl], ?_, R.1, k1.trans R.2⟩
      rw [htl]
      have kk : Kp (fun j => j = p) w3 (w3.setCell ⟨p, 1, none⟩ (.int .i64 ((k : Int) + (q : Int)))) := Kp.setCell (S := fun j => j = p) (p := ⟨p, 1, none⟩) (Kp.refl _ _) (fun _ => rfl) _
      refine (ho.kp kk (fun j hj c => by have := Ex.none hj; subst c; omega)).mono (fun j hj h => ?_)
      have := Ex.none h
      exact Or.inr ⟨by omega, hj⟩
    clear HT hR
    have HTL := Lib.hid htl
    generalize (l.drop k).take q = t at *
    by_cases hcap : cap = k
    · rw [if_pos hcap] at hrow
      obtain rfl : q = 0 := by omega
      subst hcap
      have hwc : IntKind.i64.wrap (cap : Int) = (cap : Int) := IntWalk.i64_in _ (by omega)
      have hwd : (0 : Int) ≤ (cap : Int) := by omega
      go_wp2_with fail
      go_quiet (fail)
      go_wp2_with fail
      go_region_law (refine step_append_gen rfl (.const (.slice none 0 0)) (.tmp 48) 44 rfl 5 i0 (.int .u8 0) 1 1 Tryz.underlying44 hi hz0 hz1 hz2 rfl none 0 0 rfl ao 0 0 rfl Noone [] (Own.nil _ _ _ _ _) (bv t) (by rw [length_bv, HTL.out, Nat.mul_one]) (hrow.keep ((Kp.refl _ _).drewN _).drew) (bv_one _) (by omega) (by unfold maxLen; omega) ?_; intro bo' c' w3 ho3 k3; have hh3 := (((Kp.refl Noone _).drewN _).drew.trans k3).heap hh id; obtain ⟨h03, h13, h23, f03, f13, f23⟩ := cells_three hh3)
      all_goals (
        have K := key _ bo' c' w3 (((Kp.refl Noone _).drewN _).drew) (by simpa using ho3) k3
        clear ho3 key hh3
        go_simp
        rename_i hkk
        refine hkk _ _ ?_
        clear hkk
        go_wp2_with fail
        go_ret
        exact K)
    · rw [if_neg hcap] at hrow
      go_wp2_with fail
      go_quiet (fail)
      go_wp2_with fail
      go_region_law (refine step_append_gen rfl (.const (.slice none 0 0)) (.tmp 48) 44 rfl 5 i0 (.int .u8 0) 1 1 Tryz.underlying44 hi hz0 hz1 hz2 rfl none 0 0 rfl (ao.map (·.add k)) q (cap - k) rfl Noone [] (Own.nil _ _ _ _ _) (bv t) (by rw [length_bv, HTL.out, Nat.mul_one]) (hrow.keep ((Kp.refl _ _).drewN _).drew) (bv_one _) (by omega) (by unfold maxLen; omega) ?_; intro bo' c' w3 ho3 k3; have hh3 := (((Kp.refl Noone _).drewN _).drew.trans k3).heap hh id; obtain ⟨h03, h13, h23, f03, f13, f23⟩ := cells_three hh3)
      all_goals (
        have K := key _ bo' c' w3 (((Kp.refl Noone _).drewN _).drew) (by simpa using ho3) k3
        clear ho3 key hh3
        go_simp
        rename_i hkk
        refine hkk _ _ ?_
        clear hkk
        go_wp2_with fail
        go_ret
        exact K)

set_option maxHeartbeats 1000000 in
set_option maxRecDepth 100000 in
theorem readerDone_any {G : Nat → Prop} (p : Nat) (left : List UInt8) (bad : Nat) (w : World) (h : Rd G w p left bad) :
    Calls Tryz.prog 119 #[.pointer (some ⟨p, 0, none⟩)] w (RdPost G w p (.int .i64 (rdone left bad : Int)) left (rdone left bad)) := by
  have hR := h
  obtain ⟨ao, n, cap, l, k, hh, hb, hoff, hk, rfl, hbad⟩ := h
  obtain ⟨h0, h1, h2, f0, f1, f2⟩ := cells_three hh
  have hlen := hb.len
  go_enter Tryz.func119, Tryz.ntmps119
  by_cases c0 : bad = 0
  · subst c0
    rw [Int.natCast_zero] at h2 hh
    by_cases c1 : k < n
    · have hr : rdone (l.drop k) 0 = 13 := by
        unfold rdone
        rw [if_pos ⟨rfl, fun c => by have := congrArg List.length c; rw [List.length_drop, hlen] at this; simp at this; omega⟩]
      rw [hr]
      have d1 : decide ((k : Int) < (n : Int)) = true := by simp; omega
      have R := fun q => Rd.fail hh hb hoff hk ((Kp.refl Noone w).drewN q) 13 (by omega)
      go_wp2_with fail
      go_quiet (fail)
      go_wp2_with fail
      refine (readerErr_any p _ 13 _ (R _).1).mono ?_
      rintro e w1 ⟨rfl, rfl⟩
      go_wp2_with fail
      go_ret
      exact ⟨rfl, (R _).1, (R _).2⟩
    · have hr : rdone (l.drop k) 0 = 0 := by
        unfold rdone
        rw [if_neg (fun c => c.2 (List.drop_eq_nil_of_le (by omega)))]
      rw [hr]
      have d1 : decide ((k : Int) < (n : Int)) = false := by simp; omega
      go_wp2_with fail
      go_quiet (fail)
      go_wp2_with fail
      refine (readerErr_any p _ 0 _ (hR.keep ((Kp.refl _ _).drewN _))).mono ?_
      rintro e w1 ⟨rfl, rfl⟩
      go_wp2_with fail
      go_ret
      exact ⟨rfl, hR.keep ((Kp.refl _ _).drewN _), ((Kp.refl _ _).drewN _)⟩
  · have hr : rdone (l.drop k) bad = bad := by
      unfold rdone
      rw [if_neg (fun c => c0 c.1)]
    rw [hr]
    have d1 : ((bad : Int) == 0) = false := by simp; omega
    go_wp2_with fail
    go_quiet (fail)
    go_wp2_with fail
    refine (readerErr_any p _ bad _ (hR.keep ((Kp.refl _ _).drewN _))).mono ?_
    rintro e w1 ⟨rfl, rfl⟩
    go_wp2_with fail
    go_ret
    exact ⟨rfl, hR.keep ((Kp.refl _ _).drewN _), ((Kp.refl _ _).drewN _)⟩

end Go.Proofs.YtgbgbokcohfnpaaGreat

/-
  THE WALKS of pack's Reader's other calls.
-/
namespace Go.Proofs.YtgbgbokcohfnpaaGreat
open Go.RowKit

set_option maxHeartbeats 400000 in
theorem readerInt_any {G : Nat → Prop} (p : Nat) (left : List UInt8) (bad : Nat) (w : World) (h : Rd G w p left bad) :
    Calls Tryz.prog 185 #[.pointer (some ⟨p, 0, none⟩)] w (RdPost G w p (.int .i64 (unfoldN (rnum left bad).2)) (rnum left bad).1.1 (rnum left bad).1.2) := by
  go_enter Tryz.func185, Tryz.ntmps185
  go_wp2_with fail
  refine (readerNum_any p left bad _ h).mono ?_
  rintro e w1 ⟨rfl, h1, k1⟩
  have hf := rnum_lt left bad
  generalize hu : (rnum left bad).2 = u at *
  have HU := Lib.hid hu
  clear hu
  go_wp2_with fail
  refine (unfold_any u hf _).mono ?_
  rintro e w2 ⟨rfl, rfl⟩
  go_wp2_with fail
  go_ret
  exact ⟨by rw [← HU.out]; rfl, h1, k1⟩

end Go.Proofs.YtgbgbokcohfnpaaGreat

/-
  THE WALKS of the document's own reader.
-/
namespace Go.Proofs.YtgbgbokcohfnpaaGreat
open Go.RowKit

theorem rnum_cons (c : UInt8) (r : List UInt8) : rnum (c :: r) 0 = if 8 < c.toNat then ((c :: r, 11), 0) else if r.length < c.toNat then ((c :: r, 10), 0)
    else if 0 < c.toNat ∧ r[0]? = some 0 then ((c :: r, 11), 0) else ((r.drop c.toNat, 0), ofBE (r.take c.toNat)) := by
  unfold rnum; rw [if_neg (by simp)]

end Go.Proofs.YtgbgbokcohfnpaaGreat

/-
  THE WALKS of the document's own reader: counts, texts, the end.
-/
namespace Go.Proofs.YtgbgbokcohfnpaaGreat
open Go.RowKit

theorem BS.front {w : World} {ao : Option Addr} {n cap : Nat} {l : List UInt8} (h : BS w ao n cap l) {m : Nat} (hm : m ≤ n) : BS w ao m cap (l.take m) := by
  have h1 := h.le
  refine ⟨by rw [List.length_take, h.len]; omega, by omega, h.max, ?_⟩
  rcases h.row with hr | ⟨b, off, rfl, hr⟩
  · left
    have : l = [] := by simpa [bv] using hr
    rw [this]; simp [bv]
  · right
    refine ⟨b, off, rfl, fun i hi => ?_⟩
    have hi2 : i < l.length := by rw [length_bv, List.length_take] at hi; omega
    rw [hr i (by rw [length_bv]; exact hi2)]
    simp [bv]

end Go.Proofs.YtgbgbokcohfnpaaGreat

/-
  THE WALKS of the two sums: what each computes, for every byte slice.
-/
namespace Go.Proofs.YtgbgbokcohfnpaaGreat
open Go.RowKit

theorem flat_snoc (ls : List (List UInt8)) (k : Nat) (h : k < ls.length) : (ls.take (k + 1)).flatten = (ls.take k).flatten ++ ls[k] := by
  rw [List.take_succ_eq_append_getElem h, List.flatten_append]; simp

set_option maxHeartbeats 400000 in
theorem sum_any (ao : Option Addr) (n cap : Nat) (ls : List (List UInt8)) (w : World) (hb : BSS w ao n cap ls) :
    Calls Tryz.prog 182 #[.slice ao n cap] w fun e w' => e = .returned (.int .u64 (sumN ls.flatten : Int)) ∧ w = w' := by
  have hn : n ≤ 9223372036854775807 := by have h1 := hb.le; have h2 := hb.max; unfold maxLen at h2; omega
  go_enter Tryz.func182, Tryz.ntmps182
  go_wp2
  go_loop [3, 10] (fun h i => ∃ k : Nat, k ≤ n ∧ i = .int .i64 k ∧ h = .int .u64 (sumFrom start (ls.take k).flatten : Nat)) (fun _ i => n - (intOf i).toNat)
  case atStart => exact ⟨0, Nat.zero_le _, rfl, rfl⟩
  case round =>
    obtain ⟨k, hk, rfl, rfl⟩ := hrel
    by_cases hlt : k < n
    · obtain ⟨b, off, bo, m, c, hl, rfl, _, hck, hB⟩ := hb.at hlt
      have hm : m ≤ 9223372036854775807 := by have h1 := hB.le; have h2 := hB.max; unfold maxLen at h2; omega
      have HS : Hid (sumFrom start (ls.take (k + 1)).flatten = sumFrom (sumFrom start (ls.take k).flatten) ls[k]) := by rw [flat_snoc ls k hl]; exact sumFrom_append _ _ _
      have HW : Hid (W64 (sumFrom start (ls.take k).flatten)) := W64_sumFrom _ _ W64_start
      generalize sumFrom start (ls.take k).flatten = H at *
      generalize ls[k] = l at *
      clear hb
      go_wp2
      go_loop [3, 16] (fun h i => ∃ j : Nat, j ≤ m ∧ i = .int .i64 j ∧ h = .int .u64 (sumFrom H (l.take j) : Nat)) (fun _ i => m - (intOf i).toNat)
      case atStart => exact ⟨0, Nat.zero_le _, rfl, rfl⟩
      case round =>
        obtain ⟨j, hj, rfl, rfl⟩ := hrel
        by_cases hjt : j < m
        · obtain ⟨b', off', hl', rfl, _, hcj⟩ := hB.at hjt
          have HT : Hid (sumFrom H (l.take (j + 1)) = stepN (sumFrom H (l.take j)) l[j]) := by rw [take_snoc l j hl']; exact sumFrom_snoc _ _ _
          have HX : Hid (W64 (sumFrom H (l.take j))) := W64_sumFrom _ _ HW.out
          generalize sumFrom H (l.take j) = G at *
          clear hB hck
          go_wp2
          go_round
          case rel => exact ⟨j + 1, by omega, by go_num, int_eq (by rw [HT.out]; exact step_val _ HX.out)⟩
          case measure => simp [intOf]; omega
        · go_wp2
          go_round
          case rel => exact ⟨k + 1, by omega, by go_num, int_eq (by rw [HS.out, List.take_of_length_le (by rw [hB.len]; omega)])⟩
          case measure => simp [intOf]; omega
    · go_wp2
      go_ret
      exact ⟨ret_eq (int_eq (by rw [List.take_of_length_le (by rw [hb.len]; omega)]; rfl)), rfl⟩

end Go.Proofs.YtgbgbokcohfnpaaGreat

/-
  THE WALKS of Seal and its reference: what each computes, for every byte slice.
-/
namespace Go.Proofs.YtgbgbokcohfnpaaGreat
open Go.RowKit

/-- The sum, the most significant byte first. -/
def eightL (h : Nat) : List UInt8 := [UInt8.ofNat (h / 72057594037927936), UInt8.ofNat (h / 281474976710656), UInt8.ofNat (h / 1099511627776), UInt8.ofNat (h / 4294967296), UInt8.ofNat (h / 16777216), UInt8.ofNat (h / 65536), UInt8.ofNat (h / 256), UInt8.ofNat h]

set_option maxHeartbeats 1000000 in
theorem eight_any (h : Nat) (x0 x1 x2 x3 x4 x5 x6 x7 : UInt8) (hx : [x0, x1, x2, x3, x4, x5, x6, x7] = eightL h) (w : World) : Calls Tryz.prog 181 #[.int .u64 (h : Int)] w fun e w' =>
    e = .returned (.agg #[.int .u8 (x0.toNat : Int), .int .u8 (x1.toNat : Int), .int .u8 (x2.toNat : Int), .int .u8 (x3.toNat : Int), .int .u8 (x4.toNat : Int), .int .u8 (x5.toNat : Int), .int .u8 (x6.toNat : Int), .int .u8 (x7.toNat : Int)]) ∧ Kp Noone w w' := by
  simp only [eightL, List.cons.injEq] at hx
  obtain ⟨rfl, rfl, rfl, rfl, rfl, rfl, rfl, rfl, _⟩ := hx
  go_enter Tryz.func181, Tryz.ntmps181
  go_wp2
  refine wp_loop_rounds 9 ?_
  rw [rounds_succ]
  go_wp2
  rw [rounds_succ]
  go_wp2
  rw [rounds_succ]
  go_wp2
  rw [rounds_succ]
  go_wp2
  rw [rounds_succ]
  go_wp2
  rw [rounds_succ]
  go_wp2
  rw [rounds_succ]
  go_wp2
  rw [rounds_succ]
  go_wp2
  rw [rounds_succ]
  go_wp2
  refine bodyPost_ret (v := .agg (bv (eightL h)).toArray) ?_ rfl ⟨rfl, ?_⟩
  · simp [results, Tryz.results181, go_sem, bv, eightL, U8]
  · repeat (first | exact Kp.refl _ _ | apply Kp.alloc | refine Kp.setCell ?_ (fun h => absurd h (by simp)) _)

theorem eight_get (h : Nat) : ∃ x0 x1 x2 x3 x4 x5 x6 x7 : UInt8, [x0, x1, x2, x3, x4, x5, x6, x7] = eightL h := ⟨_, _, _, _, _, _, _, _, rfl⟩

set_option maxHeartbeats 400000 in
theorem seal_any (ao : Option Addr) (n cap : Nat) (l : List UInt8) (w : World) (hb : BS w ao n cap l) (hn : n ≤ 140737488353000) :
    Calls Tryz.prog 170 #[.slice ao n cap] w fun e w' => ∃ bo c, e = .returned (.slice bo (n + 8) c) ∧ Own (Ex Noone w w') w' 5 1 bo (n + 8) c (bv (l ++ eightL (sumN l))) ∧ Kp Noone w w' := by
  obtain ⟨i0, hi, hz0, hz1, hz2⟩ := info_parts info_u8
  obtain ⟨x0, x1, x2, x3, x4, x5, x6, x7, hx⟩ := eight_get (sumN l)
  have HX := Lib.hid hx
  clear hx
  go_enter Tryz.func170, Tryz.ntmps170
  go_wp2_with fail
  refine (sum_any _ _ _ [l] _ (BSS.one (bo := ao) (m := n) (c := cap) (by go_simp) (hb.keep ((Kp.refl _ _).alloc _)))).mono ?_
  rintro e w' ⟨rfl, rfl⟩
  rw [show [l].flatten = l from by simp]
  go_wp2_with fail
  refine (eight_any _ x0 x1 x2 x3 x4 x5 x6 x7 HX.out _).mono ?_
  rintro e w1 ⟨rfl, hk⟩
  have hb1 := hb.keep (((Kp.refl _ _).alloc _).trans hk)
  have hr8 := Row.ofHeap (w := (w1.alloc (.cells (bv [x0, x1, x2, x3, x4, x5, x6, x7]).toArray 278)).drew) (e := 278) (fr := (0, 0)) (heap_alloc_new w1 _)
  go_wp2_with fail
  go_region_law (first
    | (refine step_append_gen rfl (.const (.slice none 0 0)) (.tmp 8) 44 rfl 5 i0 (.int .u8 0) 1 1 Tryz.underlying44 hi hz0 hz1 hz2 rfl none 0 0 rfl ao n cap rfl Noone [] (Own.nil _ _ _ _ _) (bv l) (by simp [bv, hb.len]) (hb1.row.keep ((((Kp.refl _ _).alloc _)).drew)) (bv_one l) (by omega) (by unfold maxLen; omega) ?_; intro ao1 cap1 w2 hown1 hk1; simp only [Nat.zero_add, List.nil_append] at hown1)
    | (refine step_append_gen rfl (.tmp 9) (.tmp 10) 44 rfl 5 i0 (.int .u8 0) 1 1 Tryz.underlying44 hi hz0 hz1 hz2 rfl ao1 n cap1 rfl _ 8 8 rfl _ (bv l) hown1 (bv [x0, x1, x2, x3, x4, x5, x6, x7]) rfl (hr8.keep hk1) (bv_one _) (by omega) (by unfold maxLen; omega) ?_; intro ao2 cap2 w3 hown2 hk2))
  go_wp2
  go_ret
  have s1 : w.heap.size + 1 ≤ w1.heap.size := by simpa using hk.size
  have s2 : w1.heap.size + 1 ≤ w2.heap.size := by simpa using hk1.size
  have s3 := hk2.size
  refine ⟨ao2, cap2, rfl, ?_, ?_⟩
  · rw [← HX.out, ← bv_append]
    refine hown2.mono (fun k hk h => ?_)
    rcases h with h | h
    · have h' := h.none
      simp at h'
      exact Or.inr ⟨by omega, by omega⟩
    · exact Or.inr ⟨by omega, h.2⟩
  · refine Kp.fin (((((Kp.refl _ _).alloc _).trans hk).alloc _).drew.trans hk1) hk2 (fun k h => Or.inr ?_)
    have h' := h.none
    simp at h'
    omega

end Go.Proofs.YtgbgbokcohfnpaaGreat

/-
  THE WALKS of the two Open: what each answers, for every byte slice.
-/
namespace Go.Proofs.YtgbgbokcohfnpaaGreat
open Go.RowKit

/-- Is it sealed? -/
def okSeal (l : List UInt8) : Bool := decide (8 ≤ l.length) && (eightL (sumN (l.take (l.length - 8))) == l.drop (l.length - 8))
def openL (l : List UInt8) : List UInt8 := if okSeal l then l.take (l.length - 8) else []
def openE (l : List UInt8) : Int := if okSeal l then 0 else if l.length < 8 then 10 else 14

def OpenPost (l : List UInt8) (w : World) (e : Ending) (w' : World) : Prop :=
  ∃ bo m c, e = .returned (.tuple #[.slice bo m c, .int .i64 (openE l)]) ∧ Own (Ex Noone w w') w' 5 1 bo m c (bv (openL l)) ∧ Kp Noone w w'

theorem open_nil (l : List UInt8) (w w' : World) (hk : Kp Noone w w') (h : okSeal l = false) (e : Ending) (he : e = .returned (.tuple #[.slice none 0 0, .int .i64 (openE l)])) : OpenPost l w e w' := by
  refine ⟨none, 0, 0, he, ?_, hk⟩
  rw [openL, h]
  exact Own.nil _ _ _ _ _

theorem okSeal_iff {l : List UInt8} {m : Nat} (hl : l.length = m + 8) : okSeal l = (eightL (sumN (l.take m)) == l.drop m) := by
  unfold okSeal
  rw [show l.length - 8 = m from by omega]
  simp [hl]

/-- What is cut in front. -/
theorem BS.take {w : World} {ao : Option Addr} {n cap : Nat} {l : List UInt8} (h : BS w ao n cap l) {m : Nat} (hm : m ≤ n) : BS w ao m cap (l.take m) := by
  refine ⟨by rw [List.length_take, h.len]; omega, by have := h.le; omega, h.max, ?_⟩
  rcases h.row with hr | ⟨b, off, rfl, hr⟩
  · left
    have : l = [] := by simpa [bv] using hr
    simp [this, bv]
  · refine Or.inr ⟨b, off, rfl, fun i hi => ?_⟩
    have hi' : i < (bv l).length := by simp [bv] at hi ⊢; omega
    rw [hr i hi']
    simp [bv]

theorem eight_of {l : List UInt8} (h : l.length = 8) : ∃ x0 x1 x2 x3 x4 x5 x6 x7 : UInt8, l = [x0, x1, x2, x3, x4, x5, x6, x7] := by
  match l, h with
  | [x0, x1, x2, x3, x4, x5, x6, x7], _ => exact ⟨x0, x1, x2, x3, x4, x5, x6, x7, rfl⟩

theorem eight_cells {w : World} {b off m cap : Nat} {l : List UInt8} {y0 y1 y2 y3 y4 y5 y6 y7 : UInt8} (hb : BS w (some ⟨b, off, none⟩) (m + 8) cap l) (hy : l.drop m = [y0, y1, y2, y3, y4, y5, y6, y7]) :
    w.cell? ⟨b, off + m, none⟩ = some (.int .u8 (y0.toNat : Int)) ∧ w.cell? ⟨b, off + m + 1, none⟩ = some (.int .u8 (y1.toNat : Int)) ∧ w.cell? ⟨b, off + m + 2, none⟩ = some (.int .u8 (y2.toNat : Int)) ∧ w.cell? ⟨b, off + m + 3, none⟩ = some (.int .u8 (y3.toNat : Int)) ∧
    w.cell? ⟨b, off + m + 4, none⟩ = some (.int .u8 (y4.toNat : Int)) ∧ w.cell? ⟨b, off + m + 5, none⟩ = some (.int .u8 (y5.toNat : Int)) ∧ w.cell? ⟨b, off + m + 6, none⟩ = some (.int .u8 (y6.toNat : Int)) ∧ w.cell? ⟨b, off + m + 7, none⟩ = some (.int .u8 (y7.toNat : Int)) := by
  have key : ∀ j (hj : j < 8), w.cell? ⟨b, off + (m + j), none⟩ = some (U8 ([y0, y1, y2, y3, y4, y5, y6, y7][j]'(by simpa using hj))) := by
    intro j hj
    obtain ⟨b', off', hl, he, _, hc⟩ := hb.at (k := m + j) (by omega)
    simp only [Option.some.injEq, Addr.mk.injEq] at he
    obtain ⟨rfl, rfl, _⟩ := he
    rw [hc]
    have h1 : l[m + j]? = [y0, y1, y2, y3, y4, y5, y6, y7][j]? := by rw [← hy, List.getElem?_drop]
    rw [List.getElem?_eq_getElem hl, List.getElem?_eq_getElem (by simpa using hj)] at h1
    rw [Option.some.inj h1]
    rfl
  refine ⟨key 0 (by omega), key 1 (by omega), key 2 (by omega), key 3 (by omega), key 4 (by omega), key 5 (by omega), key 6 (by omega), key 7 (by omega)⟩

theorem run_arrayAt8 (W : World) (a : Option Addr) (c : Nat) : (Instr.arrayAt 278 (.slice a 8 c)).run Tryz.prog W = .ok (.pointer a) W := by
  simp [Instr.arrayAt, run_underlying Tryz.underlying278]

theorem run_equal8 (x0 x1 x2 x3 x4 x5 x6 x7 y0 y1 y2 y3 y4 y5 y6 y7 : UInt8) (W : World) :
    (Op.equalIn 10000 278 (.agg #[.int .u8 (x0.toNat : Int), .int .u8 (x1.toNat : Int), .int .u8 (x2.toNat : Int), .int .u8 (x3.toNat : Int), .int .u8 (x4.toNat : Int), .int .u8 (x5.toNat : Int), .int .u8 (x6.toNat : Int), .int .u8 (x7.toNat : Int)])
      (.agg #[.int .u8 (y0.toNat : Int), .int .u8 (y1.toNat : Int), .int .u8 (y2.toNat : Int), .int .u8 (y3.toNat : Int), .int .u8 (y4.toNat : Int), .int .u8 (y5.toNat : Int), .int .u8 (y6.toNat : Int), .int .u8 (y7.toNat : Int)])).run Tryz.prog W =
      .ok ([y0, y1, y2, y3, y4, y5, y6, y7] == [x0, x1, x2, x3, x4, x5, x6, x7]) W := by
  obtain ⟨i0, hi, hz0, hz1, hz2⟩ := info_parts info_u8
  have hc : Tryz.prog.cellsOf 5 = 1 := by simp [Program.cellsOf, hi, hz1]
  have h := run_equalIn_array (P := Tryz.prog) W 9999 (bv [x0, x1, x2, x3, x4, x5, x6, x7]).toArray (bv [y0, y1, y2, y3, y4, y5, y6, y7]).toArray Tryz.underlying278 hi
  rw [hc, run_eqItems_bytes 9998 5 Tryz.underlying5 _ _ _ (by intro i hi; simp at hi ⊢; omega)] at h
  refine Eq.trans h (congrArg (fun b => Result.ok b W) ?_)
  rw [Bool.eq_iff_iff, beq_iff_eq]
  simp [List.range_succ]
  constructor
  · rintro ⟨rfl, rfl, rfl, rfl, rfl, rfl, rfl, rfl⟩
    simp
  · rintro ⟨rfl, rfl, rfl, rfl, rfl, rfl, rfl, rfl⟩
    simp

set_option maxHeartbeats 1000000 in
theorem open_any (ao : Option Addr) (n cap : Nat) (l : List UInt8) (w : World) (hb : BS w ao n cap l) (hn : n ≤ 140737488355328) :
    Calls Tryz.prog 150 #[.slice ao n cap] w (OpenPost l w) := by
  have HL := Lib.hid hb.len
  have hle := hb.le
  obtain ⟨i0, hi, hz0, hz1, hz2⟩ := info_parts info_u8
  by_cases h8 : n < 8
  · go_enter Tryz.func150, Tryz.ntmps150
    go_wp2
    go_ret2
    have h : okSeal l = false := by unfold okSeal; simp; intro; rw [HL.out] at *; omega
    exact open_nil l w _ (Kp.refl _ _) h _ (by rw [openE, h, HL.out, if_neg (by simp), if_pos h8]; rfl)
  · obtain ⟨m, rfl⟩ : ∃ m, n = m + 8 := ⟨n - 8, by omega⟩
    have hbt := hb.take (m := m) (by omega)
    have HO := Lib.hid (okSeal_iff HL.out)
    obtain ⟨x0, x1, x2, x3, x4, x5, x6, x7, hx⟩ := eight_get (sumN (l.take m))
    obtain ⟨y0, y1, y2, y3, y4, y5, y6, y7, hy⟩ := eight_of (l := l.drop m) (by rw [List.length_drop, HL.out]; omega)
    obtain ⟨b, off, _, rfl, hbW, _⟩ := hb.at (k := 0) (by omega)
    have HX := Lib.hid hx
    have HY := Lib.hid hy
    obtain ⟨c0, c1, c2, c3, c4, c5, c6, c7⟩ := eight_cells hb hy
    clear hx hy
    go_enter Tryz.func150, Tryz.ntmps150
    go_wp2_with fail
    have b1 : (m : Int) ≤ (m : Int) + 8 := by omega
    have b2 : ¬ cap = m := by omega
    have b3 : (m : Int) ≤ (cap : Int) := by omega
    have b4 : m ≤ cap := by omega
    have ka := run_arrayAt8
    have ke := fun W => run_equal8 y0 y1 y2 y3 y4 y5 y6 y7 x0 x1 x2 x3 x4 x5 x6 x7 W
    rw [HX.out, ← HY.out, ← HO.out] at ke
    go_region_law (first
      | (go_simp; go_at_call 182; refine (sum_any _ _ _ [l.take m] _ (BSS.one (bo := some ⟨b, off, none⟩) (m := m) (c := cap) (by go_simp) (hbt.keep (((Kp.refl _ _).alloc _).drew)))).mono ?_; rintro e w' ⟨rfl, rfl⟩)
      | (go_simp; go_at_call 181; refine (eight_any _ x0 x1 x2 x3 x4 x5 x6 x7 HX.out _).mono ?_; rintro e w1 ⟨rfl, hk⟩; obtain ⟨d0, d1, d2, d3, d4, d5, d6, d7⟩ := eight_cells (hb.keep ((((Kp.refl _ _).alloc _).drew).trans hk)) HY.out))
    all_goals
      have hk1 : Kp Noone w w1 := (((Kp.refl _ _).alloc _).drew).trans hk
      clear ke ka b1 b2 c0 c1 c2 c3 c4 c5 c6 c7 d0 d1 d2 d3 d4 d5 d6 d7 HX HY hk
      cases hok : okSeal l with
      | false =>
        have HK := Lib.hid hok
        clear hok
        go_wp2
        go_ret2
        exact open_nil l w _ hk1 HK.out _ (by rw [openE, HK.out, HL.out]; rfl)
      | true =>
        have HK := Lib.hid hok
        have s1 := hk1.size
        clear hok
        go_wp2_with (at_builtin; refine wpList_append_gen _ rfl (.const (.slice none 0 0)) (.tmp 24) 44 rfl 5 i0 (.int .u8 0) 1 1 Tryz.underlying44 hi hz0 hz1 hz2 rfl none 0 0 rfl (some ⟨b, off, none⟩) m cap rfl Noone [] (Own.nil _ _ _ _ _) (bv (l.take m)) (by rw [length_bv, hbt.len, Nat.mul_one]) (hbt.keep hk1).row (bv_one _) (by omega) (by unfold maxLen; omega) ?_)
        intro bo c w2 ho hk2
        go_wp2
        go_ret2
        refine ⟨bo, m, c, by rw [openE, HK.out]; rfl, ?_, hk1.trans hk2⟩
        rw [openL, HK.out, HL.out]
        refine (show Own _ _ _ _ _ _ _ (bv (l.take (m + 8 - 8))) from ho).mono (fun j hj h => ?_)
        have h' := h.none
        exact Or.inr ⟨by omega, hj⟩

end Go.Proofs.YtgbgbokcohfnpaaGreat

/-
  PLAIN LAWS of the sum: each step is one to one, so one byte turned is told; a sealed text with one byte turned is not sealed.
-/
namespace Go.Proofs.YtgbgbokcohfnpaaGreat

theorem length_eightL (h : Nat) : (eightL h).length = 8 := rfl

end Go.Proofs.YtgbgbokcohfnpaaGreat
