/-
  The texts DiskWhole in one: what the claim reaches of them.
-/
import Derived.Test.YtgbgbokcohfnpaaGreatP01
import Derived.BigQuiet
import Derived.Deep.LoopGhost
import Derived.Maps.RangeWalk
import Derived.Carry
import Derived.Test.YtgbgbokcohfnpaaGreatP02
import Derived.Sort.KeysCollected
import Derived.Deep.RegionHeld3
import Derived.Deep.CutRange
/-
  RightN, Disk, DiskOps, Names, DiskA, DiskB, DiskC, DiskC2, DiskD, DiskE, DiskHead, Image, RefSame, Mount in one text.
-/
/-
  THE WALKS of the two Right (which texts are names), and the law DiskRights.
-/
namespace Go.Proofs.YtgbgbokcohfnpaaGreat
open Go.RowKit

/-- A byte of a name. -/
def okc (c : UInt8) : Bool := decide (97 ≤ c.toNat ∧ c.toNat ≤ 122) || decide (48 ≤ c.toNat ∧ c.toNat ≤ 57) || decide (c.toNat = 45)
def rightL (l : List UInt8) : Bool := decide (0 < l.length) && decide (l.length ≤ 24) && l.all okc

/-! ### A string's bytes, as a slice -/
def convC (s : ByteArray) (w : World) : Nat := grownCap w s.size 0 5
def convW (s : ByteArray) (w : World) : World :=
  w.drew.alloc (.cells (bytesRow s (convC s w)) 5 ((bytesRow s (convC s w)).size, (bytesRow s (convC s w)).size + 1))
theorem run_conv (s : ByteArray) (w : World) : (convert 9 44 (.string s)).run Tryz.prog w = .ok (.slice (some ⟨w.heap.size, 0, none⟩) s.size (convC s w)) (convW s w) :=
  run_bytes_of_string w 9 44 5 s Tryz.underlying9 Tryz.underlying44 Tryz.underlying5
theorem convW_kp (s : ByteArray) (w : World) : Kp Noone w (convW s w) := ((Kp.refl _ _).drew).alloc _
theorem length_bytes (s : ByteArray) : s.data.toList.length = s.size := by rw [Array.length_toList]; rfl
theorem convW_bs (s : ByteArray) (w : World) (hs : s.size ≤ maxLen) : BS (convW s w) (some ⟨w.heap.size, 0, none⟩) s.size (convC s w) s.data.toList := by
  refine ⟨length_bytes s, grownCap_ge _ _ _ _, grownCap_le_maxLen _ _ _ _ hs, Or.inr ⟨w.heap.size, 0, rfl, fun i hi => ?_⟩⟩
  have hi' : i < s.data.size := by simpa [bv] using hi
  rw [cell_of_row (convW s w) w.heap.size _ _ 5 _ (heap_alloc_new w.drew _)]
  simp only [bytesRow, Nat.zero_add]
  rw [Array.getElem?_append_left (by simpa using hi')]
  simp [bv, U8]
  exact ⟨s.data[i], by simp, rfl⟩

theorem all_take_succ {l : List UInt8} {k : Nat} (h : k < l.length) : (l.take (k + 1)).all okc = ((l.take k).all okc && okc l[k]) := by
  rw [take_snoc l k h, List.all_append]; simp

theorem right_bad {l : List UInt8} {k : Nat} (h : k < l.length) (hb : okc l[k] = false) : rightL l = false := by
  have : l.all okc = false := by
    rw [List.all_eq_false]
    exact ⟨l[k], List.getElem_mem h, by simp [hb]⟩
  simp [rightL, this]

set_option maxHeartbeats 1000000 in
theorem right_any (s : ByteArray) (w : World) (hs : s.size ≤ 9223372036854775807) :
    Calls Tryz.prog 153 #[.string s] w fun e w' => e = .returned (.bool (rightL s.data.toList)) ∧ Kp Noone w w' := by
  have hl := length_bytes s
  by_cases h0 : s.size = 0
  · have e1 : s.toList = [] := by rw [ByteArray.toList_eq]; exact List.eq_nil_of_length_eq_zero (by omega)
    have e2 : s.toList.isEmpty = true := by rw [e1]; rfl
    have HF : Hid (rightL s.data.toList = false) := by
      show rightL s.data.toList = false
      rw [List.eq_nil_of_length_eq_zero (show s.data.toList.length = 0 by omega)]; rfl
    clear h0 hl
    go_enter Tryz.func153, Tryz.ntmps153
    go_wp2
    go_ret
    exact ⟨by rw [HF.out]; rfl, Kp.refl _ _⟩
  · have e2 : s.toList.isEmpty = false := by
      rw [ByteArray.toList_eq]
      cases h : s.data.toList with
      | nil => rw [h] at hl; simp at hl; omega
      | cons => rfl
    have e3 : ¬ s.toList = [] := by intro h; rw [h] at e2; simp at e2
    have h1 : 1 ≤ s.size := by omega
    have HL := Lib.hid hl
    clear h0 hl
    by_cases h24 : 24 < s.size
    · have HF : Hid (rightL s.data.toList = false) := by
        show rightL s.data.toList = false
        unfold rightL; rw [HL.out, decide_eq_false (show ¬ s.size ≤ 24 by omega)]; simp
      go_enter Tryz.func153, Tryz.ntmps153
      go_wp2
      go_ret
      exact ⟨by rw [HF.out]; rfl, Kp.refl _ _⟩
    · have kc := run_conv s
      have hb := convW_bs s w (by unfold maxLen; omega)
      have hk := convW_kp s w
      go_enter Tryz.func153, Tryz.ntmps153
      go_wp2
      clear kc
      generalize convW s w = w1 at *
      generalize convC s w = cc at *
      generalize s.size = n at *
      go_loop [15] (fun i => ∃ k : Nat, k ≤ n ∧ i = .int .i64 k ∧ (s.data.toList.take k).all okc = true) (fun i => n - (intOf i).toNat)
      case atStart => exact ⟨0, Nat.zero_le _, rfl, by simp⟩
      case round =>
        obtain ⟨k, hk', rfl, hall⟩ := hrel
        have HA := Lib.hid hall
        clear hall
        by_cases hlt : k < n
        · obtain ⟨b, off, hlk, hao, _, hck⟩ := hb.at hlt
          simp only [Option.some.injEq, Addr.mk.injEq] at hao
          obtain ⟨rfl, rfl, _⟩ := hao
          rw [Nat.zero_add] at hck
          have HS := Lib.hid (all_take_succ hlk)
          have HB := Lib.hid (right_bad hlk)
          generalize s.data.toList[k] = x at *
          clear hb
          have key : (x.toNat < 45 ∨ 45 < x.toNat ∧ x.toNat < 48 ∨ 57 < x.toNat ∧ x.toNat < 97 ∨ 122 < x.toNat) ∨ (x.toNat = 45 ∨ 48 ≤ x.toNat ∧ x.toNat ≤ 57 ∨ 97 ≤ x.toNat ∧ x.toNat ≤ 122) := by omega
          rcases key with h | h
          · have HF : Hid (okc x = false) := by
              show okc x = false
              unfold okc; simp; omega
            have hq : ((x.toNat : Int) != 45) = true := by rw [bne_iff_ne]; omega
            rcases h with h | h | h | h
            all_goals
              go_wp2
              go_ret
              exact ⟨by rw [HB.out HF.out]; rfl, hk⟩
          · have HT : Hid (okc x = true) := by
              show okc x = true
              unfold okc; simp; omega
            rcases h with h | h | h
            all_goals
              go_wp2
              go_round
              case rel => exact ⟨k + 1, by omega, by go_num, by rw [HS.out, HA.out, HT.out]; rfl⟩
              case measure => simp [intOf]; omega
        · go_wp2
          go_ret
          refine ⟨ret_eq ?_, hk⟩
          have h2 := HA.out
          rw [List.take_of_length_le (by rw [HL.out]; omega)] at h2
          rw [rightL, HL.out, h2, decide_eq_true (show 0 < n by omega), decide_eq_true (show n ≤ 24 by omega)]
          rfl

end Go.Proofs.YtgbgbokcohfnpaaGreat

/-
  A DISK: in plain Lean, and where it lies in memory.
-/
namespace Go.Proofs.YtgbgbokcohfnpaaGreat
open Go.RowKit

/-! ### In plain Lean -/

structure AreaP where
  data : List UInt8
  safe : Int
abbrev Areas := List (ByteArray × AreaP)
structure DS where
  areas : Areas
  room : Int
  steps : Int
  fuse : Int
  down : Bool
def sumF : Areas → Int
  | [] => 0
  | p :: r => p.2.safe + sumF r
def nameOk (k : ByteArray) : Bool := rightL k.data.toList
def get0 (k : ByteArray) (l : Areas) : AreaP := (alGet k l).getD ⟨[], 0⟩
def barsF (s : DS) (k : ByteArray) (there : Bool) : Nat := if s.down = true then 2 else if nameOk k = false then 40 else if there = true ∧ alGet k s.areas = none then 41 else 0
def stepF (s : DS) : DS × Bool := if s.fuse = 1 then ({ s with fuse := 0, down := true }, false) else ({ s with fuse := max 0 (s.fuse - 1), steps := s.steps + 1 }, true)
def doneN (b : Bool) : Nat := if b = true then 0 else 2
def putF (s : DS) (k : ByteArray) (a : AreaP) : DS := { s with areas := alPut k a s.areas }
def newF (room : Int) : DS := ⟨[], max 0 (min room 4194304), 0, 0, false⟩
def appendF (s : DS) (k : ByteArray) (d : List UInt8) : DS × Nat :=
  if barsF s k false ≠ 0 then (s, barsF s k false)
  else if alGet k s.areas = none ∧ 64 ≤ s.areas.length then (s, 43)
  else if 4194304 - ((get0 k s.areas).data.length : Int) < d.length then (s, 12)
  else ((stepF (putF s k ⟨(get0 k s.areas).data ++ d, (get0 k s.areas).safe⟩)).1, doneN (stepF s).2)
def syncF (s : DS) (k : ByteArray) : DS × Nat :=
  if barsF s k true ≠ 0 then (s, barsF s k true)
  else if s.room < sumF s.areas - (get0 k s.areas).safe + (get0 k s.areas).data.length then (s, 42)
  else if (stepF s).2 = false then ((stepF s).1, 2)
  else (putF (stepF s).1 k ⟨(get0 k s.areas).data, (get0 k s.areas).data.length⟩, 0)
def cutA (a : AreaP) (n : Int) : AreaP := ⟨a.data.take n.toNat, min a.safe n⟩
def cutF (s : DS) (k : ByteArray) (n : Int) : DS × Nat :=
  if barsF s k true ≠ 0 then (s, barsF s k true)
  else if n < 0 ∨ ((get0 k s.areas).data.length : Int) < n then (s, 1)
  else if (stepF s).2 = false then ((stepF s).1, 2)
  else (putF (stepF s).1 k (cutA (get0 k s.areas) n), 0)
def moveF (s : DS) (f t : ByteArray) : DS × Nat :=
  if barsF s f true ≠ 0 then (s, barsF s f true)
  else if nameOk t = false then (s, 40)
  else if (stepF s).2 = false then ((stepF s).1, 2)
  else ({ (stepF s).1 with areas := alPut t (get0 f s.areas) (alDel f s.areas) }, 0)
def dropF (s : DS) (k : ByteArray) : DS × Nat :=
  if barsF s k true ≠ 0 then (s, barsF s k true)
  else if (stepF s).2 = false then ((stepF s).1, 2)
  else ({ (stepF s).1 with areas := alDel k s.areas }, 0)
def readF (s : DS) (k : ByteArray) : List UInt8 × Nat := if barsF s k true ≠ 0 then ([], barsF s k true) else ((get0 k s.areas).data, 0)
def fuseF (s : DS) (n : Int) : DS := { s with fuse := max 0 n }
def keepN (a : AreaP) (k : Option Int) : Int := a.safe + (match k with
  | some v => max 0 (min v ((a.data.length : Int) - a.safe))
  | none => 0)
def crashA (s : DS) (a : AreaP) (k : Option Int) : Int := max a.safe (min (keepN a k) (s.room - sumF s.areas + a.safe))
def crash1 (s : DS) (n : ByteArray) (k : Option Int) : DS := putF s n ⟨(get0 n s.areas).data.take (crashA s (get0 n s.areas) k).toNat, crashA s (get0 n s.areas) k⟩
def crashUp (ns : List ByteArray) (keep : List Int) (s : DS) : Nat → DS
  | 0 => s
  | i + 1 => crash1 (crashUp ns keep s i) (ns[i]?.getD ByteArray.empty) keep[i]?
def ofL (l : List UInt8) : ByteArray := ⟨l.toArray⟩
def toL (k : ByteArray) : List UInt8 := k.data.toList
theorem ofL_toL (k : ByteArray) : ofL (toL k) = k := by unfold ofL toL; simp
def sortN (ns : List ByteArray) : List ByteArray := ((ns.map toL).mergeSort fun x y => decide (x ≤ y)).map ofL
def namesF (s : DS) : List ByteArray := sortN (s.areas.map (·.1))
def crashF (s : DS) (keep : List Int) : DS := { crashUp (namesF s) keep s (namesF s).length with fuse := 0, down := false }
def imageF (s : DS) : List (ByteArray × AreaP) := (namesF s).map fun k => (k, get0 k s.areas)

/-- What holds of every disk. -/
structure DOk (s : DS) : Prop where
  room : 0 ≤ s.room ∧ s.room ≤ 4194304
  keys : (s.areas.map (·.1)).Nodup
  len : s.areas.length ≤ 64
  each : ∀ x ∈ s.areas, 0 ≤ x.2.safe ∧ x.2.safe ≤ x.2.data.length ∧ x.2.data.length ≤ 140737488355328
  names : ∀ x ∈ s.areas, nameOk x.1 = true
  steps : 0 ≤ s.steps ∧ s.steps ≤ 4611686018427387904
  fuse : 0 ≤ s.fuse ∧ s.fuse ≤ 9223372036854775807

theorem sumF_put (k : ByteArray) (a : AreaP) (l : Areas) : sumF (alPut k a l) = sumF l - (get0 k l).safe + a.safe := by
  induction l with
  | nil => simp [alPut, sumF, get0, alGet_nil]
  | cons p r ih =>
    unfold alPut get0
    rw [alGet_cons]
    by_cases h : k = p.1
    · rw [if_pos h, if_pos h]; simp [sumF]; omega
    · rw [if_neg h, if_neg h]; unfold sumF; rw [ih]; unfold get0; omega
theorem sumF_bound : ∀ (l : Areas) (B : Int), (∀ x ∈ l, 0 ≤ x.2.safe ∧ x.2.safe ≤ B) → 0 ≤ sumF l ∧ sumF l ≤ l.length * B
  | [], B, _ => by simp [sumF]
  | p :: r, B, h => by
    have h1 := h p (by simp)
    have h2 := sumF_bound r B (fun x hx => h x (by simp [hx]))
    have e : ((p :: r).length : Int) * B = r.length * B + B := by rw [List.length_cons, Int.natCast_add, Int.add_mul]; omega
    rw [e]
    unfold sumF
    omega
theorem DOk.sum {s : DS} (h : DOk s) : 0 ≤ sumF s.areas ∧ sumF s.areas ≤ 9007199254740992 := by
  have h1 := sumF_bound s.areas 140737488355328 (fun x hx => by have := h.each x hx; omega)
  have h2 := h.len
  have h3 : (s.areas.length : Int) * 140737488355328 ≤ 64 * 140737488355328 := Int.mul_le_mul_of_nonneg_right (by omega) (by omega)
  omega
theorem DOk.get {s : DS} (h : DOk s) (k : ByteArray) : 0 ≤ (get0 k s.areas).safe ∧ (get0 k s.areas).safe ≤ (get0 k s.areas).data.length ∧ (get0 k s.areas).data.length ≤ 140737488355328 := by
  unfold get0
  cases hg : alGet k s.areas with
  | none => simp
  | some a => exact h.each _ (alGet_mem hg)
theorem mem_alPut {k : ByteArray} {a : AreaP} {l : Areas} {x : ByteArray × AreaP} (h : x ∈ alPut k a l) : x = (k, a) ∨ x ∈ l := by
  induction l with
  | nil => simpa [alPut] using h
  | cons p r ih =>
    unfold alPut at h
    split at h
    · rcases List.mem_cons.1 h with h | h
      · exact Or.inl h
      · exact Or.inr (List.mem_cons_of_mem _ h)
    · rcases List.mem_cons.1 h with h | h
      · exact Or.inr (by rw [h]; simp)
      · rcases ih h with h | h
        · exact Or.inl h
        · exact Or.inr (List.mem_cons_of_mem _ h)
theorem mem_alDel {k : ByteArray} {l : Areas} {x : ByteArray × AreaP} (h : x ∈ alDel k l) : x ∈ l := by
  induction l with
  | nil => simp [alDel] at h
  | cons p r ih =>
    unfold alDel at h
    split at h
    · exact List.mem_cons_of_mem _ h
    · rcases List.mem_cons.1 h with h | h
      · rw [h]; simp
      · exact List.mem_cons_of_mem _ (ih h)
theorem alPut_length' (k : ByteArray) (a : AreaP) (l : Areas) (h : alGet k l ≠ none) : (alPut k a l).length = l.length := by
  induction l with
  | nil => simp [alGet_nil] at h
  | cons p r ih =>
    rw [alGet_cons] at h
    unfold alPut
    split
    · rfl
    · rename_i hk
      rw [if_neg hk] at h
      simp [ih h]

/-! ### Where it lies -/

/-- An area and the place of its bytes. -/
structure Ar where
  data : List UInt8
  safe : Int
  ao : Option Addr
  cap : Nat
def Ar.val (e : Ar) : Value := .agg #[.slice e.ao e.data.length e.cap, .int .i64 e.safe]
def Ar.abs (e : Ar) : AreaP := ⟨e.data, e.safe⟩
abbrev ArM := List (ByteArray × Ar)
def mapV (M : ArM) : List (ByteArray × Value) := M.map fun x => (x.1, x.2.val)
def absL (M : ArM) : Areas := M.map fun x => (x.1, x.2.abs)
structure DR where
  b : Nat
  G : ByteArray → Nat → Prop
  M : ArM
def zArea : Value := .agg #[.slice none 0 0, .int .i64 0]
def S3 (i : Nat) (c : Nat) : Prop := i < c ∧ c ≤ i + 3

structure DskAt (col : Nat → Nat) (i : Nat) (w : World) (p : Nat) (s : DS) (r : DR) : Prop where
  box : w.heap[p]? = some (.cells #[.map (some r.b), .int .i64 s.room, .int .i64 s.steps, .int .i64 s.fuse, .bool s.down] 122 (0, 0))
  pc : col p = i + 1
  map : MapIs encS w r.b (mapV r.M)
  bc : col r.b = i + 2
  abs : s.areas = absL r.M
  own : ∀ x ∈ r.M, Own (r.G x.1) w 5 1 x.2.ao x.2.data.length x.2.cap (bv x.2.data)
  none_ : ∀ k, alGet k r.M = none → ∀ j, ¬ r.G k j
  disj : ∀ a c j, r.G a j → r.G c j → a = c
  gcol : ∀ a j, r.G a j → col j = i + 3
theorem DskAt.beside {col : Nat → Nat} {i : Nat} {w w' : World} {p : Nat} {s : DS} {r : DR} (h : DskAt col i w p s r) {S : Nat → Prop} (k : Kp (fun j => S (col j)) w w') (hd : ∀ c, S3 i c → ¬ S c) : DskAt col i w' p s r :=
  ⟨k.heap h.box (fun c => hd _ (by rw [h.pc]; unfold S3; omega) c), h.pc, h.map.kp k (fun c => hd _ (by rw [h.bc]; unfold S3; omega) c), h.bc, h.abs,
    fun x hx => (h.own x hx).kp k (fun j hj c => hd _ (by rw [h.gcol _ j hj]; unfold S3; omega) c), h.none_, h.disj, h.gcol⟩
theorem DskAt.keep {col : Nat → Nat} {i : Nat} {w w' : World} {p : Nat} {s : DS} {r : DR} (h : DskAt col i w p s r) (k : Kp Noone w w') : DskAt col i w' p s r :=
  h.beside (S := fun _ => False) (k.mono (fun _ _ c => c.elim)) (fun _ _ c => c)
theorem DskAt.lt {col : Nat → Nat} {i : Nat} {w : World} {p : Nat} {s : DS} {r : DR} (h : DskAt col i w p s r) : p < w.heap.size := (Array.getElem?_eq_some_iff.1 h.box).1
theorem DskAt.recol {B : Nat} {col col' : Nat → Nat} {i : Nat} {w : World} {p : Nat} {s : DS} {r : DR} (h : DskAt col i w p s r) (hc : Cols B w col) (e : ∀ j, j < w.heap.size → col' j = col j) : DskAt col' i w p s r :=
  ⟨h.box, (e _ h.lt).trans h.pc, h.map, (e _ h.map.lt).trans h.bc, h.abs, h.own, h.none_, h.disj, fun a j hj => by
    have h1 := h.gcol a j hj
    have h2 := hc j (by omega)
    rw [e j h2.2, h1]⟩
theorem cells_five {w : World} {p e : Nat} {c0 c1 c2 c3 c4 : Value} (h : w.heap[p]? = some (.cells #[c0, c1, c2, c3, c4] e (0, 0))) :
    (w.cell? ⟨p, 0, none⟩ = some c0 ∧ w.cell? ⟨p, 1, none⟩ = some c1 ∧ w.cell? ⟨p, 2, none⟩ = some c2 ∧ w.cell? ⟨p, 3, none⟩ = some c3 ∧ w.cell? ⟨p, 4, none⟩ = some c4) ∧ ∀ i, w.frozen? ⟨p, i, none⟩ = false := by
  refine ⟨⟨?_, ?_, ?_, ?_, ?_⟩, fun i => by simp [World.frozen?, h]⟩
  · rw [cell_of_row w p 0 _ e (0, 0) h]; rfl
  · rw [cell_of_row w p 1 _ e (0, 0) h]; rfl
  · rw [cell_of_row w p 2 _ e (0, 0) h]; rfl
  · rw [cell_of_row w p 3 _ e (0, 0) h]; rfl
  · rw [cell_of_row w p 4 _ e (0, 0) h]; rfl

theorem get_mapV (k : ByteArray) (M : ArM) : alGet k (mapV M) = (alGet k M).map Ar.val := alGet_map Ar.val k M
theorem get_absL (k : ByteArray) (M : ArM) : alGet k (absL M) = (alGet k M).map Ar.abs := alGet_map Ar.abs k M
/-- What a look-up finds. -/
theorem DskAt.look {col : Nat → Nat} {i : Nat} {w : World} {p : Nat} {s : DS} {r : DR} (h : DskAt col i w p s r) (k : ByteArray) :
    ∃ ao cap, (alGet k (mapV r.M)).getD zArea = .agg #[.slice ao (get0 k s.areas).data.length cap, .int .i64 (get0 k s.areas).safe] ∧ Own (r.G k) w 5 1 ao (get0 k s.areas).data.length cap (bv (get0 k s.areas).data) ∧ (alGet k (mapV r.M)).isSome = (alGet k s.areas).isSome := by
  unfold get0
  rw [h.abs, get_mapV, get_absL]
  cases hg : alGet k r.M with
  | none => exact ⟨none, 0, rfl, Own.nil _ _ _ _ _, rfl⟩
  | some e => exact ⟨e.ao, e.cap, rfl, h.own (k, e) (alGet_mem hg), rfl⟩
theorem DskAt.length {col : Nat → Nat} {i : Nat} {w : World} {p : Nat} {s : DS} {r : DR} (h : DskAt col i w p s r) : (mapV r.M).length = s.areas.length := by
  rw [h.abs]; unfold mapV absL; simp
theorem mem_alPut' {V : Type} {k : ByteArray} {a : V} {l : List (ByteArray × V)} (hn : (l.map (·.1)).Nodup) {x : ByteArray × V} (h : x ∈ alPut k a l) : x = (k, a) ∨ (x ∈ l ∧ x.1 ≠ k) := by
  have h1 := alGet_of_mem (alPut_keys k a l hn) (k := x.1) (v := x.2) h
  rw [alGet_put] at h1
  by_cases c : x.1 = k
  · rw [if_pos c] at h1
    left
    rw [← c]
    injection h1 with h1
    rw [h1]
  · rw [if_neg c] at h1
    exact Or.inr ⟨alGet_mem h1, c⟩
theorem mem_alDel' {V : Type} {k : ByteArray} {l : List (ByteArray × V)} (hn : (l.map (·.1)).Nodup) {x : ByteArray × V} (h : x ∈ alDel k l) : x ∈ l ∧ x.1 ≠ k := by
  rw [alDel_eq k l hn, List.mem_filter] at h
  refine ⟨h.1, fun c => ?_⟩
  have := h.2
  simp [c] at this
theorem DskAt.mkeys {col : Nat → Nat} {i : Nat} {w : World} {p : Nat} {s : DS} {r : DR} (h : DskAt col i w p s r) : (r.M.map (·.1)).Nodup := by
  have := h.map.keys
  unfold mapV at this
  simpa [List.map_map, Function.comp_def] using this

/-- An area's bytes (and perhaps new blocks) were written, then the map took the area. -/
theorem DskAt.putX {B : Nat} {col : Nat → Nat} {i : Nat} {w w2 w3 : World} {p : Nat} {s : DS} {r : DR} (h : DskAt col i w p s r) (hc : Cols B w col) (hB : B ≤ w.heap.size) (k : ByteArray) (e : Ar) {F : Nat → Prop}
    {X : Nat → Prop} (hX : ∀ j, X j → col j = 0) (k12 : Kp (fun j => r.G k j ∨ X j) w w2) (ho : Own F w2 5 1 e.ao e.data.length e.cap (bv e.data)) (hF : ∀ j, F j → r.G k j ∨ (w.heap.size ≤ j ∧ j < w2.heap.size) ∨ (col j = i + 3 ∧ ∀ a, ¬ r.G a j))
    (m : MapTo encS w2 w3 r.b (alPut k e.val (mapV r.M))) :
    ∃ col' r', DskAt col' i w3 p (putF s k e.abs) r' ∧ Cols B w3 col' ∧ (∀ j, j < w.heap.size → col' j = col j) ∧ (∀ j, w.heap.size ≤ j → col' j ≠ 0 → S3 i (col' j)) ∧ Kp (fun j => S3 i (col j) ∨ X j) w w3 := by
  have s12 := k12.size
  have s23 := m.2.size
  have hold : ∀ j, j < w.heap.size → paint col w w2 (i + 3) j = col j := fun j hj => by unfold paint; rw [if_neg (by omega)]
  have hnew : ∀ j, w.heap.size ≤ j → j < w2.heap.size → paint col w w2 (i + 3) j = i + 3 := fun j a b => by unfold paint; rw [if_pos ⟨a, b⟩]
  have hlt : ∀ a j, r.G a j → j < w.heap.size := fun a j hj => (hc j (by have := h.gcol a j hj; omega)).2
  have hpb : p ≠ r.b := fun c => by have h1 := h.pc; have h2 := h.bc; rw [c] at h1; omega
  have hGb : ∀ a j, r.G a j → j ≠ r.b := fun a j hj c => by have h1 := h.gcol a j hj; have h2 := h.bc; rw [c] at h1; omega
  have hGp : ∀ j, r.G k j → j ≠ p := fun j hj c => by have h1 := h.gcol k j hj; have h2 := h.pc; rw [c] at h1; omega
  have hbl := h.map.lt
  have k13 : Kp (fun j => (r.G k j ∨ X j) ∨ j = r.b) w w3 := (k12.mono (fun j _ c => Or.inl c)).trans' m.2 (fun j _ c => Or.inr c)
  have hXG : ∀ a j, r.G a j → ¬ X j := fun a j hj c => by have h1 := h.gcol a j hj; have h2 := hX j c; omega
  refine ⟨paint col w w2 (i + 3), ⟨r.b, fun a j => if a = k then (r.G k j ∨ F j) else r.G a j, alPut k e r.M⟩, ⟨?_, ?_, ?_, ?_, ?_, ?_, ?_, ?_, ?_⟩, ?_, hold, ?_, ?_⟩
  · exact k13.heap h.box (fun c => by
      rcases c with (c | c) | c
      · exact hGp _ c rfl
      · have h1 := h.pc; have h2 := hX _ c; omega
      · exact hpb c)
  · rw [hold _ h.lt]; exact h.pc
  · have e1 : mapV (alPut k e r.M) = alPut k e.val (mapV r.M) := (alPut_map Ar.val k e r.M).symm
    show MapIs encS w3 r.b (mapV (alPut k e r.M))
    rw [e1]; exact m.1
  · rw [hold _ hbl]; exact h.bc
  · show alPut k e.abs s.areas = absL (alPut k e r.M)
    rw [h.abs]; exact alPut_map Ar.abs k e r.M
  · intro x hx
    rcases mem_alPut' h.mkeys hx with rfl | ⟨hx, hxk⟩
    · simp only [if_true]
      refine (ho.mono (fun j _ c => Or.inr c)).kp m.2 (fun j c d => ?_)
      have c : r.G k j ∨ (w.heap.size ≤ j ∧ j < w2.heap.size) ∨ (col j = i + 3 ∧ ∀ a, ¬ r.G a j) := c.elim Or.inl (hF j)
      rcases c with c | c | c
      · exact hGb _ _ c d
      · omega
      · have := h.bc; rw [← d] at this; omega
    · simp only [if_neg hxk]
      refine (h.own x hx).kp k13 (fun j c d => ?_)
      rcases d with (d | d) | d
      · exact hxk (h.disj _ _ _ c d)
      · exact hXG _ _ c d
      · exact hGb _ _ c d
  · intro a ha j hj
    rw [alGet_put] at ha
    by_cases c : a = k
    · rw [if_pos c] at ha; cases ha
    · rw [if_neg c] at ha
      simp only [if_neg c] at hj
      exact h.none_ a ha j hj
  · intro a c j ha hc'
    by_cases e1 : a = k <;> by_cases e2 : c = k
    · rw [e1, e2]
    · simp only [if_pos e1, if_neg e2] at ha hc'
      have := hlt _ _ hc'
      rcases ha.elim Or.inl (hF j) with ha | ha | ha
      · rw [e1]; exact h.disj _ _ _ ha hc'
      · omega
      · exact absurd hc' (ha.2 _)
    · simp only [if_neg e1, if_pos e2] at ha hc'
      have := hlt _ _ ha
      rcases hc'.elim Or.inl (hF j) with hc' | hc' | hc'
      · rw [e2]; exact h.disj _ _ _ ha hc'
      · omega
      · exact absurd ha (hc'.2 _)
    · simp only [if_neg e1, if_neg e2] at ha hc'
      exact h.disj _ _ _ ha hc'
  · intro a j hj
    by_cases e1 : a = k
    · simp only [if_pos e1] at hj
      rcases hj.elim Or.inl (hF j) with hj | hj | hj
      · rw [hold _ (hlt _ _ hj)]; exact h.gcol _ _ hj
      · exact hnew j hj.1 hj.2
      · rw [hold _ (hc j (by omega)).2]; exact hj.1
    · simp only [if_neg e1] at hj
      rw [hold _ (hlt _ _ hj)]; exact h.gcol _ _ hj
  · exact (hc.paint hB s12 (i + 3)).keep s23
  · intro j hj hn
    by_cases c : j < w2.heap.size
    · rw [hnew j hj c]; unfold S3; omega
    · exfalso
      apply hn
      unfold paint
      rw [if_neg (fun d => c d.2)]
      exact Classical.byContradiction fun d => by have := (hc j d).2; omega
  · refine k13.mono (fun j hj c => ?_)
    rcases c with (c | c) | c
    · left; rw [h.gcol _ _ c]; unfold S3; omega
    · exact Or.inr c
    · left; rw [c, h.bc]; unfold S3; omega

theorem DskAt.put {B : Nat} {col : Nat → Nat} {i : Nat} {w w2 w3 : World} {p : Nat} {s : DS} {r : DR} (h : DskAt col i w p s r) (hc : Cols B w col) (hB : B ≤ w.heap.size) (k : ByteArray) (e : Ar) {F : Nat → Prop}
    (k12 : Kp (r.G k) w w2) (ho : Own F w2 5 1 e.ao e.data.length e.cap (bv e.data)) (hF : ∀ j, F j → r.G k j ∨ (w.heap.size ≤ j ∧ j < w2.heap.size))
    (m : MapTo encS w2 w3 r.b (alPut k e.val (mapV r.M))) :
    ∃ col' r', DskAt col' i w3 p (putF s k e.abs) r' ∧ Cols B w3 col' ∧ (∀ j, j < w.heap.size → col' j = col j) ∧ (∀ j, w.heap.size ≤ j → col' j ≠ 0 → S3 i (col' j)) ∧ Kp (fun j => S3 i (col j)) w w3 := by
  obtain ⟨c, r', h1, h2, h3, h4, h5⟩ := h.putX hc hB k e (X := Noone) (fun _ c => c.elim) (k12.mono (fun j _ c => Or.inl c)) ho (fun j c => (hF j c).elim Or.inl (fun c => Or.inr (Or.inl c))) m
  exact ⟨c, r', h1, h2, h3, h4, h5.mono (fun j _ c => c.elim id (fun c => c.elim))⟩

/-- An area went. -/
theorem DskAt.del {col : Nat → Nat} {i : Nat} {w w3 : World} {p : Nat} {s : DS} {r : DR} (h : DskAt col i w p s r) (k : ByteArray) (m : MapTo encS w w3 r.b (alDel k (mapV r.M))) :
    DskAt col i w3 p { s with areas := alDel k s.areas } ⟨r.b, fun a j => a ≠ k ∧ r.G a j, alDel k r.M⟩ := by
  have hpb : p ≠ r.b := fun c => by have h1 := h.pc; have h2 := h.bc; rw [c] at h1; omega
  have hGb : ∀ a j, r.G a j → j ≠ r.b := fun a j hj c => by have h1 := h.gcol a j hj; have h2 := h.bc; rw [c] at h1; omega
  refine ⟨m.2.heap h.box (fun c => hpb c), h.pc, ?_, h.bc, ?_, ?_, ?_, ?_, ?_⟩
  · have e1 : mapV (alDel k r.M) = alDel k (mapV r.M) := (alDel_map Ar.val k r.M).symm
    show MapIs encS w3 r.b (mapV (alDel k r.M))
    rw [e1]; exact m.1
  · show alDel k s.areas = absL (alDel k r.M)
    rw [h.abs]; exact alDel_map Ar.abs k r.M
  · intro x hx
    obtain ⟨h1, h2⟩ := mem_alDel' h.mkeys hx
    exact ((h.own x h1).kp m.2 (fun j c d => hGb _ _ c d)).mono (fun j _ c => ⟨h2, c⟩)
  · intro a ha j hj
    rw [alGet_del _ _ _ h.mkeys, if_neg hj.1] at ha
    exact h.none_ a ha j hj.2
  · exact fun a c j ha hc => h.disj a c j ha.2 hc.2
  · exact fun a j hj => h.gcol a j hj.2

end Go.Proofs.YtgbgbokcohfnpaaGreat

/-
  THE WALKS of a disk's small functions: New, bars, step, done, safe, Clone.
-/
namespace Go.Proofs.YtgbgbokcohfnpaaGreat
open Go.RowKit

theorem keyS : KeyKind Tryz.prog 9 encS := keyKind_string Tryz.underlying9
theorem encS_inj : ∀ a c : ByteArray, encS a = encS c → a = c := fun a c h => by injection h
theorem zero_area (w : World) : (zeroValue 147).run Tryz.prog w = .ok zArea w := by kernel_rfl

theorem heap_set_cell {w : World} {p e n : Nat} {cs : Array Value} {u : Value} (h : w.heap[p]? = some (.cells cs e (0, 0))) : (w.setCell ⟨p, n, none⟩ u).heap[p]? = some (.cells (cs.setIfInBounds n u) e (0, 0)) := by
  simp [World.setCell, Array.getElem?_modify, h]

theorem DskAt.lookup {col : Nat → Nat} {i : Nat} {w : World} {p : Nat} {s : DS} {r : DR} (h : DskAt col i w p s r) (k : ByteArray) (c : Bool) :
    ∃ ao cap, Own (r.G k) w 5 1 ao (get0 k s.areas).data.length cap (bv (get0 k s.areas).data) ∧
      (Instr.lookup 120 (.map (some r.b)) (.string k) c).run Tryz.prog w = .ok (if c then .tuple #[.agg #[.slice ao (get0 k s.areas).data.length cap, .int .i64 (get0 k s.areas).safe], .bool (alGet k s.areas).isSome] else .agg #[.slice ao (get0 k s.areas).data.length cap, .int .i64 (get0 k s.areas).safe]) w := by
  obtain ⟨ao, cap, h1, h2, h3⟩ := h.look k
  refine ⟨ao, cap, h2, ?_⟩
  have hl := h.map.lookup (P := Tryz.prog) keyS Tryz.underlying120 (zero_area w) k c
  rw [h1, h3] at hl
  exact hl

set_option maxHeartbeats 1000000 in
set_option maxRecDepth 100000 in
theorem bars_at (col : Nat → Nat) (i p : Nat) (s : DS) (r : DR) (k : ByteArray) (there : Bool) (w : World) (h : DskAt col i w p s r) (hk : k.size ≤ 9223372036854775807) :
    Calls Tryz.prog 106 #[.pointer (some ⟨p, 0, none⟩), .string k, .bool there] w fun e w' => e = .returned (.int .i64 (barsF s k there : Int)) ∧ Kp Noone w w' := by
  obtain ⟨ao, cap, -, hlk⟩ := h.lookup k true
  simp only [if_true] at hlk
  obtain ⟨⟨q0, -, -, -, -⟩, -⟩ := cells_five h.box
  have q4 := fun o : Obj => (cells_five (((Kp.refl Noone w).alloc o).heap h.box id)).1.2.2.2.2
  obtain ⟨v, hv⟩ : ∃ v, Hid (barsF s k there = v) := ⟨_, Lib.hid rfl⟩
  rw [hv.out]
  have hv2 := hv.out
  unfold barsF nameOk at hv2
  have hno : (alGet k s.areas = none) ↔ (alGet k s.areas).isSome = false := by cases alGet k s.areas <;> simp
  simp only [hno] at hv2
  generalize (alGet k s.areas).isSome = has at *
  generalize (get0 k s.areas).data.length = dn at *
  generalize (get0 k s.areas).safe = sf at *
  have H := Lib.hid h
  clear hno h hv
  cases hd : s.down with
  | true =>
    rw [hd] at hv2 q4
    rw [if_pos rfl] at hv2
    subst hv2
    go_enter Tryz.func106, Tryz.ntmps106
    go_wp2_with fail
    go_ret
    exact ⟨rfl, (Kp.refl _ _).alloc _⟩
  | false =>
    rw [hd] at hv2 q4
    rw [if_neg (by simp)] at hv2
    have HV := Lib.hid hv2
    clear hv2
    go_enter Tryz.func106, Tryz.ntmps106
    go_wp2_with fail
    refine (right_any k _ hk).mono ?_
    rintro e w2 ⟨rfl, k2⟩
    have K2 := ((Kp.refl Noone w).alloc _).trans k2
    clear k2
    cases hr : rightL k.data.toList with
    | false =>
      have HV2 := HV.out
      rw [hr, if_pos rfl] at HV2
      subst HV2
      go_wp2_with fail
      go_ret
      exact ⟨rfl, K2⟩
    | true =>
      have HV2 := HV.out
      rw [hr, if_neg (by simp)] at HV2
      cases there with
      | false =>
        rw [if_neg (by simp)] at HV2
        subst HV2
        go_wp2_with fail
        go_ret
        exact ⟨rfl, K2⟩
      | true =>
        cases has with
        | false =>
          rw [if_pos (by simp)] at HV2
          subst HV2
          go_wp2_with fail
          go_ret
          exact ⟨rfl, K2⟩
        | true =>
          rw [if_neg (by simp)] at HV2
          subst HV2
          go_wp2_with fail
          go_ret
          exact ⟨rfl, K2⟩

theorem DskAt.setBox {col : Nat → Nat} {i : Nat} {w w' : World} {p : Nat} {s s' : DS} {r : DR} (h : DskAt col i w p s r) (k : Kp (fun j => j = p) w w') (he : s'.areas = s.areas)
    (hb : w'.heap[p]? = some (.cells #[.map (some r.b), .int .i64 s'.room, .int .i64 s'.steps, .int .i64 s'.fuse, .bool s'.down] 122 (0, 0))) : DskAt col i w' p s' r := by
  have hpb : r.b ≠ p := fun c => by have h1 := h.pc; have h2 := h.bc; rw [c] at h2; omega
  refine ⟨hb, h.pc, h.map.kp k hpb, h.bc, he.trans h.abs, fun x hx => (h.own x hx).kp k (fun j hj c => ?_), h.none_, h.disj, h.gcol⟩
  have h1 := h.gcol _ j hj
  have h2 := h.pc
  rw [c] at h1
  omega

set_option maxHeartbeats 1000000 in
set_option maxRecDepth 100000 in
theorem step_at (col : Nat → Nat) (i p : Nat) (s : DS) (r : DR) (w : World) (h : DskAt col i w p s r) (hf : 0 ≤ s.fuse ∧ s.fuse ≤ 9223372036854775807) (hs : 0 ≤ s.steps ∧ s.steps < 4611686018427387904) :
    Calls Tryz.prog 107 #[.pointer (some ⟨p, 0, none⟩)] w fun e w' => e = .returned (.bool (stepF s).2) ∧ DskAt col i w' p (stepF s).1 r ∧ Kp (fun j => j = p) w w' := by
  obtain ⟨⟨q0, q1, q2, q3, q4⟩, qf⟩ := cells_five h.box
  have H := Lib.hid h
  have hb := Lib.hid h.box
  unfold stepF
  clear h
  by_cases c : s.fuse = 1
  · rw [if_pos c]
    rw [c] at q3
    go_enter Tryz.func107, Tryz.ntmps107
    go_wp2_with fail
    go_ret
    have k2 : Kp (fun j => j = p) w ((w.setCell ⟨p, 3, none⟩ (.int .i64 0)).setCell ⟨p, 4, none⟩ (.bool true)) := ((Kp.refl (fun j => j = p) w).setCell (fun _ => rfl) _).setCell (fun _ => rfl) _
    refine ⟨rfl, H.out.setBox k2 rfl ?_, k2⟩
    exact (heap_set_cell (heap_set_cell hb.out)).trans (by simp)
  · rw [if_neg c]
    have e1 : (s.fuse == 1) = false := by simpa using c
    have hw1 : IntKind.i64.wrap (s.fuse - 1) = s.fuse - 1 := IntWalk.i64_in _ (by omega)
    have hw2 : IntKind.i64.wrap (s.steps + 1) = s.steps + 1 := IntWalk.i64_in _ (by omega)
    go_enter Tryz.func107, Tryz.ntmps107
    go_wp2_with fail
    all_goals (
      go_ret
      have k2 : ∀ a b, Kp (fun j => j = p) w ((w.setCell ⟨p, 3, none⟩ a).setCell ⟨p, 2, none⟩ b) := fun _ _ => ((Kp.refl (fun j => j = p) w).setCell (fun _ => rfl) _).setCell (fun _ => rfl) _
      refine ⟨rfl, H.out.setBox (k2 _ _) rfl ?_, k2 _ _⟩
      exact (heap_set_cell (heap_set_cell hb.out)).trans (by simp <;> omega))

set_option maxHeartbeats 1000000 in
set_option maxRecDepth 100000 in
theorem done_at (col : Nat → Nat) (i p : Nat) (s : DS) (r : DR) (w : World) (h : DskAt col i w p s r) (hf : 0 ≤ s.fuse ∧ s.fuse ≤ 9223372036854775807) (hs : 0 ≤ s.steps ∧ s.steps < 4611686018427387904) :
    Calls Tryz.prog 154 #[.pointer (some ⟨p, 0, none⟩)] w fun e w' => e = .returned (.int .i64 (doneN (stepF s).2 : Int)) ∧ DskAt col i w' p (stepF s).1 r ∧ Kp (fun j => j = p) w w' := by
  go_enter Tryz.func154, Tryz.ntmps154
  go_wp2_with fail
  refine (step_at col i p s r w h hf hs).mono ?_
  rintro e w1 ⟨rfl, h1, k1⟩
  cases hx : (stepF s).2 with
  | true =>
    go_wp2_with fail
    go_ret
    exact ⟨by rw [hx]; rfl, h1, k1⟩
  | false =>
    go_wp2_with fail
    go_ret
    exact ⟨by rw [hx]; rfl, h1, k1⟩

set_option maxHeartbeats 1000000 in
set_option maxRecDepth 100000 in
theorem clone_any (ao : Option Addr) (n cap : Nat) (l : List UInt8) (w : World) (hb : BS w ao n cap l) (hn : n ≤ 140737488355328) :
    Calls Tryz.prog 68 #[.slice ao n cap] w fun e w' => ∃ bo c, e = .returned (.slice bo n c) ∧ Own (fun j => w.heap.size ≤ j) w' 5 1 bo n c (bv l) ∧ Kp Noone w w' := by
  obtain ⟨j0, hj, hj0, hj1, hj2⟩ := info_parts info_u8
  have q22 : ∀ (w : World) (a : Option Addr) (n c n' c' : Nat), (binOp .eql 44 (.slice a n c) (.slice none n' c')).run Tryz.prog w = .ok (.bool a.isNone) w := fun w a n c n' c' => Lib.run_eql_slice_nil w _ _ a n c n' c' Tryz.underlying44
  cases ao with
  | none =>
    have hl : n = 0 := by
      rcases hb.row with h0 | ⟨b, off, h0, -⟩
      · have h1 := congrArg List.length h0
        have h2 := hb.len
        simp [bv] at h1
        rw [h1] at h2; simpa using h2.symm
      · cases h0
    subst hl
    have hl0 : l = [] := List.eq_nil_of_length_eq_zero hb.len
    subst hl0
    have hcm := hb.le
    go_enter Tryz.func68, Tryz.ntmps68
    go_wp2_with fail
    go_ret
    exact ⟨_, _, rfl, Own.nil _ _ _ _ _, Kp.refl _ _⟩
  | some a =>
    have kA : Kp Noone w (w.alloc (.cells #[] 5)) := (Kp.refl _ _).alloc _
    have hrow := (hb.keep kA).row
    have hln : (bv l).length = n * 1 := by rw [length_bv, hb.len, Nat.mul_one]
    have hown : Own (fun j => w.heap.size ≤ j) (w.alloc (.cells #[] 5)) 5 1 (some ⟨w.heap.size, 0, none⟩) 0 0 [] := Own.fresh (Nat.le_refl _) (heap_alloc_new w (.cells #[] 5)) rfl (by simp [maxLen])
    have hsz := kA.size
    clear hb
    go_enter Tryz.func68, Tryz.ntmps68
    go_wp2_with (at_builtin; refine wpList_append_gen _ rfl (.tmp 5) (.tmp 6) 44 rfl 5 j0 (.int .u8 0) 1 1 Tryz.underlying44 hj hj0 hj1 hj2 rfl (some ⟨w.heap.size, 0, none⟩) 0 0 rfl (some a) n cap rfl _ [] hown (bv l) hln hrow (bv_one _) (by omega) (by unfold maxLen; omega) ?_)
    intro bo c w2 ho k2
    have K : Kp Noone w w2 := kA.fin k2 (fun j c => Or.inr c)
    have ho2 : Own (fun j => w.heap.size ≤ j) w2 5 1 bo n c (bv l) := Own.mono ho (fun j _ d => by rcases d with d | d; exact d; omega)
    clear hown hrow hln kA ho k2
    go_wp2_with fail
    go_ret
    exact ⟨bo, c, rfl, ho2, K⟩

/-! ### The sum -/

def safeOf : Value → Int
  | .agg #[_, .int _ n] => n
  | _ => 0
def sumV : List (ByteArray × Value) → Int
  | [] => 0
  | p :: r => safeOf p.2 + sumV r
theorem sumV_map (M : ArM) : sumV (mapV M) = sumF (absL M) := by
  induction M with
  | nil => rfl
  | cons p r ih => show safeOf p.2.val + sumV (mapV r) = p.2.safe + sumF (absL r); rw [ih]; rfl
theorem sumV_del (k : ByteArray) (v : Value) (l : List (ByteArray × Value)) (hn : (l.map (·.1)).Nodup) (h : (k, v) ∈ l) : sumV (alDel k l) = sumV l - safeOf v := by
  induction l with
  | nil => simp at h
  | cons p r ih =>
    rw [List.map_cons, List.nodup_cons] at hn
    unfold alDel
    rcases List.mem_cons.1 h with h | h
    · subst h
      rw [if_pos rfl]
      show sumV r = safeOf v + sumV r - safeOf v
      omega
    · have hk : k ≠ p.1 := fun c => hn.1 (by rw [← c]; exact List.mem_map_of_mem (f := (·.1)) h)
      rw [if_neg hk]
      unfold sumV
      rw [ih hn.2 h]
      omega
theorem sumV_nonneg : ∀ (l : List (ByteArray × Value)), (∀ x ∈ l, 0 ≤ safeOf x.2) → 0 ≤ sumV l
  | [], _ => by simp [sumV]
  | p :: r, h => by
    have h1 := h p (by simp)
    have h2 := sumV_nonneg r (fun x hx => h x (by simp [hx]))
    unfold sumV
    omega
theorem mem_del_of {V : Type} {k : ByteArray} {l : List (ByteArray × V)} {x : ByteArray × V} (h : x ∈ alDel k l) : x ∈ l := by
  induction l with
  | nil => simp [alDel] at h
  | cons p r ih =>
    unfold alDel at h
    split at h
    · exact List.mem_cons_of_mem _ h
    · rcases List.mem_cons.1 h with h | h
      · rw [h]; simp
      · exact List.mem_cons_of_mem _ (ih h)
theorem alDelS_lt (k : ByteArray) (l : List (ByteArray × Value)) (h : k ∈ l.map (·.1)) : (alDel k l).length < l.length := by
  induction l with
  | nil => simp at h
  | cons p r ih =>
    unfold alDel
    by_cases hk : k = p.1
    · rw [if_pos hk]; simp
    · rw [if_neg hk]
      rw [List.map_cons, List.mem_cons] at h
      rcases h with h | h
      · exact absurd h hk
      · have := ih h; simp; omega
theorem mem_mapV {x : ByteArray × Value} {M : ArM} (h : x ∈ mapV M) : ∃ e : Ar, (x.1, e) ∈ M ∧ x.2 = e.val := by
  unfold mapV at h
  obtain ⟨y, hy, rfl⟩ := List.mem_map.1 h
  exact ⟨y.2, hy, rfl⟩

set_option maxHeartbeats 1000000 in
set_option maxRecDepth 100000 in
theorem safe_at (col : Nat → Nat) (i p : Nat) (s : DS) (r : DR) (w : World) (h : DskAt col i w p s r) (hok : DOk s) :
    Calls Tryz.prog 67 #[.pointer (some ⟨p, 0, none⟩)] w fun e w' => e = .returned (.int .i64 (sumF s.areas)) ∧ Kp Noone w w' := by
  obtain ⟨⟨q0, -, -, -, -⟩, -⟩ := cells_five h.box
  have hM := h.map
  have hsub : ∀ x ∈ mapV r.M, ∃ (ao : Option Addr) (n c : Nat) (f : Int), x.2 = .agg #[.slice ao n c, .int .i64 f] ∧ 0 ≤ f := fun x hx => by
    obtain ⟨e, he, hv⟩ := mem_mapV hx
    refine ⟨e.ao, e.data.length, e.cap, e.safe, hv, ?_⟩
    have : (x.1, e.abs) ∈ s.areas := by rw [h.abs]; exact List.mem_map_of_mem (f := fun x : ByteArray × Ar => (x.1, x.2.abs)) he
    exact (hok.each _ this).1
  have hsum : sumV (mapV r.M) = sumF s.areas := by rw [sumV_map, h.abs]
  have hbd := hok.sum
  rw [← hsum] at hbd ⊢
  generalize mapV r.M = L at *
  generalize r.b = b at *
  have HS := Lib.hid hsub
  have HBD := Lib.hid hbd
  clear h hok hsub hbd hsum
  go_enter Tryz.func67, Tryz.ntmps67
  go_wp2_with (at_range; refine wpList_range_is _ rfl _ 120 rfl 147 Tryz.underlying120 b L rfl hM ?_)
  intro w2 hit k2 hsz
  generalize hr : w.heap.size = q at *
  have hq := Lib.hid hr
  clear hr hM q0
  go_wp2_with fail
  go_loopg [3] L.length (fun g v wr => ∃ (todo : List (ByteArray × Value)) (acc : Int), g = todo.length ∧ v = .int .i64 acc ∧ 0 ≤ acc ∧ acc + sumV todo = sumV L ∧ (∀ x ∈ todo, x ∈ L) ∧ Iter encS wr q b L todo ∧ Kp Noone w wr)
  case atStart => exact ⟨L, 0, rfl, rfl, by omega, by omega, fun _ h => h, hit, k2⟩
  case round =>
    obtain ⟨todo, acc, hg, rfl, hacc, hsum, hsub, hitr, kr⟩ := hrel
    have HG := Lib.hid hg
    have HSUM := Lib.hid hsum
    have HSUB := Lib.hid hsub
    clear hg hit k2 hsum hsub
    go_wp2_with (at_next; refine wpList_next_is _ rfl _ rfl encS_inj q b L todo rfl hitr ?_ ?_)
    · intro hdone
      have HD : Hid (acc = sumV L) := Lib.hid (by have := HSUM.out; rw [hdone] at this; simpa [sumV] using this)
      clear hdone hitr
      go_wp2_with fail
      go_ret
      exact ⟨by rw [← HD.out]; rfl, kr⟩
    · intro k v w3 hmem hit3 k3 hsz3 hen
      have hnd := hitr.nodup encS_inj
      have hkm : k ∈ todo.map (·.1) := List.mem_map_of_mem (f := (·.1)) hmem
      have HLT := Lib.hid (alDelS_lt k todo hkm)
      obtain ⟨ao, n, c, f, hv, hf0⟩ := HS.out _ (HSUB.out _ hmem)
      simp only [] at hv
      subst hv
      have hdel := sumV_del k _ todo hnd hmem
      have hrest : 0 ≤ sumV (alDel k todo) := sumV_nonneg _ (fun x hx => by
        obtain ⟨_, _, _, f', hx', hf'⟩ := HS.out _ (HSUB.out _ (mem_del_of hx))
        rw [hx']; exact hf')
      have hs2 : acc + f + sumV (alDel k todo) = sumV L := by
        have := HSUM.out
        rw [hdel]
        show acc + f + (sumV todo - f) = _
        omega
      have hw1 : IntKind.i64.wrap (acc + f) = acc + f := IntWalk.i64_in _ (by have := HBD.out; omega)
      have HS2 := Lib.hid hs2
      have HSUB2 := Lib.hid (fun x hx => HSUB.out x (mem_del_of hx) : ∀ x ∈ alDel k todo, x ∈ L)
      have kr3 : Kp Noone w w3 := kr.fin k3 (fun j c => Or.inr (by subst c; have := hq.out; omega))
      have hia := fun o : Obj => hit3.kp ((Kp.refl Noone w3).alloc o) id id
      have hka := fun o : Obj => kr3.alloc o
      unfold encS at hen
      clear hmem hnd hkm hdel hrest hs2 hitr kr k3 hsz3 hit3 kr3
      go_wp2_with fail
      go_roundg (alDel k todo).length
      case measure => rw [HG.out]; exact HLT.out
      case rel => exact ⟨_, acc + f, rfl, rfl, by omega, HS2.out, HSUB2.out, hia _, hka _⟩

/-! ### New -/

def NewTo (B : Nat) (col : Nat → Nat) (i : Nat) (w : World) (s : DS) (p : Nat) (w' : World) : Prop :=
  ∃ col' r, Kp Noone w w' ∧ Cols B w' col' ∧ (∀ k, k < w.heap.size → col' k = col k) ∧ (∀ k, w.heap.size ≤ k → col' k ≠ 0 → S3 i (col' k)) ∧ DskAt col' i w' p s r
theorem newTo_at (B : Nat) (col : Nat → Nat) (i : Nat) (room : Int) (w : World) (hc : Cols B w col) (hBw : B ≤ w.heap.size) (x : Int) (hx : x = max 0 (min room 4194304)) :
    NewTo B col i w (newF room) (w.heap.size + 1) ((w.alloc (.map #[] 0)).alloc (.cells #[.map (some w.heap.size), .int .i64 x, .int .i64 0, .int .i64 0, .bool false] 122)) := by
  subst hx
  have k1 : Kp Noone w (w.alloc (.map #[] 0)) := (Kp.refl _ _).alloc _
  have k2 : Kp Noone w ((w.alloc (.map #[] 0)).alloc (.cells #[.map (some w.heap.size), .int .i64 (max 0 (min room 4194304)), .int .i64 0, .int .i64 0, .bool false] 122)) := k1.alloc _
  have hs1 : (w.alloc (.map #[] 0)).heap.size = w.heap.size + 1 := by simp
  have hh1 := heap_alloc_new w (.map #[] 0)
  have hh2 := ((Kp.refl Noone (w.alloc (.map #[] 0))).alloc (.cells #[.map (some w.heap.size), .int .i64 (max 0 (min room 4194304)), .int .i64 0, .int .i64 0, .bool false] 122)).heap hh1 id
  have hh3 := heap_alloc_new (w.alloc (.map #[] 0)) (.cells #[.map (some w.heap.size), .int .i64 (max 0 (min room 4194304)), .int .i64 0, .int .i64 0, .bool false] 122)
  rw [hs1] at hh3
  have hs2 := (Array.getElem?_eq_some_iff.1 hh3).1
  refine ⟨fun k => if k = w.heap.size + 1 then i + 1 else if k = w.heap.size then i + 2 else col k, ⟨w.heap.size, fun _ _ => False, []⟩, k2, fun k hk => ?_, fun k hk => ?_, fun k hk hn => ?_, ?_⟩
  · simp only [] at hk
    split at hk
    · omega
    · split at hk
      · omega
      · have := hc k hk; omega
  · simp only []; rw [if_neg (by omega), if_neg (by omega)]
  · unfold S3
    simp only [] at hn ⊢
    split at hn
    · rename_i h; rw [if_pos h]; omega
    · rename_i h
      rw [if_neg h]
      split at hn
      · rename_i h2; rw [if_pos h2]; omega
      · have := hc k hn; omega
  · exact ⟨hh3, by simp, ⟨#[], 0, hh2, ⟨rfl, by simp [mapV], by simp, by simp⟩⟩, by simp, rfl, fun x hx => by simp at hx, fun _ _ _ c => c, fun _ _ _ c => c.elim, fun _ _ c => c.elim⟩

set_option maxHeartbeats 1000000 in
set_option maxRecDepth 100000 in
theorem new_at (B : Nat) (col : Nat → Nat) (i : Nat) (room : Int) (w : World) (hc : Cols B w col) (hBw : B ≤ w.heap.size) :
    Calls Tryz.prog 20 #[.int .i64 room] w fun e w' => ∃ p, e = .returned (.pointer (some ⟨p, 0, none⟩)) ∧ NewTo B col i w (newF room) p w' := by
  have hmm := @run_makeMap Tryz.prog
  have HQ := Lib.hid (newTo_at B col i room w hc hBw)
  clear hc
  go_enter Tryz.func20, Tryz.ntmps20
  go_wp2_with fail
  all_goals (
    go_ret
    exact ⟨w.heap.size + 1, rfl, HQ.out _ (by omega)⟩)

end Go.Proofs.YtgbgbokcohfnpaaGreat

/-
  THE WALK of a disk's names: all of them, sorted.
-/
namespace Go.Proofs.YtgbgbokcohfnpaaGreat
open Go.RowKit Go.Sort

theorem toL_ofL (l : List UInt8) : toL (ofL l) = l := by unfold toL ofL; simp
theorem enc_toL (k : ByteArray) : encStr (toL k) = .string k := by unfold toL; simp
theorem sortN_toL (ks : List ByteArray) : (sortN ks).map toL = (ks.map toL).mergeSort fun x y => decide (x ≤ y) := by
  unfold sortN
  rw [List.map_map]
  have : (toL ∘ ofL) = id := funext toL_ofL
  rw [this, List.map_id]
theorem sortN_perm {ks ks' : List ByteArray} (h : ks.Perm ks') : sortN ks = sortN ks' := by
  unfold sortN
  have := mergeSort_of_perm (h.map toL)
  unfold leB at this
  rw [this]
theorem sortN_of (ks : List ByteArray) : (sortN ks).Perm ks := by
  have h : ((ks.map toL).mergeSort fun x y => decide (x ≤ y)).Perm (ks.map toL) := List.mergeSort_perm _ _
  have h2 := h.map ofL
  rw [List.map_map] at h2
  have : (ofL ∘ toL) = id := funext ofL_toL
  rw [this, List.map_id] at h2
  exact h2
theorem sortN_nil : sortN [] = [] := List.eq_nil_of_length_eq_zero (by simpa using (sortN_of []).length_eq)
theorem sortN_length (ks : List ByteArray) : (sortN ks).length = ks.length := (sortN_of ks).length_eq

theorem heap_sortedAt {w : World} {g n off : Nat} {os : Array Obj} {cur : Array Value} {e : TypeId} {fr : Nat × Nat} (d : Array (List UInt8)) (hb : w.heap[g]? = some (.cells cur e fr)) :
    (grow (putRow encStr (Sort.ahead w n) g off d) os).heap[g]? = some (.cells (putCells encStr off d cur) e fr) := by
  have hg : g < w.heap.size := (Array.getElem?_eq_some_iff.1 hb).1
  rw [heap_grow_old _ _ (by simpa using hg)]
  simp [putRow, mapBlock, Sort.ahead, Array.getElem?_modify, hb, onCells]
theorem kp_sorted (w : World) (g n off : Nat) (os : Array Obj) (d : Array (List UInt8)) : Kp (fun j => j = g) w (grow (putRow encStr (Sort.ahead w n) g off d) os) := by
  refine ⟨rfl, rfl, rfl, by simp, fun k hk hne => ?_⟩
  rw [heap_grow_old _ _ (by simpa using hk)]
  have : g ≠ k := fun e => hne e.symm
  simp [putRow, mapBlock, Sort.ahead, Array.getElem?_modify, this]

/-- What the sort asks of an owned slice of names, and what it leaves. -/
theorem own_holds {F : Nat → Prop} {w : World} {e : Nat} {no : Option Addr} {n cap : Nat} {ks : List ByteArray} (h : Own F w e 1 no n cap (ks.map Value.string)) (h0 : 0 < n) :
    ∃ g off, no = some ⟨g, off, none⟩ ∧ F g ∧ g < w.heap.size ∧ Holds encStr w g off (ks.map toL).toArray ∧
      ∀ (m : Nat) (os : Array Obj) (ts : List ByteArray), ts.length = ks.length → Own F (grow (putRow encStr (Sort.ahead w m) g off (ts.map toL).toArray) os) e 1 no n cap (ts.map Value.string) ∧ Kp F w (grow (putRow encStr (Sort.ahead w m) g off (ts.map toL).toArray) os) := by
  obtain ⟨h1, h2, h3, h4⟩ := h
  have hl : ks.length = n := by simpa using h1
  rcases h4 with h4 | ⟨g, off, cur, ha, hg, hh, hb, hr⟩
  · omega
  · have hlt := (Array.getElem?_eq_some_iff.1 hh).1
    refine ⟨g, off, ha, hg, hlt, fun j hj => ⟨?_, by simp [World.frozen?, hh]⟩, fun m os ts ht => ⟨⟨by simp [ht, hl], h2, h3, Or.inr ⟨g, off, putCells encStr off (ts.map toL).toArray cur, ha, hg, heap_sortedAt _ hh, by simp [putCells]; omega, fun i hi => ?_⟩⟩, (kp_sorted w g m off os _).mono (fun j _ c => by rw [c]; exact hg)⟩⟩
    · have hj' : j < ks.length := by simpa using hj
      rw [cell_of_row w g _ cur e (0, 0) hh, hr j (by simpa using hj')]
      simp [hj', enc_toL]
    · have hi' : i < ts.length := by simpa using hi
      have hsz : off + i < cur.size := by omega
      simp [putCells, hi', enc_toL, hsz]

theorem perm_del {V : Type} (k : ByteArray) : ∀ (l : List (ByteArray × V)), k ∈ l.map (·.1) → (k :: (alDel k l).map (·.1)).Perm (l.map (·.1))
  | [], h => by simp at h
  | p :: r, h => by
    unfold alDel
    by_cases hk : k = p.1
    · rw [if_pos hk, hk]; simp
    · rw [if_neg hk]
      rw [List.map_cons, List.mem_cons] at h
      have h1 := perm_del k r (h.resolve_left hk)
      rw [List.map_cons, List.map_cons]
      exact (List.Perm.swap _ _ _).trans (h1.cons _)

theorem info_str : (Tryz.prog.info? 9).map (fun i => (i.zero, i.size, i.bytes)) = some (some (.string ByteArray.empty), 1, 16) := by kernel_rfl

set_option maxHeartbeats 1000000 in
set_option maxRecDepth 100000 in
theorem names_at (col : Nat → Nat) (i p : Nat) (s : DS) (r : DR) (w : World) (h : DskAt col i w p s r) (hok : DOk s) :
    Calls Tryz.prog 66 #[.pointer (some ⟨p, 0, none⟩)] w fun e w' => ∃ no cap, e = .returned (.slice no (namesF s).length cap) ∧ Own (fun j => w.heap.size ≤ j) w' 9 1 no (namesF s).length cap ((namesF s).map Value.string) ∧ Kp Noone w w' := by
  obtain ⟨j0, hj, hj0, hj1, hj2⟩ := info_parts info_str
  obtain ⟨⟨q0, -, -, -, -⟩, -⟩ := cells_five h.box
  have hM := h.map
  have hkeys : s.areas.map (·.1) = (mapV r.M).map (·.1) := by rw [h.abs]; unfold absL mapV; simp [Function.comp_def]
  have hLen : (mapV r.M).length ≤ 64 := by rw [h.length]; exact hok.len
  unfold namesF
  rw [hkeys]
  generalize mapV r.M = L at *
  generalize r.b = b at *
  clear h hok hkeys
  go_enter Tryz.func66, Tryz.ntmps66
  go_wp2_with (at_range; refine wpList_range_is _ rfl _ 120 rfl 147 Tryz.underlying120 b L rfl hM ?_)
  intro w2 hit k2 hsz
  generalize hr : w.heap.size = q at *
  have hq := Lib.hid hr
  have hbw : Hid (b < q) := Lib.hid (by have := hM.lt; omega)
  clear hr hM q0
  clear hsz
  go_wp2_with fail
  go_loopg [3] L.length (fun g v wr => ∃ (todo : List (ByteArray × Value)) (ks : List ByteArray) (no : Option Addr) (cap : Nat), g = todo.length ∧ v = .slice no ks.length cap ∧ Own (fun j => q < j) wr 9 1 no ks.length cap (ks.map Value.string) ∧ (ks ++ todo.map (·.1)).Perm (L.map (·.1)) ∧ Iter encS wr q b L todo ∧ Kp Noone w wr)
  case atStart => exact ⟨L, [], none, 0, rfl, rfl, Own.nil _ _ _ _ _, List.Perm.refl _, hit, k2⟩
  case round =>
    obtain ⟨todo, ks, no, cap, hg, rfl, hown, hperm, hitr, kr⟩ := hrel
    have HG := Lib.hid hg
    have HP := Lib.hid hperm
    have hkl : ks.length ≤ 64 := by have h1 := hperm.length_eq; simp at h1; omega
    clear hg hit k2 hperm
    go_wp2_with (at_next; refine wpList_next_is _ rfl _ rfl encS_inj q b L todo rfl hitr ?_ ?_)
    · intro hdone
      have HE : Hid (sortN ks = sortN (L.map (·.1))) := Lib.hid (sortN_perm (by have h1 := HP.out; rw [hdone] at h1; simpa using h1))
      clear hdone hitr
      by_cases h0 : ks.length = 0
      · have hks : ks = [] := List.eq_nil_of_length_eq_zero h0
        subst hks
        have HE2 := Lib.hid (HE.out.symm)
        have hown2 := Lib.hid (hown.mono (G := fun j => q ≤ j) (fun j _ c => Nat.le_of_lt c))
        clear hown HE
        go_wp2_with fail
        refine (Tryz.slices_Sort_string_none no cap _).mono ?_
        rintro e w3 ⟨rfl, rfl⟩
        go_wp2_with fail
        go_ret
        refine ⟨no, cap, ?_, ?_, kr⟩
        · rw [HE2.out, sortN_nil]; rfl
        · rw [HE2.out, sortN_nil, hq.out]; exact hown2.out
      · obtain ⟨g, off, rfl, hg, hlt, hH, hnew⟩ := own_holds hown (by omega)
        have hlen : (ks.map toL).length = ks.length := by simp
        have HN := Lib.hid hnew
        have HKR := Lib.hid kr
        clear hown hnew kr h0
        have hcall := Tryz.slices_Sort_string g off cap (ks.map toL) wr hH hlt (by omega)
        rw [hlen, ← sortN_toL] at hcall
        have HC := Lib.hid hcall
        clear hcall hH hlen
        go_wp2_with fail
        refine HC.out.mono ?_
        rintro e w3 ⟨rfl, m, os, hw3⟩
        have hfin := HN.out m os (sortN ks) (sortN_length ks)
        rw [← hw3] at hfin
        have HF := Lib.hid hfin
        clear hw3 hfin HC HN
        go_wp2_with fail
        go_ret
        refine ⟨some ⟨g, off, none⟩, cap, ?_, ?_, HKR.out.fin HF.out.2 (fun j c => Or.inr (by have := hq.out; omega))⟩
        · rw [← HE.out, sortN_length]; rfl
        · rw [← HE.out, sortN_length, hq.out]; exact HF.out.1.mono (fun j _ c => Nat.le_of_lt c)
    · intro k v w3 hmem hit3 k3 hsz3 hen
      have hnd := hitr.nodup encS_inj
      have hkm : k ∈ todo.map (·.1) := List.mem_map_of_mem (f := (·.1)) hmem
      have HLT := Lib.hid (alDelS_lt k todo hkm)
      have hpm : Hid ((ks ++ [k] ++ (alDel k todo).map (·.1)).Perm (L.map (·.1))) := Lib.hid (by
        refine List.Perm.trans ?_ HP.out
        rw [List.append_assoc]
        refine List.Perm.append_left ks ?_
        exact perm_del k todo hkm)
      have kr3 : Kp Noone w w3 := kr.fin k3 (fun j c => Or.inr (by subst c; have := hq.out; omega))
      have hq3 : q < w3.heap.size := by have := hit3.lt; omega
      have ho3 := (hown.kp k3 (fun j c d => by omega)).keep ((Kp.refl Noone w3).alloc (.cells #[.string k] 9))
      have hia := hit3.kp ((Kp.refl Noone w3).alloc (.cells #[.string k] 9)) id id
      have hka := kr3.alloc (.cells #[.string k] 9)
      have HK := Lib.hid hka
      have HI := Lib.hid hia
      have hsz4 : w3.heap.size ≤ (w3.alloc (.cells #[.string k] 9)).heap.size := ((Kp.refl Noone w3).alloc (.cells #[.string k] 9)).size
      unfold encS at hen
      clear hmem hnd hkm hitr kr k3 hsz3 hit3 kr3 hown hka hia HP
      go_wp2_with (at_builtin; refine wpList_append_gen _ rfl (.tmp 14) (.tmp 16) 144 rfl 9 j0 (.string ByteArray.empty) 1 16 Tryz.underlying144 hj hj0 hj1 hj2 rfl no ks.length cap rfl (some ⟨w3.heap.size, 0, none⟩) 1 1 rfl _ _ ho3 [.string k] rfl (Row.ofHeap (heap_alloc_new w3 _)) (by intro u hu; simp at hu; subst hu; rfl) (by omega) (by unfold maxLen; omega) ?_)
      intro no' cap' w5 ho k5
      have R : Hid (Own (fun j => q < j) w5 9 1 no' (ks ++ [k]).length cap' ((ks ++ [k]).map Value.string)) := Lib.hid (by
        have e1 : (ks ++ [k]).length = ks.length + 1 := by simp
        have e2 : (ks ++ [k]).map Value.string = ks.map Value.string ++ [.string k] := by simp
        rw [e1, e2]
        exact Own.mono ho (fun j _ c => by rcases c with c | c; exact c; omega))
      have RI : Hid (Iter encS w5 q b L (alDel k todo)) := Lib.hid (HI.out.kp k5 (fun c => by omega) (fun c => by have := hbw.out; omega))
      have RK : Hid (Kp Noone w w5) := Lib.hid (HK.out.fin k5 (fun j c => Or.inr (by have := hq.out; omega)))
      have hl5 : ks.length + 1 = (ks ++ [k]).length := by simp
      clear ho k5 ho3 HK HI
      rw [hl5]
      clear hl5
      generalize ks ++ [k] = ks' at *
      go_wp2_with fail
      go_roundg (alDel k todo).length
      case measure => rw [HG.out]; exact HLT.out
      case rel => exact ⟨_, ks', no', cap', rfl, rfl, R.out, hpm.out, RI.out, RK.out⟩

end Go.Proofs.YtgbgbokcohfnpaaGreat

/-
  THE WALK of a disk's Append.
-/
namespace Go.Proofs.YtgbgbokcohfnpaaGreat
open Go.RowKit

def Dk (col : Nat → Nat) (i : Nat) (w : World) (p : Nat) (s : DS) : Prop := (∃ r, DskAt col i w p s r) ∧ DOk s
theorem Dk.ext {B : Nat} {S : Nat → Prop} {col col' : Nat → Nat} {i p : Nat} {s : DS} {w w' : World} (h : Dk col i w p s) (hc : Cols B w col) (e : Ext B S col w col' w') (hd : ∀ c, S3 i c → ¬ S c) : Dk col' i w' p s := by
  obtain ⟨⟨r, hr⟩, hi⟩ := h
  exact ⟨⟨r, (hr.recol hc e.old).beside (S := fun c => S c) (e.kp.mono (fun j hj c => by rw [e.old j hj]; exact c)) hd⟩, hi⟩
theorem Dk.keep {col : Nat → Nat} {i p : Nat} {s : DS} {w w' : World} (h : Dk col i w p s) (k : Kp Noone w w') : Dk col i w' p s := by
  obtain ⟨⟨r, hr⟩, hi⟩ := h
  exact ⟨⟨r, hr.keep k⟩, hi⟩

/-! ### What holds of the plain disk behind a call -/

theorem barsF_zero {s : DS} {k : ByteArray} {t : Bool} (h : barsF s k t = 0) : s.down = false ∧ nameOk k = true ∧ (t = true → alGet k s.areas ≠ none) := by
  unfold barsF at h
  split at h
  · cases h
  · rename_i h1
    split at h
    · cases h
    · rename_i h2
      split at h
      · cases h
      · rename_i h3
        exact ⟨by simpa using h1, by simpa using h2, fun ht c => h3 ⟨ht, c⟩⟩
theorem DOk.put {s : DS} (h : DOk s) {k : ByteArray} {a : AreaP} (hk : nameOk k = true) (ha : 0 ≤ a.safe ∧ a.safe ≤ a.data.length ∧ a.data.length ≤ 140737488355328) (hl : alGet k s.areas = none → s.areas.length < 64) : DOk (putF s k a) := by
  refine ⟨h.room, alPut_keys k a s.areas h.keys, ?_, fun x hx => ?_, fun x hx => ?_, h.steps, h.fuse⟩
  · show (alPut k a s.areas).length ≤ 64
    by_cases c : alGet k s.areas = none
    · have := alPut_length k a s.areas; have := hl c; omega
    · rw [alPut_length' k a s.areas c]; exact h.len
  · rcases mem_alPut hx with rfl | hx
    · exact ha
    · exact h.each x hx
  · rcases mem_alPut hx with rfl | hx
    · exact hk
    · exact h.names x hx
theorem DOk.step {s : DS} (h : DOk s) (hn : s.steps < 4611686018427387904) : DOk (stepF s).1 := by
  unfold stepF
  split
  · exact ⟨h.room, h.keys, h.len, h.each, h.names, h.steps, by simp⟩
  · exact ⟨h.room, h.keys, h.len, h.each, h.names, by have := h.steps; simp only []; omega, by have := h.fuse; simp only []; omega⟩
theorem DOk.del {s : DS} (h : DOk s) (k : ByteArray) : DOk { s with areas := alDel k s.areas } :=
  ⟨h.room, alDel_keys k _ h.keys, by have := alDel_length k s.areas; have := h.len; show (alDel k s.areas).length ≤ 64; omega, fun x hx => h.each x (mem_alDel hx), fun x hx => h.names x (mem_alDel hx), h.steps, h.fuse⟩
theorem stepF_put (s : DS) (k : ByteArray) (a : AreaP) : stepF (putF s k a) = (putF (stepF s).1 k a, (stepF s).2) := by
  unfold stepF putF; simp only []; split <;> rfl
theorem stepF_areas (s : DS) : (stepF s).1.areas = s.areas := by unfold stepF; split <;> rfl
theorem appendF_ok {s : DS} (h : DOk s) (k : ByteArray) (d : List UInt8) (hn : s.steps < 4611686018427387904) : DOk (appendF s k d).1 := by
  unfold appendF
  split
  · exact h
  · rename_i h1
    split
    · exact h
    · rename_i h2
      split
      · exact h
      · rename_i h3
        obtain ⟨-, hk, -⟩ := barsF_zero (by omega : barsF s k false = 0)
        have hg := h.get k
        refine DOk.step (h.put hk ?_ (fun c => ?_)) hn
        · simp only [List.length_append]; omega
        · have := h.len
          by_cases c2 : s.areas.length < 64
          · exact c2
          · exact absurd ⟨c, by omega⟩ h2

set_option maxHeartbeats 1000000 in
set_option maxRecDepth 100000 in
theorem append_dk (B : Nat) (col : Nat → Nat) (i p : Nat) (s : DS) (k : ByteArray) (fo : Option Addr) (n cap : Nat) (d : List UInt8) (w : World) (h : Dk col i w p s) (hc : Cols B w col) (hBw : B ≤ w.heap.size) (hb : BS w fo n cap d) (hk : k.size ≤ 9223372036854775807) (hst : s.steps < 4611686018427387904) :
    Calls Tryz.prog 109 #[.pointer (some ⟨p, 0, none⟩), .string k, .slice fo n cap] w fun e w' => e = .returned (.int .i64 ((appendF s k d).2 : Int)) ∧ ∃ col', Ext B (S3 i) col w col' w' ∧ Dk col' i w' p (appendF s k d).1 := by
  obtain ⟨j0, hj, hj0, hj1, hj2⟩ := info_parts info_u8
  have hfin := appendF_ok h.2 k d hst
  obtain ⟨⟨r, hr⟩, hok⟩ := h
  obtain ⟨RES, hRES⟩ : ∃ x, Hid (appendF s k d = x) := ⟨_, Lib.hid rfl⟩
  have HFIN := Lib.hid hfin
  have hdn := hb.len
  rw [hRES.out] at HFIN ⊢
  have HR := hRES.out
  unfold appendF at HR
  have HOK := Lib.hid hok
  have hstp := hok.steps
  have hfus := hok.fuse
  clear hfin hRES hok
  go_enter Tryz.func109, Tryz.ntmps109
  go_wp2_with fail
  refine (bars_at col i p s r k false w hr hk).mono ?_
  rintro e w1 ⟨rfl, k1⟩
  have hr1 := hr.keep k1
  have hc1 := hc.keep k1.size
  have hb1 := hb.keep k1
  have hB1 := Nat.le_trans hBw k1.size
  have E1 := Ext.quiet (S := S3 i) hc k1
  clear hr hc hb k1
  by_cases hz : barsF s k false = 0
  · rw [if_neg (by omega)] at HR
    have e0 : (((barsF s k false : Nat) : Int) != 0) = false := by rw [hz]; rfl
    clear hz
    obtain ⟨ao, c0, hown, hlk⟩ := hr1.lookup k true
    simp only [if_true] at hlk
    obtain ⟨⟨q0, -, -, -, -⟩, -⟩ := cells_five hr1.box
    have qo := fun o : Obj => (cells_five (((Kp.refl Noone w1).alloc o).heap hr1.box id)).1.1
    have hmlen := fun (o : Obj) (ty : TypeId) => (hr1.map.kp ((Kp.refl Noone w1).alloc o) id).len (P := Tryz.prog) (m := 120) (t := 9) (e := 147) Tryz.underlying120 ty
    rw [hr1.length] at hmlen
    have hgk := HOK.out.get k
    have hlen := HOK.out.len
    have hno : (alGet k s.areas = none) ↔ (alGet k s.areas).isSome = false := by cases alGet k s.areas <;> simp
    simp only [hno] at HR
    have hputA := stepF_put s k ⟨(get0 k s.areas).data ++ d, (get0 k s.areas).safe⟩
    generalize (alGet k s.areas).isSome = has at *
    generalize s.areas.length = al at *
    generalize get0 k s.areas = a at *
    obtain ⟨ad, sf⟩ := a
    simp only [] at hown hlk HR hgk hputA
    have HPUT := Lib.hid hputA
    have hdl : (bv ad).length = ad.length * 1 := by rw [length_bv, Nat.mul_one]
    have hw1 : IntKind.i64.wrap (4194304 - (ad.length : Int)) = 4194304 - (ad.length : Int) := IntWalk.i64_in _ (by omega)
    have HR1 := Lib.hid hr1
    have HOWN := Lib.hid hown
    clear hno hr1 hown hputA
    by_cases c43 : has = false ∧ 64 ≤ al
    · rw [if_pos c43] at HR
      subst HR
      obtain ⟨rfl, c2⟩ := c43
      have c3 : (64 : Int) ≤ (al : Int) := by omega
      go_wp2_with fail
      go_ret
      have k2 := fun o : Obj => (Kp.refl Noone w1).alloc o
      exact ⟨rfl, col, E1.trans (Ext.quiet hc1 (k2 _)), ⟨r, HR1.out.keep (k2 _)⟩, HOK.out⟩
    · rw [if_neg c43] at HR
      have hcase : has = true ∨ (has = false ∧ ¬ (64 : Int) ≤ (al : Int)) := by
        cases has with
        | true => exact Or.inl rfl
        | false => exact Or.inr ⟨rfl, fun c => c43 ⟨rfl, by omega⟩⟩
      clear c43
      have HRR := Lib.hid HR
      clear HR
      rcases hcase with rfl | ⟨rfl, c2⟩
      all_goals (
        by_cases c12 : 4194304 - (ad.length : Int) < (d.length : Int)
        · have HR := HRR.out
          rw [if_pos c12] at HR
          subst HR
          rw [hdn] at c12
          have c13 : (n : Int) > 4194304 - (ad.length : Int) := c12
          go_wp2_with fail
          go_ret
          have k2 := fun o : Obj => (Kp.refl Noone w1).alloc o
          exact ⟨rfl, col, E1.trans (Ext.quiet hc1 (k2 _)), ⟨r, HR1.out.keep (k2 _)⟩, HOK.out⟩
        · have HR := HRR.out
          rw [if_neg c12] at HR
          have HE := Lib.hid HR
          clear HR HRR
          rw [hdn] at c12
          have kA : Kp Noone w1 (w1.alloc (.cells #[.slice ao ad.length c0, .int .i64 sf] 147)) := (Kp.refl _ _).alloc _
          have hAb := heap_alloc_new w1 (.cells #[.slice ao ad.length c0, .int .i64 sf] 147)
          have hrow := (hb1.keep kA).row
          have hln : (bv d).length = n * 1 := by rw [length_bv, hdn, Nat.mul_one]
          have sA := kA.size
          have hG1 : Hid (∀ j, r.G k j → j < w1.heap.size) := Lib.hid (fun j hj => (hc1 j (by have := HR1.out.gcol k j hj; omega)).2)
          go_wp2_with (at_builtin; refine wpList_append_gen _ rfl (.tmp 43) (.tmp 44) 44 rfl 5 j0 (.int .u8 0) 1 1 Tryz.underlying44 hj hj0 hj1 hj2 rfl ao ad.length c0 rfl fo n cap rfl _ (bv ad) (HOWN.out.keep kA) (bv d) hln hrow (bv_one _) (by omega) (by unfold maxLen; omega) ?_)
          intro ao' c0' w2 ho k2
          have hg8 : Hid (∀ j, Ex (r.G k) (w1.alloc (.cells #[.slice ao ad.length c0, .int .i64 sf] 147)) w2 j → j ≠ w1.heap.size) := Lib.hid (fun j hj c => by
            have h1 := (Array.getElem?_eq_some_iff.1 hAb).1
            rcases hj with hj | hj
            · have := hG1.out j hj; omega
            · omega)
          have h2b := k2.heap hAb (fun c => hg8.out _ (Or.inl c) rfl)
          obtain ⟨z0, z1, f0, -⟩ := cells_two h2b
          have h2p := k2.heap (kA.heap HR1.out.box id) (fun c => by have h1 := HR1.out.gcol k p c; have h2 := HR1.out.pc; omega)
          have hpw := HR1.out.lt
          have h3b : (w2.setCell ⟨w1.heap.size, 0, none⟩ (.slice ao' (ad.length + n) c0')).heap[w1.heap.size]? = some (.cells #[.slice ao' (ad.length + n) c0', .int .i64 sf] 147 (0, 0)) := (heap_set_cell h2b).trans (by simp)
          have kset : Kp (fun j => j = w1.heap.size) w2 (w2.setCell ⟨w1.heap.size, 0, none⟩ (.slice ao' (ad.length + n) c0')) := (Kp.refl (fun j => j = w1.heap.size) w2).setCell (fun _ => rfl) _
          have h3p := kset.heap h2p (fun c => by omega)
          have o3 := Own.kp ho kset (fun j c d => hg8.out j c d)
          have k13 : Kp (r.G k) w1 (w2.setCell ⟨w1.heap.size, 0, none⟩ (.slice ao' (ad.length + n) c0')) := ((kA.none (S := r.G k)).trans k2).fin kset (fun j c => Or.inr (by omega))
          have hF : Hid (∀ j, Ex (r.G k) (w1.alloc (.cells #[.slice ao ad.length c0, .int .i64 sf] 147)) w2 j → r.G k j ∨ (w1.heap.size ≤ j ∧ j < w2.heap.size)) := Lib.hid (fun j hj => hj.elim Or.inl (fun hj => Or.inr (by omega)))
          have s23 := kset.size
          have HH2 := Lib.hid h2b
          obtain ⟨y0, y1, -, -⟩ := cells_two h3b
          obtain ⟨⟨x0, -, -, -, -⟩, -⟩ := cells_five h3p
          have kd : Kp Noone (w2.setCell ⟨w1.heap.size, 0, none⟩ (.slice ao' (ad.length + n) c0')) (w2.setCell ⟨w1.heap.size, 0, none⟩ (.slice ao' (ad.length + n) c0')).drew := (Kp.refl _ _).drew
          have hM3 := (HR1.out.map.kp k13 (fun c => by have h1 := HR1.out.gcol k _ c; have h2 := HR1.out.bc; omega)).kp kd id
          have HO3 := Lib.hid (o3.keep kd)
          have HK3 := Lib.hid (k13.drew)
          have HS := Lib.hid s23
          clear kd ho k2 hAb kA hrow sA h2b h2p h3b kset h3p o3 k13 s23 hb1 qo hmlen hlk q0
          go_upto_region 10 with fail
          generalize w2.setCell ⟨w1.heap.size, 0, none⟩ (.slice ao' (ad.length + n) c0') = w3 at *
          obtain ⟨w4, hrun, hto⟩ := hM3.update (P := Tryz.prog) (t := 9) (m := 120) (e := 147) keyS Tryz.underlying120 k (.agg #[.slice ao' (ad.length + n) c0', .int .i64 sf])
          simp only [encS] at hrun
          have HTO := Lib.hid hto
          clear hM3 hto
          have hlen2 : (ad ++ d).length = ad.length + n := by rw [List.length_append, hdn]
          have hPut : ∃ col' r', DskAt col' i w4 p (putF s k ⟨ad ++ d, sf⟩) r' ∧ Cols B w4 col' ∧ (∀ j, j < w1.heap.size → col' j = col j) ∧ (∀ j, w1.heap.size ≤ j → col' j ≠ 0 → S3 i (col' j)) ∧ Kp (fun j => S3 i (col j)) w1 w4 := by
            refine HR1.out.put hc1 hB1 k ⟨ad ++ d, sf, ao', c0'⟩ HK3.out (F := Ex (r.G k) (w1.alloc (.cells #[.slice ao ad.length c0, .int .i64 sf] 147)) w2) ?_ ?_ ?_
            · show Own _ _ _ _ ao' (ad ++ d).length c0' (bv (ad ++ d))
              rw [hlen2, ← bv_append]
              exact HO3.out
            · intro j hj
              have h1 := hF.out j hj
              have h2 := HS.out
              rcases h1 with h1 | h1
              · exact Or.inl h1
              · exact Or.inr ⟨by omega, by show j < w3.heap.size; omega⟩
            · show MapTo encS _ _ _ (alPut k (.agg #[.slice ao' (ad ++ d).length c0', .int .i64 sf]) _)
              rw [hlen2]
              exact HTO.out
          obtain ⟨col4, r4, D4, hc4, old4, new4, k4⟩ := hPut
          have E4 := E1.trans (⟨hc4, old4, new4, k4⟩ : Ext B (S3 i) col w1 col4 w4)
          have HE4 := Lib.hid E4
          have HD4 := Lib.hid D4
          have hst4 : 0 ≤ (putF s k ⟨ad ++ d, sf⟩).steps ∧ (putF s k ⟨ad ++ d, sf⟩).steps < 4611686018427387904 := ⟨hstp.1, hst⟩
          have hfu4 : 0 ≤ (putF s k ⟨ad ++ d, sf⟩).fuse ∧ (putF s k ⟨ad ++ d, sf⟩).fuse ≤ 9223372036854775807 := hfus
          clear hlen2 D4 hc4 old4 new4 k4 E4 HTO HO3 HK3 HS
          go_region
          all_goals (
            go_wp2_with fail
            refine (done_at col4 i p _ r4 w4 HD4.out hfu4 hst4).mono ?_
            rintro e w5 ⟨rfl, D5, k5⟩
            have hx : (stepF (putF s k ⟨ad ++ d, sf⟩)).2 = (stepF s).2 := by rw [HPUT.out]
            have HX := Lib.hid hx
            have HD5 := Lib.hid D5
            have HK5 := Lib.hid k5
            clear hx D5 k5
            go_wp2_with fail
            go_ret
            have hE := HE.out
            subst hE
            have e5 : Ext B (S3 i) col4 w4 col4 w5 := ⟨HE4.out.cols.keep HK5.out.size, fun _ _ => rfl, fun j hj hn => by have := HE4.out.cols j hn; omega, HK5.out.mono (fun j _ c => by subst c; rw [HD4.out.pc]; unfold S3; omega)⟩
            exact ⟨by rw [HX.out]; rfl, col4, HE4.out.trans e5, ⟨r4, HD5.out⟩, HFIN.out⟩))
  · rw [if_pos hz] at HR
    have e0 : (((barsF s k false : Nat) : Int) != 0) = true := by
      have h : ((barsF s k false : Nat) : Int) ≠ 0 := by omega
      simpa using h
    subst HR
    have HZ := Lib.hid hz
    clear hz
    go_wp2_with fail
    go_ret
    exact ⟨rfl, col, E1, ⟨r, hr1⟩, HOK.out⟩

end Go.Proofs.YtgbgbokcohfnpaaGreat

/-
  THE WALK of a disk's Sync.
-/
namespace Go.Proofs.YtgbgbokcohfnpaaGreat
open Go.RowKit

theorem syncF_ok {s : DS} (h : DOk s) (k : ByteArray) (hn : s.steps < 4611686018427387904) : DOk (syncF s k).1 := by
  unfold syncF
  split
  · exact h
  · rename_i h1
    split
    · exact h
    · split
      · exact h.step hn
      · obtain ⟨-, hk, hp⟩ := barsF_zero (by omega : barsF s k true = 0)
        have hg := h.get k
        refine (h.step hn).put hk ⟨by simp only []; omega, by simp, hg.2.2⟩ (fun c => ?_)
        rw [stepF_areas] at c
        exact absurd c (hp rfl)

/-- The same, told from the call's start: colours have not changed since; X: what the call has made. -/
theorem put_ext {B : Nat} {col : Nat → Nat} {i : Nat} {w w3 w4 w5 : World} {p : Nat} {s : DS} {r : DR} (hc : Cols B w col) (hB : B ≤ w.heap.size) (k03 : Kp (fun j => S3 i (col j)) w w3) (h : DskAt col i w3 p s r) (k : ByteArray) (e : Ar) {F X : Nat → Prop}
    (hX : ∀ j, X j → w.heap.size ≤ j) (k34 : Kp (fun j => r.G k j ∨ X j) w3 w4) (ho : Own F w4 5 1 e.ao e.data.length e.cap (bv e.data)) (hF : ∀ j, F j → r.G k j ∨ (w3.heap.size ≤ j ∧ j < w4.heap.size) ∨ (col j = i + 3 ∧ ∀ a, ¬ r.G a j))
    (m : MapTo encS w4 w5 r.b (alPut k e.val (mapV r.M))) :
    ∃ col' r', DskAt col' i w5 p (putF s k e.abs) r' ∧ Ext B (S3 i) col w col' w5 := by
  have s03 := k03.size
  obtain ⟨c, r', h1, h2, h3, h4, h5⟩ := h.putX (hc.keep s03) (Nat.le_trans hB s03) k e (X := X) (fun j hj => Classical.byContradiction fun d => by have := hc j d; have := hX j hj; omega) k34 ho hF m
  refine ⟨c, r', h1, h2, fun j hj => h3 j (by omega), fun j hj hn => ?_, k03.fin h5 (fun j c => c.elim Or.inl (fun c => Or.inr (hX j c)))⟩
  by_cases hj3 : j < w3.heap.size
  · rw [h3 j hj3] at hn
    have := hc j hn
    omega
  · exact h4 j (by omega) hn
/-- A call that changed the box alone. -/
theorem box_ext {B : Nat} {col : Nat → Nat} {i : Nat} {w w3 : World} (hc : Cols B w col) (k03 : Kp (fun j => S3 i (col j)) w w3) : Ext B (S3 i) col w col w3 :=
  ⟨hc.keep k03.size, fun _ _ => rfl, fun j hj hn => by have := hc j hn; omega, k03⟩

/-- The local copy of an area, behind a quiet time. -/
theorem keep_cells {w w' : World} {g e : Nat} {a b : Value} (h : w.heap[g]? = some (.cells #[a, b] e (0, 0))) (k : Kp Noone w w') : w'.cell? ⟨g, 0, none⟩ = some a ∧ w'.cell? ⟨g, 1, none⟩ = some b := by
  obtain ⟨h0, h1, -, -⟩ := cells_two (k.heap h id)
  exact ⟨h0, h1⟩

set_option maxHeartbeats 1000000 in
set_option maxRecDepth 100000 in
theorem sync_dk (B : Nat) (col : Nat → Nat) (i p : Nat) (s : DS) (k : ByteArray) (w : World) (h : Dk col i w p s) (hc : Cols B w col) (hBw : B ≤ w.heap.size) (hk : k.size ≤ 9223372036854775807) (hst : s.steps < 4611686018427387904) :
    Calls Tryz.prog 58 #[.pointer (some ⟨p, 0, none⟩), .string k] w fun e w' => e = .returned (.int .i64 ((syncF s k).2 : Int)) ∧ ∃ col', Ext B (S3 i) col w col' w' ∧ Dk col' i w' p (syncF s k).1 := by
  have hfin := syncF_ok h.2 k hst
  obtain ⟨⟨r, hr⟩, hok⟩ := h
  obtain ⟨RES, hRES⟩ : ∃ x, Hid (syncF s k = x) := ⟨_, Lib.hid rfl⟩
  have HFIN := Lib.hid hfin
  rw [hRES.out] at HFIN ⊢
  have HR := hRES.out
  unfold syncF at HR
  have HOK := Lib.hid hok
  have hstp := hok.steps
  have hfus := hok.fuse
  clear hfin hRES hok
  go_enter Tryz.func58, Tryz.ntmps58
  go_wp2_with fail
  refine (bars_at col i p s r k true w hr hk).mono ?_
  rintro e w1 ⟨rfl, k1⟩
  have hr1 := hr.keep k1
  have hc1 := hc.keep k1.size
  have hB1 := Nat.le_trans hBw k1.size
  have E1 := Ext.quiet (S := S3 i) hc k1
  have HC := Lib.hid hc
  have K1 := Lib.hid k1
  clear hr hc k1
  by_cases hz : barsF s k true = 0
  · rw [if_neg (by omega)] at HR
    have e0 : (((barsF s k true : Nat) : Int) != 0) = false := by rw [hz]; rfl
    clear hz
    obtain ⟨ao, c0, hown, hlk⟩ := hr1.lookup k false
    simp only [Bool.false_eq_true, if_false] at hlk
    obtain ⟨⟨q0, -, -, -, -⟩, -⟩ := cells_five hr1.box
    have hgk := HOK.out.get k
    have hsum := HOK.out.sum
    have hrm := HOK.out.room
    generalize get0 k s.areas = a at *
    obtain ⟨ad, sf⟩ := a
    simp only [] at hown hlk HR hgk
    have kA : Kp Noone w1 (w1.alloc (.cells #[.slice ao ad.length c0, .int .i64 sf] 147)) := (Kp.refl _ _).alloc _
    have hAb := heap_alloc_new w1 (.cells #[.slice ao ad.length c0, .int .i64 sf] 147)
    have hrA := hr1.keep kA
    have hownA := hown.keep kA
    have hcA := hc1.keep kA.size
    have hBA := Nat.le_trans hB1 kA.size
    have EA := E1.trans (Ext.quiet hc1 kA)
    have HR' := Lib.hid HR
    have hG1 : Hid (∀ j, r.G k j → j < w1.heap.size) := Lib.hid (fun j hj => (hc1 j (by have := hr1.gcol k j hj; omega)).2)
    have KA := Lib.hid (K1.out.trans kA)
    have hWg : Hid (w.heap.size ≤ w1.heap.size) := Lib.hid K1.out.size
    clear hr1 hown hc1 hB1 E1 kA HR K1
    go_upto_region 5 with fail
    generalize w1.alloc (.cells #[.slice ao ad.length c0, .int .i64 sf] 147) = wA at *
    generalize w1.heap.size = g at *
    clear q0 hlk
    have hw1 : IntKind.i64.wrap (sumF s.areas - sf) = sumF s.areas - sf := IntWalk.i64_in _ (by omega)
    have hw2 : IntKind.i64.wrap (sumF s.areas - sf + (ad.length : Int)) = sumF s.areas - sf + (ad.length : Int) := IntWalk.i64_in _ (by omega)
    have hcl := safe_at col i p s r wA.drew (hrA.keep ((Kp.refl Noone wA).drew)) HOK.out
    have hS : ∀ w', Kp Noone wA w' → w'.cell? ⟨g, 0, none⟩ = some (.slice ao ad.length c0) ∧ w'.cell? ⟨g, 1, none⟩ = some (.int .i64 sf) ∧ w'.cell? ⟨p, 1, none⟩ = some (.int .i64 s.room) := fun w' kk => by
      obtain ⟨x0, x1⟩ := keep_cells hAb kk
      exact ⟨x0, x1, (cells_five (kk.heap hrA.box id)).1.2.1⟩
    generalize hSM : sumF s.areas = sm at *
    have HSM := Lib.hid hSM
    clear hSM
    go_region_held3 (fun w' => w'.cell? ⟨g, 0, none⟩ = some (.slice ao ad.length c0) ∧ w'.cell? ⟨g, 1, none⟩ = some (.int .i64 sf) ∧ w'.cell? ⟨p, 1, none⟩ = some (.int .i64 s.room))
      (first | exact hS _ ((Kp.refl Noone wA).drew) | exact hS _ (((Kp.refl Noone wA).drew).trans k') | assumption)
      (first
        | (go_at_call 67; refine hcl.mono ?_; rintro e w' ⟨rfl, k'⟩))
    have k6 := ((Kp.refl Noone wA).drew).trans k'
    have hA6 := k6.heap hAb id
    have hr6 := hrA.keep k6
    have ho6 := hownA.keep k6
    have K6 := KA.out.trans k6
    clear hcl hS k6 k' hrA hownA hcA hBA EA hAb
    by_cases c42 : s.room < sm - sf + (ad.length : Int)
    · have HR := HR'.out
      rw [if_pos c42] at HR
      subst HR
      have hgt : sm - sf + (ad.length : Int) > s.room := c42
      go_wp2_with fail
      go_ret
      exact ⟨rfl, col, Ext.quiet HC.out K6, ⟨r, hr6⟩, HOK.out⟩
    · have HR := HR'.out
      rw [if_neg c42] at HR
      have HRR := Lib.hid HR
      clear HR HR'
      go_wp2_with fail
      refine (step_at col i p s r w' hr6 hfus ⟨hstp.1, hst⟩).mono ?_
      rintro e w3 ⟨rfl, D3, k3⟩
      have hpw := hr6.pc
      have k03 : Kp (fun j => S3 i (col j)) w w3 := K6.none.trans (k3.mono (fun j _ c => by rw [c, hpw]; unfold S3; omega))
      have hgp : g ≠ p := fun c => by have := (HC.out p (by omega)).2; have := hWg.out; omega
      have hA3 := k3.heap hA6 hgp
      have ho3 := ho6.kp k3 (fun j c d => by have h1 := hr6.gcol k j c; rw [d] at h1; omega)
      have hG3 : Hid (∀ j, r.G k j → j < w.heap.size) := Lib.hid (fun j hj => (HC.out j (by have := hr6.gcol k j hj; omega)).2)
      clear hA6 ho6 K6 k3 hr6
      cases hx : (stepF s).2 with
      | false =>
        have HR := HRR.out
        rw [if_pos hx] at HR
        subst HR
        clear hx
        go_wp2_with fail
        go_ret
        exact ⟨rfl, col, box_ext HC.out k03, ⟨r, D3⟩, HFIN.out⟩
      | true =>
        have HR := HRR.out
        rw [if_neg (by rw [hx]; simp)] at HR
        have HE := Lib.hid HR
        clear HR HRR hx
        have hA4 : (w3.setCell ⟨g, 1, none⟩ (.int .i64 (ad.length : Int))).heap[g]? = some (.cells #[.slice ao ad.length c0, .int .i64 (ad.length : Int)] 147 (0, 0)) := (heap_set_cell hA3).trans (by simp)
        have kset : Kp (fun j => j = g) w3 (w3.setCell ⟨g, 1, none⟩ (.int .i64 (ad.length : Int))) := (Kp.refl (fun j => j = g) w3).setCell (fun _ => rfl) _
        have hD4p := kset.heap D3.box (fun c => hgp c.symm)
        have ho4 := Own.kp ho3 kset (fun j c d => by have := hG3.out j c; have := hWg.out; omega)
        obtain ⟨z0, z1, f0, f1⟩ := cells_two hA3
        obtain ⟨y0, y1, -, -⟩ := cells_two hA4
        obtain ⟨⟨x0, -, -, -, -⟩, -⟩ := cells_five hD4p
        have kd : Kp Noone (w3.setCell ⟨g, 1, none⟩ (.int .i64 (ad.length : Int))) (w3.setCell ⟨g, 1, none⟩ (.int .i64 (ad.length : Int))).drew := (Kp.refl _ _).drew
        have hM4 := (D3.map.kp kset (fun c => by have := (HC.out r.b (by have := D3.bc; omega)).2; have := hWg.out; omega)).kp kd id
        have HO4 := Lib.hid (ho4.keep kd)
        have HK4 := Lib.hid (kset.trans kd.none)
        have HD3 := Lib.hid D3
        have HK03 := Lib.hid k03
        clear hA3 hA4 kset hD4p ho3 ho4 kd D3 k03 hpw
        go_upto_region 10 with fail
        generalize w3.setCell ⟨g, 1, none⟩ (.int .i64 (ad.length : Int)) = w4 at *
        obtain ⟨w5, hrun, hto⟩ := hM4.update (P := Tryz.prog) (t := 9) (m := 120) (e := 147) keyS Tryz.underlying120 k (.agg #[.slice ao ad.length c0, .int .i64 (ad.length : Int)])
        simp only [encS] at hrun
        obtain ⟨col5, r5, D5, E5⟩ := put_ext HC.out hBw HK03.out HD3.out k ⟨ad, ad.length, ao, c0⟩ (X := fun j => j = g) (fun j c => by rw [c]; exact hWg.out) (HK4.out.mono (fun j _ c => Or.inr c)) HO4.out (fun j c => Or.inl c) hto
        have HD5 := Lib.hid D5
        have HE5 := Lib.hid E5
        clear hM4 hto D5 E5 HO4 HK4
        go_region
        all_goals (
          go_wp2_with fail
          go_ret
          have hE := HE.out
          subst hE
          exact ⟨rfl, col5, HE5.out, ⟨r5, HD5.out⟩, HFIN.out⟩)
  · rw [if_pos hz] at HR
    have e0 : (((barsF s k true : Nat) : Int) != 0) = true := by
      have h : ((barsF s k true : Nat) : Int) ≠ 0 := by omega
      simpa using h
    subst HR
    have HZ := Lib.hid hz
    clear hz
    go_wp2_with fail
    go_ret
    exact ⟨rfl, col, E1, ⟨r, hr1⟩, HOK.out⟩

end Go.Proofs.YtgbgbokcohfnpaaGreat

/-
  THE WALKS of a disk's Drop, Move, Read, Fuse, Free, Steps, Down, List.
-/
namespace Go.Proofs.YtgbgbokcohfnpaaGreat
open Go.RowKit

theorem dropF_ok {s : DS} (h : DOk s) (k : ByteArray) (hn : s.steps < 4611686018427387904) : DOk (dropF s k).1 := by
  unfold dropF
  split
  · exact h
  · split
    · exact h.step hn
    · have := (h.step hn).del k
      rw [stepF_areas] at this
      exact this
set_option maxHeartbeats 1000000 in
set_option maxRecDepth 100000 in
theorem drop_dk (B : Nat) (col : Nat → Nat) (i p : Nat) (s : DS) (k : ByteArray) (w : World) (h : Dk col i w p s) (hc : Cols B w col) (hk : k.size ≤ 9223372036854775807) (hst : s.steps < 4611686018427387904) :
    Calls Tryz.prog 53 #[.pointer (some ⟨p, 0, none⟩), .string k] w fun e w' => e = .returned (.int .i64 ((dropF s k).2 : Int)) ∧ ∃ col', Ext B (S3 i) col w col' w' ∧ Dk col' i w' p (dropF s k).1 := by
  have hfin := dropF_ok h.2 k hst
  obtain ⟨⟨r, hr⟩, hok⟩ := h
  obtain ⟨RES, hRES⟩ : ∃ x, Hid (dropF s k = x) := ⟨_, Lib.hid rfl⟩
  have HFIN := Lib.hid hfin
  rw [hRES.out] at HFIN ⊢
  have HR := hRES.out
  unfold dropF at HR
  have HOK := Lib.hid hok
  have hstp := hok.steps
  have hfus := hok.fuse
  have HC := Lib.hid hc
  clear hfin hRES hok hc
  go_enter Tryz.func53, Tryz.ntmps53
  go_wp2_with fail
  refine (bars_at col i p s r k true w hr hk).mono ?_
  rintro e w1 ⟨rfl, k1⟩
  have hr1 := hr.keep k1
  clear hr
  by_cases hz : barsF s k true = 0
  · rw [if_neg (by omega)] at HR
    have e0 : (((barsF s k true : Nat) : Int) != 0) = false := by rw [hz]; rfl
    have HRR := Lib.hid HR
    clear hz HR
    go_wp2_with fail
    refine (step_at col i p s r w1 hr1 hfus ⟨hstp.1, hst⟩).mono ?_
    rintro e w3 ⟨rfl, D3, k3⟩
    have k03 : Kp (fun j => S3 i (col j)) w w3 := k1.none.trans (k3.mono (fun j _ c => by rw [c, hr1.pc]; unfold S3; omega))
    clear k1 k3 hr1
    cases hx : (stepF s).2 with
    | false =>
      have HR := HRR.out
      rw [if_pos hx] at HR
      subst HR
      clear hx
      go_wp2_with fail
      go_ret
      exact ⟨rfl, col, box_ext HC.out k03, ⟨r, D3⟩, HFIN.out⟩
    | true =>
      have HR := HRR.out
      rw [if_neg (by rw [hx]; simp)] at HR
      have HE := Lib.hid HR
      clear HR HRR hx
      obtain ⟨⟨x0, -, -, -, -⟩, -⟩ := cells_five D3.box
      have hM := D3.map
      go_wp2_with (at_delete; refine wpList_delete_is _ rfl _ _ 120 rfl 147 keyS Tryz.underlying120 r.b _ rfl hM k rfl ?_)
      intro w5 hto
      have D5 := D3.del k hto
      rw [stepF_areas] at D5
      have k05 : Kp (fun j => S3 i (col j)) w w5 := k03.trans' hto.2 (fun j _ c => by rw [c, D3.bc]; unfold S3; omega)
      have HD5 := Lib.hid D5
      have HK5 := Lib.hid k05
      clear hto D5 k05 k03 D3 hM x0
      go_wp2_with fail
      go_ret
      have hE := HE.out
      subst hE
      exact ⟨rfl, col, box_ext HC.out HK5.out, ⟨_, HD5.out⟩, HFIN.out⟩
  · rw [if_pos hz] at HR
    have e0 : (((barsF s k true : Nat) : Int) != 0) = true := by
      have h : ((barsF s k true : Nat) : Int) ≠ 0 := by omega
      simpa using h
    subst HR
    have HZ := Lib.hid hz
    clear hz
    go_wp2_with fail
    go_ret
    exact ⟨rfl, col, Ext.quiet HC.out k1, ⟨r, hr1⟩, HOK.out⟩

end Go.Proofs.YtgbgbokcohfnpaaGreat

/-
  THE WALKS of a disk's Cut, Read, Fuse, Free, Steps, Down, List.
-/
namespace Go.Proofs.YtgbgbokcohfnpaaGreat
open Go.RowKit

theorem Own.front {F : Nat → Prop} {w : World} {e : Nat} {ao : Option Addr} {n cap : Nat} {l : List UInt8} (h : Own F w e 1 ao n cap (bv l)) {k : Nat} (hk : k ≤ n) : Own F w e 1 ao k k (bv (l.take k)) := by
  obtain ⟨h1, h2, h3, h4⟩ := h
  rw [length_bv] at h1
  refine ⟨by rw [length_bv, List.length_take]; omega, Nat.le_refl _, by omega, ?_⟩
  rcases h4 with rfl | ⟨g, off, cur, ha, hg, hh, hb, hr⟩
  · left; omega
  · refine Or.inr ⟨g, off, cur, ha, hg, hh, by omega, fun i hi => ?_⟩
    rw [length_bv, List.length_take] at hi
    rw [hr i (by rw [length_bv]; omega)]
    simp [bv]

theorem cutF_ok {s : DS} (h : DOk s) (k : ByteArray) (n : Int) (hn : s.steps < 4611686018427387904) : DOk (cutF s k n).1 := by
  unfold cutF
  split
  · exact h
  · rename_i h1
    split
    · exact h
    · rename_i h2
      split
      · exact h.step hn
      · obtain ⟨-, hk, hp⟩ := barsF_zero (by omega : barsF s k true = 0)
        have hg := h.get k
        refine (h.step hn).put hk ⟨by unfold cutA; simp only []; omega, by unfold cutA; simp only [List.length_take]; omega, by unfold cutA; simp only [List.length_take]; omega⟩ (fun c => ?_)
        rw [stepF_areas] at c
        exact absurd c (hp rfl)

set_option maxHeartbeats 1000000 in
set_option maxRecDepth 100000 in
theorem cut_dk (B : Nat) (col : Nat → Nat) (i p : Nat) (s : DS) (k : ByteArray) (n : Int) (w : World) (h : Dk col i w p s) (hc : Cols B w col) (hBw : B ≤ w.heap.size) (hk : k.size ≤ 9223372036854775807) (hst : s.steps < 4611686018427387904) :
    Calls Tryz.prog 57 #[.pointer (some ⟨p, 0, none⟩), .string k, .int .i64 n] w fun e w' => e = .returned (.int .i64 ((cutF s k n).2 : Int)) ∧ ∃ col', Ext B (S3 i) col w col' w' ∧ Dk col' i w' p (cutF s k n).1 := by
  have hfin := cutF_ok h.2 k n hst
  obtain ⟨⟨r, hr⟩, hok⟩ := h
  obtain ⟨RES, hRES⟩ : ∃ x, Hid (cutF s k n = x) := ⟨_, Lib.hid rfl⟩
  have HFIN := Lib.hid hfin
  rw [hRES.out] at HFIN ⊢
  have HR := hRES.out
  unfold cutF at HR
  have HOK := Lib.hid hok
  have hstp := hok.steps
  have hfus := hok.fuse
  have HC := Lib.hid hc
  clear hfin hRES hok hc
  go_enter Tryz.func57, Tryz.ntmps57
  go_wp2_with fail
  refine (bars_at col i p s r k true w hr hk).mono ?_
  rintro e w1 ⟨rfl, k1⟩
  have hr1 := hr.keep k1
  clear hr
  by_cases hz : barsF s k true = 0
  · rw [if_neg (by omega)] at HR
    have e0 : (((barsF s k true : Nat) : Int) != 0) = false := by rw [hz]; rfl
    clear hz
    obtain ⟨ao, c0, hown, hlk⟩ := hr1.lookup k false
    simp only [Bool.false_eq_true, if_false] at hlk
    obtain ⟨⟨q0, -, -, -, -⟩, -⟩ := cells_five hr1.box
    have hgk := HOK.out.get k
    generalize get0 k s.areas = a at *
    obtain ⟨ad, sf⟩ := a
    simp only [] at hown hlk HR hgk
    have HRR := Lib.hid HR
    have kA : Kp Noone w1 (w1.alloc (.cells #[.slice ao ad.length c0, .int .i64 sf] 147)) := (Kp.refl _ _).alloc _
    have hAb := heap_alloc_new w1 (.cells #[.slice ao ad.length c0, .int .i64 sf] 147)
    have hrA := hr1.keep kA
    have hownA := hown.keep kA
    have KA := k1.trans kA
    have hWg : Hid (w.heap.size ≤ w1.heap.size) := Lib.hid k1.size
    clear hr1 hown k1 kA HR
    by_cases hbad : n < 0 ∨ (ad.length : Int) < n
    · have HR := HRR.out
      rw [if_pos hbad] at HR
      subst HR
      have HC2 := Lib.hid (Ext.quiet (S := S3 i) HC.out KA)
      have HD2 := Lib.hid hrA
      clear KA hrA hownA hAb HRR
      have hcase : n < 0 ∨ (¬ n < 0 ∧ n > (ad.length : Int)) := by omega
      clear hbad
      rcases hcase with c | ⟨c, c2⟩
      · go_wp2_with fail
        go_ret
        exact ⟨rfl, col, HC2.out, ⟨r, HD2.out⟩, HOK.out⟩
      · go_wp2_with fail
        go_ret
        exact ⟨rfl, col, HC2.out, ⟨r, HD2.out⟩, HOK.out⟩
    · have HR := HRR.out
      rw [if_neg hbad] at HR
      have HR2 := Lib.hid HR
      have c1 : ¬ n < 0 := fun c => hbad (Or.inl c)
      have c2 : ¬ n > (ad.length : Int) := fun c => hbad (Or.inr c)
      clear HR HRR hbad
      go_wp2_with fail
      generalize w1.alloc (.cells #[.slice ao ad.length c0, .int .i64 sf] 147) = wA at *
      generalize w1.heap.size = g at *
      refine (step_at col i p s r wA hrA hfus ⟨hstp.1, hst⟩).mono ?_
      rintro e w3 ⟨rfl, D3, k3⟩
      have hpw := hrA.pc
      have k03 : Kp (fun j => S3 i (col j)) w w3 := KA.none.trans (k3.mono (fun j _ c => by rw [c, hpw]; unfold S3; omega))
      have hgp : g ≠ p := fun c => by have := (HC.out p (by omega)).2; have := hWg.out; omega
      have hA3 := k3.heap hAb hgp
      have ho3 := hownA.kp k3 (fun j c d => by have h1 := hrA.gcol k j c; rw [d] at h1; omega)
      clear hAb hownA KA k3 hrA q0 hlk
      cases hx : (stepF s).2 with
      | false =>
        have HR := HR2.out
        rw [if_pos hx] at HR
        subst HR
        clear hx
        go_wp2_with fail
        go_ret
        exact ⟨rfl, col, box_ext HC.out k03, ⟨r, D3⟩, HFIN.out⟩
      | true =>
        have HR := HR2.out
        rw [if_neg (by rw [hx]; simp)] at HR
        have HE := Lib.hid HR
        clear HR HR2 hx
        obtain ⟨m, rfl⟩ : ∃ m : Nat, n = m := ⟨n.toNat, by omega⟩
        have hm : m ≤ ad.length := by omega
        have hmc : m ≤ c0 := by have := ho3.2.1; omega
        obtain ⟨z0, z1, -, -⟩ := cells_two hA3
        obtain ⟨⟨x0, -, -, -, -⟩, -⟩ := cells_five D3.box
        have kd : Kp Noone w3 w3.drew := (Kp.refl _ _).drew
        have hM4 := D3.map.kp kd id
        obtain ⟨w5, hrun, hto⟩ := hM4.update (P := Tryz.prog) (t := 9) (m := 120) (e := 147) keyS Tryz.underlying120 k (.agg #[.slice ao m m, .int .i64 (min sf m)])
        simp only [encS] at hrun
        have htl : (ad.take m).length = m := by rw [List.length_take]; omega
        have hval : (⟨ad.take m, min sf m, ao, m⟩ : Ar).val = .agg #[.slice ao m m, .int .i64 (min sf m)] := by unfold Ar.val; rw [htl]
        rw [← hval] at hto
        obtain ⟨col5, r5, D5, E5⟩ := put_ext HC.out hBw k03 D3 k ⟨ad.take m, min sf m, ao, m⟩ (F := r.G k) (X := Noone) (fun j c => c.elim) kd.none (by show Own _ _ _ _ _ (ad.take m).length _ _; rw [htl]; exact (ho3.front hm).keep kd) (fun j c => Or.inl c) hto
        have HD5 := Lib.hid D5
        have HE5 := Lib.hid E5
        clear hM4 hto D5 E5 kd D3 k03 ho3 hA3 htl hval hpw
        go_upto_region 9 with fail
        go_region
        all_goals (
          go_wp2_with fail
          go_ret
          have hE := HE.out
          subst hE
          exact ⟨rfl, col5, HE5.out, ⟨r5, HD5.out⟩, HFIN.out⟩)
  · rw [if_pos hz] at HR
    have e0 : (((barsF s k true : Nat) : Int) != 0) = true := by
      have h : ((barsF s k true : Nat) : Int) ≠ 0 := by omega
      simpa using h
    subst HR
    have HZ := Lib.hid hz
    clear hz
    go_wp2_with fail
    go_ret
    exact ⟨rfl, col, Ext.quiet HC.out k1, ⟨r, hr1⟩, HOK.out⟩

end Go.Proofs.YtgbgbokcohfnpaaGreat

/-
  THE WALKS of a disk's Read, Fuse, Free, Steps, Down, List.
-/
namespace Go.Proofs.YtgbgbokcohfnpaaGreat
open Go.RowKit

set_option maxHeartbeats 1000000 in
set_option maxRecDepth 100000 in
theorem read_dk (col : Nat → Nat) (i p : Nat) (s : DS) (k : ByteArray) (w : World) (h : Dk col i w p s) (hk : k.size ≤ 9223372036854775807) :
    Calls Tryz.prog 103 #[.pointer (some ⟨p, 0, none⟩), .string k] w fun e w' => ∃ bo c, e = .returned (.tuple #[.slice bo (readF s k).1.length c, .int .i64 ((readF s k).2 : Int)]) ∧ Own (fun j => w.heap.size ≤ j) w' 5 1 bo (readF s k).1.length c (bv (readF s k).1) ∧ Kp Noone w w' := by
  obtain ⟨⟨r, hr⟩, hok⟩ := h
  obtain ⟨RES, hRES⟩ : ∃ x, Hid (readF s k = x) := ⟨_, Lib.hid rfl⟩
  rw [hRES.out]
  have HR := hRES.out
  unfold readF at HR
  have HOK := Lib.hid hok
  clear hRES hok
  go_enter Tryz.func103, Tryz.ntmps103
  go_wp2_with fail
  refine (bars_at col i p s r k true w hr hk).mono ?_
  rintro e w1 ⟨rfl, k1⟩
  have hr1 := hr.keep k1
  clear hr
  by_cases hz : barsF s k true = 0
  · rw [if_neg (by omega)] at HR
    have e0 : (((barsF s k true : Nat) : Int) != 0) = false := by rw [hz]; rfl
    clear hz
    obtain ⟨ao, c0, hown, hlk⟩ := hr1.lookup k false
    simp only [Bool.false_eq_true, if_false] at hlk
    obtain ⟨⟨q0, -, -, -, -⟩, -⟩ := cells_five hr1.box
    have hgk := HOK.out.get k
    generalize get0 k s.areas = a at *
    obtain ⟨ad, sf⟩ := a
    simp only [] at hown hlk HR hgk
    have HE := Lib.hid HR
    have hbs := hown.bs
    have hfd : ∀ w : World, (Instr.field 147 (.agg #[.slice ao ad.length c0, .int .i64 sf]) 0).run Tryz.prog w = .ok (.slice ao ad.length c0) w := fun _ => by kernel_rfl
    have HS := Lib.hid k1.size
    have HK1 := Lib.hid k1
    clear HR hown hr1 k1
    go_wp2_with fail
    refine (clone_any ao ad.length c0 ad w1 hbs hgk.2.2).mono ?_
    rintro e w2 ⟨bo, c, rfl, ho, k2⟩
    have HO := Lib.hid (ho.mono (G := fun j => w.heap.size ≤ j) (fun j _ d => Nat.le_trans HS.out d))
    have HK2 := Lib.hid (HK1.out.trans k2)
    clear ho k2 hlk q0 hbs
    go_wp2_with fail
    go_ret2
    have hE := HE.out
    subst hE
    exact ⟨bo, c, rfl, HO.out, HK2.out⟩
  · rw [if_pos hz] at HR
    have e0 : (((barsF s k true : Nat) : Int) != 0) = true := by
      have h : ((barsF s k true : Nat) : Int) ≠ 0 := by omega
      simpa using h
    subst HR
    have HZ := Lib.hid hz
    clear hz
    go_wp2_with fail
    go_ret2
    exact ⟨none, 0, rfl, Own.nil _ _ _ _ _, k1⟩

theorem fuseF_ok {s : DS} (h : DOk s) {n : Int} (hn : n ≤ 9223372036854775807) : DOk (fuseF s n) :=
  ⟨h.room, h.keys, h.len, h.each, h.names, h.steps, by unfold fuseF; simp only []; omega⟩

set_option maxHeartbeats 1000000 in
set_option maxRecDepth 100000 in
theorem fuse_dk (B : Nat) (col : Nat → Nat) (i p : Nat) (s : DS) (n : Int) (w : World) (h : Dk col i w p s) (hc : Cols B w col) (hn : n ≤ 9223372036854775807) :
    Calls Tryz.prog 30 #[.pointer (some ⟨p, 0, none⟩), .int .i64 n] w fun e w' => e = .returned (.tuple #[]) ∧ ∃ col', Ext B (S3 i) col w col' w' ∧ Dk col' i w' p (fuseF s n) := by
  have hfin := fuseF_ok h.2 hn
  obtain ⟨⟨r, hr⟩, hok⟩ := h
  have H := Lib.hid hr
  have HC := Lib.hid hc
  have HF := Lib.hid hfin
  obtain ⟨⟨q0, q1, q2, q3, q4⟩, qf⟩ := cells_five hr.box
  clear hr hok hc hfin
  go_enter Tryz.func30, Tryz.ntmps30
  go_wp2_with fail
  all_goals (
    go_end0
    have k2 : ∀ a, Kp (fun j => j = p) w (w.setCell ⟨p, 3, none⟩ a) := fun a => (Kp.refl (fun j => j = p) w).setCell (fun _ => rfl) _
    refine ⟨rfl, col, box_ext HC.out ((k2 _).mono (fun j _ c => by rw [c, H.out.pc]; unfold S3; omega)), ⟨r, H.out.setBox (k2 _) rfl ?_⟩, HF.out⟩
    exact (heap_set_cell H.out.box).trans (by unfold fuseF; simp <;> omega))

set_option maxHeartbeats 1000000 in
theorem down_dk (col : Nat → Nat) (i p : Nat) (s : DS) (w : World) (h : Dk col i w p s) :
    Calls Tryz.prog 32 #[.pointer (some ⟨p, 0, none⟩)] w fun e w' => e = .returned (.bool s.down) ∧ w = w' := by
  obtain ⟨⟨r, hr⟩, -⟩ := h
  obtain ⟨⟨q0, q1, q2, q3, q4⟩, -⟩ := cells_five hr.box
  go_enter Tryz.func32, Tryz.ntmps32
  go_wp2_with fail
  go_ret
  exact ⟨rfl, rfl⟩

def listF (s : DS) : List ByteArray := if s.down = true then [] else namesF s
set_option maxHeartbeats 1000000 in
set_option maxRecDepth 100000 in
theorem list_dk (col : Nat → Nat) (i p : Nat) (s : DS) (w : World) (h : Dk col i w p s) :
    Calls Tryz.prog 101 #[.pointer (some ⟨p, 0, none⟩)] w fun e w' => ∃ no cap, e = .returned (.slice no (listF s).length cap) ∧ Own (fun j => w.heap.size ≤ j) w' 9 1 no (listF s).length cap ((listF s).map Value.string) ∧ Kp Noone w w' := by
  obtain ⟨⟨r, hr⟩, hok⟩ := h
  obtain ⟨⟨q0, q1, q2, q3, q4⟩, -⟩ := cells_five hr.box
  have HL : Hid (∃ x, listF s = x) := Lib.hid ⟨_, rfl⟩
  obtain ⟨x, hx⟩ := HL.out
  have HX := hx
  unfold listF at HX
  have HXX := Lib.hid hx
  rw [hx]
  clear hx HL
  cases hd : s.down with
  | true =>
    rw [hd] at q4 HX
    rw [if_pos rfl] at HX
    subst HX
    go_enter Tryz.func101, Tryz.ntmps101
    go_wp2_with fail
    go_ret
    exact ⟨none, 0, rfl, Own.nil _ _ _ _ _, Kp.refl _ _⟩
  | false =>
    rw [hd] at q4 HX
    rw [if_neg (by simp)] at HX
    have HN := Lib.hid HX
    have HR := Lib.hid hr
    have HO := Lib.hid hok
    clear HX hr hok
    go_enter Tryz.func101, Tryz.ntmps101
    go_wp2_with fail
    refine (names_at col i p s r w HR.out HO.out).mono ?_
    rw [HN.out]
    rintro e w1 ⟨no, cap, rfl, ho, k1⟩
    go_wp2_with fail
    go_ret
    exact ⟨no, cap, rfl, ho, k1⟩

end Go.Proofs.YtgbgbokcohfnpaaGreat

/-
  THE WALK of a disk's Crash.
-/
namespace Go.Proofs.YtgbgbokcohfnpaaGreat
open Go.RowKit

theorem alPut_fst {V : Type} (k : ByteArray) (a : V) (l : List (ByteArray × V)) (h : k ∈ l.map (·.1)) : (alPut k a l).map (·.1) = l.map (·.1) := by
  induction l with
  | nil => simp at h
  | cons p r ih =>
    unfold alPut
    by_cases hk : k = p.1
    · rw [if_pos hk]; simp [hk]
    · rw [if_neg hk]
      rw [List.map_cons, List.mem_cons] at h
      rw [List.map_cons, List.map_cons, ih (h.resolve_left hk)]
theorem get_ne {V : Type} {k : ByteArray} {l : List (ByteArray × V)} (h : k ∈ l.map (·.1)) : alGet k l ≠ none := fun c => (alGet_none k l).1 c h
theorem crashA_le {t : DS} (h : DOk t) (k : ByteArray) (x : Option Int) : (get0 k t.areas).safe ≤ crashA t (get0 k t.areas) x ∧ crashA t (get0 k t.areas) x ≤ (get0 k t.areas).data.length := by
  have hg := h.get k
  unfold crashA keepN
  cases x with
  | none => simp only []; omega
  | some v => simp only []; omega
theorem crash1_ok {t : DS} (h : DOk t) {k : ByteArray} (hk : k ∈ t.areas.map (·.1)) (x : Option Int) : DOk (crash1 t k x) := by
  have hg := h.get k
  have ha := crashA_le h k x
  unfold crash1
  obtain ⟨y, hy, rfl⟩ := List.mem_map.1 hk
  refine h.put (h.names y hy) ⟨by simp only []; omega, by simp only [List.length_take]; omega, by simp only [List.length_take]; omega⟩ (fun c => absurd c (get_ne hk))
theorem crashUp_ok {s : DS} (h : DOk s) (ns : List ByteArray) (hn : ∀ k ∈ ns, k ∈ s.areas.map (·.1)) (keep : List Int) : ∀ j, j ≤ ns.length → DOk (crashUp ns keep s j) ∧ (crashUp ns keep s j).areas.map (·.1) = s.areas.map (·.1)
  | 0, _ => ⟨h, rfl⟩
  | j + 1, hj => by
    obtain ⟨h1, h2⟩ := crashUp_ok h ns hn keep j (by omega)
    have hj' : j < ns.length := by omega
    have hm : ns[j] ∈ (crashUp ns keep s j).areas.map (·.1) := by rw [h2]; exact hn _ (List.getElem_mem hj')
    show DOk (crash1 (crashUp ns keep s j) (ns[j]?.getD ByteArray.empty) keep[j]?) ∧ (crash1 (crashUp ns keep s j) (ns[j]?.getD ByteArray.empty) keep[j]?).areas.map (·.1) = _
    rw [List.getElem?_eq_getElem hj', Option.getD_some]
    exact ⟨crash1_ok h1 hm _, by rw [← h2]; exact alPut_fst _ _ _ hm⟩
theorem crashUp_room (ns : List ByteArray) (keep : List Int) (s : DS) : ∀ j, (crashUp ns keep s j).room = s.room ∧ (crashUp ns keep s j).steps = s.steps
  | 0 => ⟨rfl, rfl⟩
  | j + 1 => crashUp_room ns keep s j
theorem namesF_mem {s : DS} : ∀ k ∈ namesF s, k ∈ s.areas.map (·.1) := fun _ hk => (sortN_of _).subset hk
theorem IS.kp {w w' : World} {ao : Option Addr} {n cap : Nat} {xs : List Int} {S : Nat → Prop} (h : IS w ao n cap xs) (k : Kp S w w') (hd : xs ≠ [] → ∀ a, ao = some a → ¬ S a.block) : IS w' ao n cap xs := by
  refine ⟨h.len, h.le, h.max, ?_⟩
  by_cases hx : xs = []
  · subst hx; exact Row.nil _ _
  · exact h.row.kp k (hd hx)

/-- Between two areas. -/
structure CrR (B i p N : Nat) (col : Nat → Nat) (w1 : World) (ns : List ByteArray) (keep : List Int) (s : DS) (v : Value) (wr : World) : Prop where
  ex : ∃ (j : Nat) (col' : Nat → Nat), v = .int .i64 (j : Int) ∧ j ≤ N ∧ Ext B (S3 i) col w1 col' wr ∧ Dk col' i wr p (crashUp ns keep s j)

theorem crashF_ok {s : DS} (h : DOk s) (keep : List Int) : DOk (crashF s keep) := by
  have h1 := (crashUp_ok h (namesF s) namesF_mem keep _ (Nat.le_refl _)).1
  exact ⟨h1.room, h1.keys, h1.len, h1.each, h1.names, h1.steps, by simp [crashF]⟩

set_option maxHeartbeats 2000000 in
set_option maxRecDepth 100000 in
theorem crash_dk (B : Nat) (col : Nat → Nat) (i p : Nat) (s : DS) (fo : Option Addr) (n cap : Nat) (keep : List Int) (w : World) (h : Dk col i w p s) (hc : Cols B w col) (hBw : B ≤ w.heap.size) (hks : IS w fo n cap keep) (hko : keep ≠ [] → ∀ a, fo = some a → col a.block = 0) :
    Calls Tryz.prog 31 #[.pointer (some ⟨p, 0, none⟩), .slice fo n cap] w fun e w' => e = .returned (.tuple #[]) ∧ ∃ col', Ext B (S3 i) col w col' w' ∧ Dk col' i w' p (crashF s keep) := by
  have HFIN := Lib.hid (crashF_ok h.2 keep)
  have HUP := Lib.hid (fun j hj => crashUp_ok h.2 (namesF s) namesF_mem keep j hj)
  have HMEM := Lib.hid (@namesF_mem s)
  obtain ⟨CF, hCF⟩ : ∃ x, Hid (crashF s keep = x) := ⟨_, Lib.hid rfl⟩
  rw [hCF.out] at HFIN ⊢
  have HK := Lib.hid hks
  have HKO := Lib.hid hko
  have HC := Lib.hid hc
  obtain ⟨⟨r, hr⟩, hok⟩ := h
  have HR := Lib.hid hr
  have HOK := Lib.hid hok
  have hnl : (namesF s).length ≤ 64 := by unfold namesF; rw [sortN_length, List.length_map]; exact hok.len
  clear hks hko hc hr hok
  go_enter Tryz.func31, Tryz.ntmps31
  go_wp2_with fail
  refine (names_at col i p s r w HR.out HOK.out).mono ?_
  rintro e w1 ⟨no, ncap, rfl, hns, k1⟩
  have E1 := Ext.quiet (S := S3 i) HC.out k1
  have D1 : Dk col i w1 p (crashUp (namesF s) keep s 0) := ⟨⟨r, HR.out.keep k1⟩, HOK.out⟩
  have hns1 : Hid (Own (fun j => w.heap.size ≤ j ∧ j < w1.heap.size) w1 9 1 no (namesF s).length ncap ((namesF s).map Value.string)) := Lib.hid (hns.mono (fun j hj c => ⟨c, hj⟩))
  have HE1 := Lib.hid E1
  have HR0 : Hid (CrR B i p (namesF s).length col w1 (namesF s) keep s (.int .i64 0) w1) := Lib.hid ⟨⟨0, col, by rfl, Nat.zero_le _, Ext.quiet E1.cols (Kp.refl _ _), D1⟩⟩
  have HKW := Lib.hid (HK.out.keep k1)
  have HK1 := Lib.hid k1
  have hWg0 : Hid (w.heap.size ≤ w1.heap.size) := Lib.hid k1.size
  clear hns k1 E1 D1
  generalize hNS : namesF s = ns at *
  have HNS := Lib.hid hNS
  clear hNS
  generalize hN : ns.length = N at *
  have HN := Lib.hid hN
  clear hN
  go_wp2_with fail
  go_loopw [14] (fun v wr => CrR B i p N col w1 ns keep s v wr) (fun v _ => N - (intOf v).toNat)
  case atStart => exact HR0.out
  case round =>
    clear HR0
    obtain ⟨j, col', rfl, hjN, E, D⟩ := hrel.ex
    by_cases hlt : j < N
    · have hjl : j < ns.length := by have := HN.out; omega
      have hwj : IntKind.i64.wrap ((j : Int) + 1) = (j : Int) + 1 := IntWalk.i64_in _ (by omega)
      have hone : ∀ x, w.heap.size ≤ x ∧ x < w1.heap.size → ¬ S3 i (col x) := fun x hx c => by have := HC.out x (by unfold S3 at c; omega); omega
      have hnr := hns1.out.kp E.kp hone
      obtain ⟨nb, noff, rfl, -, hnbl, hnc, -⟩ := hnr.at (k := j) (by rw [List.length_map]; exact hjl)
      rw [List.getElem_map] at hnc
      have hkr := HKW.out.kp E.kp (fun hx a ha c => by have := HKO.out hx a ha; unfold S3 at c; omega)
      have hkm : ns[j] ∈ s.areas.map (·.1) := by have := HNS.out; subst this; exact HMEM.out _ (List.getElem_mem hjl)
      have hnx : crashUp ns keep s (j + 1) = crash1 (crashUp ns keep s j) ns[j] keep[j]? := by
        show crash1 _ (ns[j]?.getD ByteArray.empty) _ = _
        rw [List.getElem?_eq_getElem hjl]; rfl
      have HUJ := Lib.hid (HUP.out (j + 1) (by have := HN.out; omega)).1
      have hrs := crashUp_room ns keep s j
      generalize hnm : ns[j] = nm at *
      have HNM := Lib.hid hnm
      clear hnm
      rw [hnx] at HUJ
      have HNX := Lib.hid hnx
      generalize crashUp ns keep s j = t at *
      obtain ⟨⟨r, hr⟩, hok⟩ := D
      have HOT := Lib.hid hok
      have HE := Lib.hid E
      have HKR := Lib.hid hkr
      clear hnx hrs E hok hnr hone hkr
      obtain ⟨ao, c0, hown, hlk⟩ := hr.lookup nm false
      simp only [Bool.false_eq_true, if_false] at hlk
      obtain ⟨⟨q0, -, -, -, -⟩, -⟩ := cells_five hr.box
      have hgk := HOT.out.get nm
      have hca := crashA_le HOT.out nm keep[j]?
      have hsum := HOT.out.sum
      have hrm := HOT.out.room
      have hc1 : crash1 t nm keep[j]? = putF t nm ⟨(get0 nm t.areas).data.take (crashA t (get0 nm t.areas) keep[j]?).toNat, crashA t (get0 nm t.areas) keep[j]?⟩ := rfl
      rw [hc1] at HUJ HNX
      clear hc1
      have hcA : crashA t (get0 nm t.areas) keep[j]? = max (get0 nm t.areas).safe (min (keepN (get0 nm t.areas) keep[j]?) (t.room - sumF t.areas + (get0 nm t.areas).safe)) := rfl
      generalize crashA t (get0 nm t.areas) keep[j]? = cn at *
      have hkn : keepN (get0 nm t.areas) keep[j]? = (get0 nm t.areas).safe + (match keep[j]? with
        | some v => max 0 (min v (((get0 nm t.areas).data.length : Int) - (get0 nm t.areas).safe))
        | none => 0) := rfl
      generalize keepN (get0 nm t.areas) keep[j]? = kn at *
      generalize get0 nm t.areas = a at *
      obtain ⟨ad, sf⟩ := a
      simp only [] at hown hlk hgk hca hcA hkn HUJ HNX
      have HCA := Lib.hid hcA
      have HKN := Lib.hid hkn
      have kA : Kp Noone wr (wr.alloc (.cells #[.slice ao ad.length c0, .int .i64 sf] 147)) := (Kp.refl _ _).alloc _
      have hAb := heap_alloc_new wr (.cells #[.slice ao ad.length c0, .int .i64 sf] 147)
      have hrA := hr.keep kA
      have hownA := hown.keep kA
      have HEE := Lib.hid HE.out
      have hWg : Hid (w1.heap.size ≤ wr.heap.size) := Lib.hid HE.out.size
      have HKA := Lib.hid (HKR.out.keep kA)
      have kAC := Lib.hid (HE.out.cols)
      have hkA2 := Lib.hid kA
      clear hr hown kA hcA hkn HE HKR
      go_upto_if 30 with fail
      generalize wr.alloc (.cells #[.slice ao ad.length c0, .int .i64 sf] 147) = wA at *
      clear hlk q0 hnc
      obtain ⟨z0, z1, -, -⟩ := cells_two hAb
      go_cut [7] from 31 to 44 (fun v wx => v = .int .i64 kn ∧ Kp Noone wA wx)
      case first =>
        by_cases hjk : j < n
        · obtain ⟨kb, koff, hkl2, rfl, hkb, hkc⟩ := HKA.out.at hjk
          have hkv : keep[j]? = some keep[j] := List.getElem?_eq_getElem hkl2
          have hkn := HKN.out
          rw [hkv] at hkn
          simp only [] at hkn
          generalize keep[j] = kv at *
          have hw1 : IntKind.i64.wrap ((ad.length : Int) - sf) = (ad.length : Int) - sf := IntWalk.i64_in _ (by omega)
          have hw2 : IntKind.i64.wrap (sf + max 0 (min kv ((ad.length : Int) - sf))) = sf + max 0 (min kv ((ad.length : Int) - sf)) := IntWalk.i64_in _ (by omega)
          have HQ := Lib.hid hkn
          clear hkn hkv
          go_wp2_with fail
          go_region
          all_goals (
            go_wp2_with fail
            go_meet
            case rel => exact ⟨by rw [HQ.out], (Kp.refl _ _).drew⟩)
        · have hkv : keep[j]? = none := List.getElem?_eq_none (by have := HKA.out.len; omega)
          have hkn := HKN.out
          rw [hkv] at hkn
          simp only [Int.add_zero] at hkn
          have HQ := Lib.hid hkn
          clear hkn hkv
          go_wp2_with fail
          go_meet
          case rel => exact ⟨by rw [HQ.out], Kp.refl _ _⟩
      case rest =>
        obtain ⟨rfl, kc⟩ := hcut
        have hAc := kc.heap hAb id
        have hrc := hrA.keep kc
        have hoc := hownA.keep kc
        have hkAc := hkA2.out.trans kc
        clear hAb hrA hownA kc z0 z1
        have hw3 : IntKind.i64.wrap (t.room - sumF t.areas) = t.room - sumF t.areas := IntWalk.i64_in _ (by omega)
        have hw4 : IntKind.i64.wrap (t.room - sumF t.areas + sf) = t.room - sumF t.areas + sf := IntWalk.i64_in _ (by omega)
        have hcl := safe_at col' i p t r wc.drew (hrc.keep ((Kp.refl Noone wc).drew)) HOT.out
        have hS : ∀ w', Kp Noone wc w' → w'.cell? ⟨p, 1, none⟩ = some (.int .i64 t.room) ∧ w'.cell? ⟨wr.heap.size, 1, none⟩ = some (.int .i64 sf) := fun w' kk => ⟨(cells_five (kk.heap hrc.box id)).1.2.1, (keep_cells hAc kk).2⟩
        generalize sumF t.areas = sm at *
        go_upto_region 8 with fail
        go_region_held3 (fun w' => w'.cell? ⟨p, 1, none⟩ = some (.int .i64 t.room) ∧ w'.cell? ⟨wr.heap.size, 1, none⟩ = some (.int .i64 sf))
          (first | exact hS _ ((Kp.refl Noone wc).drew) | exact hS _ (((Kp.refl Noone wc).drew).trans k') | assumption)
          (first
            | (go_at_call 67; refine hcl.mono ?_; rintro e w' ⟨rfl, k'⟩))
        have k6 := ((Kp.refl Noone wc).drew).trans k'
        have hA6 := k6.heap hAc id
        have hr6 := hrc.keep k6
        have ho6 := hoc.keep k6
        have hk6 := hkAc.trans k6
        clear hcl hS k6 k' hrc hoc hAc hkAc
        obtain ⟨m, hm⟩ : ∃ m : Nat, cn = m := ⟨cn.toNat, by omega⟩
        subst hm
        have hml : m ≤ ad.length := by omega
        have hmc : m ≤ c0 := by have := ho6.2.1; omega
        obtain ⟨z0, z1, -, -⟩ := cells_two hA6
        obtain ⟨⟨x0, -, -, -, -⟩, -⟩ := cells_five hr6.box
        have kd : Kp Noone w' w'.drew := (Kp.refl _ _).drew
        have hM6 := hr6.map.kp kd id
        obtain ⟨w7, hrun, hto⟩ := hM6.update (P := Tryz.prog) (t := 9) (m := 120) (e := 147) keyS Tryz.underlying120 nm (.agg #[.slice ao m m, .int .i64 (m : Int)])
        simp only [encS] at hrun
        have htl : (ad.take m).length = m := by rw [List.length_take]; omega
        have hval : (⟨ad.take m, (m : Int), ao, m⟩ : Ar).val = .agg #[.slice ao m m, .int .i64 (m : Int)] := by unfold Ar.val; rw [htl]
        rw [← hval] at hto
        obtain ⟨col5, r5, D5, E5⟩ := put_ext (B := B) kAC.out (Nat.le_trans (Nat.le_trans hBw hWg0.out) hWg.out) (hk6.none) hr6 nm ⟨ad.take m, (m : Int), ao, m⟩ (F := r.G nm) (X := Noone) (fun j c => c.elim) kd.none (by show Own _ _ _ _ _ (ad.take m).length _ _; rw [htl]; exact (ho6.front hml).keep kd) (fun j c => Or.inl c) hto
        have HD5 := Lib.hid D5
        have HE5 := Lib.hid (HEE.out.trans E5)
        clear hM6 hto D5 E5 kd ho6 hA6 htl hval hr6 hk6
        go_upto_region 10 with fail
        rw [← HCA.out]
        go_region
        all_goals (
          have R := Lib.hid (CrR.mk (N := N) (v := .int .i64 ((j + 1 : Nat) : Int)) ⟨j + 1, col5, by rfl, by omega, HE5.out, by rw [HNX.out]; exact ⟨⟨r5, HD5.out⟩, HUJ.out⟩⟩)
          go_wp2_with fail
          go_roundw
          case rel => exact R.out
          case measure => simp [intOf]; omega)
    · obtain rfl : j = N := by omega
      obtain ⟨⟨r, hr⟩, hok⟩ := D
      have HRR := Lib.hid hr
      have HEE := Lib.hid ((Ext.quiet (S := S3 i) HC.out HK1.out).trans E)
      obtain ⟨⟨q0, q1, q2, q3, q4⟩, qf⟩ := cells_five hr.box
      have hCF := hCF.out
      unfold crashF at hCF
      rw [HNS.out, HN.out] at hCF
      have HCF := Lib.hid hCF
      generalize crashUp ns keep s j = t at *
      clear hr hok E hCF
      go_wp2_with fail
      go_end0
      have k2 : Kp (fun j => j = p) wr ((wr.setCell ⟨p, 3, none⟩ (.int .i64 0)).setCell ⟨p, 4, none⟩ (.bool false)) := ((Kp.refl (fun j => j = p) wr).setCell (fun _ => rfl) _).setCell (fun _ => rfl) _
      have e2 : Ext B (S3 i) col' wr col' _ := box_ext HEE.out.cols (k2.mono (fun j _ c => by rw [c, HRR.out.pc]; unfold S3; omega))
      have hE := HCF.out
      subst hE
      refine ⟨rfl, col', HEE.out.trans e2, ⟨r, HRR.out.setBox k2 rfl ?_⟩, HFIN.out⟩
      exact (heap_set_cell (heap_set_cell HRR.out.box)).trans (by simp)

end Go.Proofs.YtgbgbokcohfnpaaGreat

/-
  THE WALK of the disk laws' head.
-/
namespace Go.Proofs.YtgbgbokcohfnpaaGreat
open Go.RowKit

theorem newF_ok (room : Int) : DOk (newF room) :=
  ⟨by unfold newF; simp only []; omega, by simp [newF], by simp [newF], fun x hx => by simp [newF] at hx, fun x hx => by simp [newF] at hx, by simp [newF], by simp [newF]⟩
theorem new_dk (B : Nat) (col : Nat → Nat) (i : Nat) (room : Int) (w : World) (hc : Cols B w col) (hBw : B ≤ w.heap.size) :
    Calls Tryz.prog 20 #[.int .i64 room] w fun e w' => ∃ p col', e = .returned (.pointer (some ⟨p, 0, none⟩)) ∧ Ext B (S3 i) col w col' w' ∧ Dk col' i w' p (newF room) := by
  refine (new_at B col i room w hc hBw).mono ?_
  rintro e w1 ⟨p, rfl, col', r, k, h1, h2, h3, h4⟩
  exact ⟨p, col', rfl, ⟨h1, h2, h3, k.none⟩, ⟨r, h4⟩, newF_ok _⟩
theorem IS.ofHeap {w : World} {g n : Nat} {xs : List Int} (h : w.heap[g]? = some (.cells (xs.map (Value.int .i64)).toArray 3 (0, 0))) (hl : xs.length = n) (hm : n ≤ maxLen) : IS w (some ⟨g, 0, none⟩) n n xs :=
  ⟨hl, Nat.le_refl _, hm, Row.ofHeap h⟩
theorem IS.nil (w : World) : IS w none 0 0 [] := ⟨rfl, Nat.le_refl _, by simp [maxLen], Or.inl rfl⟩

theorem cols_new {B : Nat} {w : World} {col : Nat → Nat} (h : Cols B w col) {j : Nat} (hj : w.heap.size ≤ j) : col j = 0 := Classical.byContradiction fun d => by have := (h j d).2; omega

def nA : ByteArray := { data := #[97] }
def hd1 : DS := (appendF (newF 4) nA [1, 2, 3]).1
def hd2 : DS := (syncF hd1 nA).1
def hd3 : DS := (appendF hd2 nA [4, 5]).1
def hd4 : DS := (syncF hd3 nA).1
def hd5 : DS := crashF hd4 [9]
attribute [local irreducible] appendF syncF crashF readF newF hd1 hd2 hd3 hd4 hd5 sumF
end Go.Proofs.YtgbgbokcohfnpaaGreat

/-
  THE WALK of a disk's Image.
-/
namespace Go.Proofs.YtgbgbokcohfnpaaGreat
open Go.RowKit

abbrev Hs := List (Option Addr × Nat × Nat)
abbrev Img := List (ByteArray × AreaP)
def imgC : Img → Hs → List Value
  | x :: r, h :: t => .string x.1 :: .slice h.1 h.2.1 h.2.2 :: .int .i64 x.2.safe :: imgC r t
  | _, _ => []
theorem imgC_length : ∀ (L : Img) (hs : Hs), hs.length = L.length → (imgC L hs).length = L.length * 3
  | [], [], _ => rfl
  | x :: r, h :: t, e => by
    have := imgC_length r t (by simpa using e)
    simp [imgC, this]; omega
  | [], _ :: _, e => by simp at e
  | _ :: _, [], e => by simp at e
theorem imgC_snoc : ∀ (L : Img) (hs : Hs) (x : ByteArray × AreaP) (h : Option Addr × Nat × Nat), hs.length = L.length → imgC (L ++ [x]) (hs ++ [h]) = imgC L hs ++ [.string x.1, .slice h.1 h.2.1 h.2.2, .int .i64 x.2.safe]
  | [], [], _, _, _ => rfl
  | y :: r, g :: t, x, h, e => by
    have := imgC_snoc r t x h (by simpa using e)
    simp [imgC, this]
  | [], _ :: _, _, _, e => by simp at e
  | _ :: _, [], _, _, e => by simp at e
theorem imgC_get : ∀ (L : Img) (hs : Hs) (k : Nat) (h1 : k < L.length) (h2 : k < hs.length), (imgC L hs)[k * 3]? = some (.string L[k].1) ∧ (imgC L hs)[k * 3 + 1]? = some (.slice hs[k].1 hs[k].2.1 hs[k].2.2) ∧ (imgC L hs)[k * 3 + 2]? = some (.int .i64 L[k].2.safe)
  | x :: r, h :: t, 0, _, _ => by simp [imgC]
  | x :: r, h :: t, k + 1, h1, h2 => by
    have := imgC_get r t k (by simpa using h1) (by simpa using h2)
    have e1 : (k + 1) * 3 = k * 3 + 1 + 1 + 1 := by omega
    rw [e1]
    simpa [imgC] using this

/-- An image in new memory: its row in blocks A, the bytes of each area in blocks of their own. -/
structure ImgP (z : Nat) (w : World) (ao : Option Addr) (n cap : Nat) (L : Img) (hs : Hs) (A : Nat → Prop) (G : Nat → Nat → Prop) : Prop where
  base : ∀ k, A k → z ≤ k
  data0 : ∀ j k, G j k → z ≤ k ∧ ¬ A k
  inj : ∀ i j k, G i k → G j k → i = j
  len : L.length = n
  hlen : hs.length = n
  own : Own A w 150 3 ao n cap (imgC L hs)
  data : ∀ j (h1 : j < hs.length) (h2 : j < L.length), Own (G j) w 5 1 hs[j].1 hs[j].2.1 hs[j].2.2 (bv L[j].2.data)
def ImgAt (z : Nat) (w : World) (ao : Option Addr) (n cap : Nat) (L : Img) : Prop := ∃ hs A G, ImgP z w ao n cap L hs A G
theorem ImgAt.nil (z : Nat) (w : World) (ao : Option Addr) : ImgAt z w ao 0 0 [] :=
  ⟨[], Noone, fun _ _ => False, fun _ c => c.elim, fun _ _ c => c.elim, fun _ _ _ c => c.elim, rfl, rfl, Own.nil _ _ _ _ _, fun j h => by simp at h⟩
theorem ImgP.kp {z : Nat} {w w' : World} {ao : Option Addr} {n cap : Nat} {L : Img} {hs : Hs} {A : Nat → Prop} {G : Nat → Nat → Prop} {S : Nat → Prop} (h : ImgP z w ao n cap L hs A G) (k : Kp S w w') (hS : ∀ j, z ≤ j → j < w.heap.size → ¬ S j) : ImgP z w' ao n cap L hs A G := by
  have k2 : Kp (fun j => S j ∧ j < w.heap.size) w w' := k.mono (fun j hj c => ⟨c, hj⟩)
  exact ⟨h.base, h.data0, h.inj, h.len, h.hlen, h.own.kp k2 (fun j c d => hS j (h.base j c) d.2 d.1), fun j a b => (h.data j a b).kp k2 (fun i c d => hS i (h.data0 j i c).1 d.2 d.1)⟩
theorem ImgAt.kp {z : Nat} {w w' : World} {ao : Option Addr} {n cap : Nat} {L : Img} {S : Nat → Prop} (h : ImgAt z w ao n cap L) (k : Kp S w w') (hS : ∀ j, z ≤ j → j < w.heap.size → ¬ S j) : ImgAt z w' ao n cap L := by
  obtain ⟨hs, A, G, h⟩ := h
  exact ⟨hs, A, G, h.kp k hS⟩
theorem ImgAt.keep {z : Nat} {w w' : World} {ao : Option Addr} {n cap : Nat} {L : Img} (h : ImgAt z w ao n cap L) (k : Kp Noone w w') : ImgAt z w' ao n cap L := h.kp k (fun _ _ _ c => c)
theorem ImgAt.low {z z' : Nat} {w : World} {ao : Option Addr} {n cap : Nat} {L : Img} (h : ImgAt z w ao n cap L) (hz : z' ≤ z) : ImgAt z' w ao n cap L := by
  obtain ⟨hs, A, G, h⟩ := h
  exact ⟨hs, A, G, fun k c => Nat.le_trans hz (h.base k c), fun j k c => ⟨Nat.le_trans hz (h.data0 j k c).1, (h.data0 j k c).2⟩, h.inj, h.len, h.hlen, h.own, h.data⟩
/-- One area more. -/
theorem ImgP.snoc {z : Nat} {w1 w4 w5 w6 w7 : World} {A : Nat → Prop} {G : Nat → Nat → Prop} {hs : Hs} {n : Nat} {L : Img} {ao : Option Addr} {cap : Nat} {k : ByteArray} {a : AreaP} {xo : Option Addr} {xc : Nat} {ao' : Option Addr} {cap' : Nat}
    (h : ImgP z w1 ao n cap L hs A G) (hz : z ≤ w1.heap.size) (hAlt : ∀ k, A k → k < w1.heap.size) (k14 : Kp Noone w1 w4) (hx : Own (fun j => w4.heap.size ≤ j) w5 5 1 xo a.data.length xc (bv a.data)) (k45 : Kp Noone w4 w5) (k56 : Kp Noone w5 w6)
    (ho : Own (Ex A w6 w7) w7 150 3 ao' (n + 1) cap' (imgC L hs ++ [.string k, .slice xo a.data.length xc, .int .i64 a.safe])) (k67 : Kp A w6 w7) : ImgAt z w7 ao' (n + 1) cap' (L ++ [(k, a)]) := by
  have s14 := k14.size
  have s45 := k45.size
  have s56 := k56.size
  have s67 := k67.size
  have hl := h.len
  have hhs := h.hlen
  refine ⟨hs ++ [(xo, a.data.length, xc)], fun k => A k ∨ (w6.heap.size ≤ k ∧ k < w7.heap.size), fun j k => if j = hs.length then w4.heap.size ≤ k ∧ k < w5.heap.size else G j k ∧ k < w1.heap.size, fun k c => ?_, fun j k c => ?_, fun i j k c d => ?_, by simp [hl], by simp [hhs], ?_, fun j h1 h2 => ?_⟩
  · rcases c with c | c
    · exact h.base k c
    · omega
  · split at c
    · exact ⟨by omega, fun d => by rcases d with d | d; have := hAlt k d; omega; omega⟩
    · refine ⟨(h.data0 j k c.1).1, fun d => ?_⟩
      rcases d with d | d
      · exact (h.data0 j k c.1).2 d
      · omega
  · split at c <;> split at d
    · omega
    · omega
    · omega
    · exact h.inj i j k c.1 d.1
  · rw [imgC_snoc L hs (k, a) _ (by omega)]
    exact ho
  · by_cases hj : j < hs.length
    · have hj2 : j < L.length := by omega
      rw [List.getElem_append_left hj, List.getElem_append_left hj2]
      simp only [if_neg (show ¬ j = hs.length by omega)]
      have d1 := (h.data j hj hj2).mono (G := fun k => G j k ∧ k < w1.heap.size) (fun a ha hb => ⟨hb, ha⟩)
      exact (d1.kp (k14.trans (k45.trans k56)) (fun _ _ c => c)).kp k67 (fun a c e => (h.data0 j a c.1).2 e)
    · have ej : j = hs.length := by simp at h1; omega
      subst ej
      rw [List.getElem_append_right (by omega), List.getElem_append_right (by omega)]
      simp only [if_true]
      have e0 : hs.length - L.length = 0 := by omega
      simp only [Nat.sub_self, e0, List.getElem_singleton]
      have hdx : Own (fun k => w4.heap.size ≤ k ∧ k < w5.heap.size) w5 5 1 xo a.data.length xc (bv a.data) := hx.mono (fun k hk c => ⟨c, hk⟩)
      exact (hdx.kp k56 (fun _ _ c => c)).kp k67 (fun a c e => by have := hAlt a e; omega)

theorem info_area : (Tryz.prog.info? 150).map (fun i => (i.zero, i.size, i.bytes)) = some (some (.agg #[.string ByteArray.empty, .slice none 0 0, .int .i64 0]), 3, 48) := by kernel_rfl

set_option maxHeartbeats 2000000 in
set_option maxRecDepth 100000 in
theorem image_dk (col : Nat → Nat) (i p : Nat) (s : DS) (w : World) (h : Dk col i w p s) :
    Calls Tryz.prog 34 #[.pointer (some ⟨p, 0, none⟩)] w fun e w' => ∃ ao cap, e = .returned (.slice ao (imageF s).length cap) ∧ ImgAt w.heap.size w' ao (imageF s).length cap (imageF s) ∧ Kp Noone w w' := by
  obtain ⟨i0, hi, hz0, hz1, hz2⟩ := info_parts info_area
  obtain ⟨⟨r, hr⟩, hok⟩ := h
  have hnl : (namesF s).length ≤ 64 := by unfold namesF; rw [sortN_length, List.length_map]; exact hok.len
  have HR := Lib.hid hr
  have HOK := Lib.hid hok
  unfold imageF
  rw [List.length_map]
  obtain ⟨ns, hNS⟩ : ∃ x, Hid (namesF s = x) := ⟨_, Lib.hid rfl⟩
  rw [hNS.out] at hnl ⊢
  obtain ⟨N, HN⟩ : ∃ x, Hid (ns.length = x) := ⟨_, Lib.hid rfl⟩
  rw [HN.out] at hnl ⊢
  clear hr hok
  go_enter Tryz.func34, Tryz.ntmps34
  go_wp2_with fail
  refine (names_at _ i p s r w HR.out HOK.out).mono ?_
  rw [hNS.out, HN.out]
  rintro e w1 ⟨no, ncap, rfl, hns, k1⟩
  have HN1 := Lib.hid hns
  have HR1 := Lib.hid (HR.out.keep k1)
  have HK1 := Lib.hid k1
  clear hns k1
  have hs1 : w.heap.size ≤ w1.heap.size := HK1.out.size
  go_wp2_with fail
  go_loopw [12, 3] (fun v ov wr => ∃ (j : Nat) (ao : Option Addr) (cap : Nat), v = .int .i64 (j : Int) ∧ j ≤ N ∧ ov = .slice ao j cap ∧ ImgAt w1.heap.size wr ao j cap ((ns.take j).map fun k => (k, get0 k s.areas)) ∧ Kp Noone w1 wr) (fun v _ _ => N - (intOf v).toNat)
  case atStart => exact ⟨0, none, 0, by rfl, Nat.zero_le _, rfl, by rw [List.take_zero]; exact ImgAt.nil _ _ _, Kp.refl _ _⟩
  case round =>
    obtain ⟨j, ao, cap, rfl, hjN, rfl, himg, kr⟩ := hrel
    by_cases hlt : j < N
    · have hjl : j < ns.length := by have := HN.out; omega
      have hwj : IntKind.i64.wrap ((j : Int) + 1) = (j : Int) + 1 := IntWalk.i64_in _ (by omega)
      have hnr := HN1.out.keep kr
      obtain ⟨nb, noff, rfl, -, hnbl, hnc, -⟩ := hnr.at (k := j) (by rw [List.length_map]; exact hjl)
      rw [List.getElem_map] at hnc
      have hr := HR1.out.keep kr
      have hne : Hid ((ns.take (j + 1)).map (fun k => (k, get0 k s.areas)) = (ns.take j).map (fun k => (k, get0 k s.areas)) ++ [(ns[j], get0 ns[j] s.areas)]) := Lib.hid (by rw [List.take_succ_eq_append_getElem hjl, List.map_append]; rfl)
      generalize ns[j] = nm at *
      obtain ⟨bo, c0, hown, hlk⟩ := hr.lookup nm false
      simp only [Bool.false_eq_true, if_false] at hlk
      obtain ⟨⟨q0, -, -, -, -⟩, -⟩ := cells_five hr.box
      have hgk := HOK.out.get nm
      generalize get0 nm s.areas = a at *
      obtain ⟨ad, sf⟩ := a
      simp only [] at hown hlk hgk
      have hIL : ((ns.take j).map fun k => (k, get0 k s.areas)).length = j := by rw [List.length_map, List.length_take]; omega
      generalize (ns.take j).map (fun k => (k, get0 k s.areas)) = L at *
      have kA : Kp Noone wr (wr.alloc (.cells #[.slice bo ad.length c0, .int .i64 sf] 147)) := (Kp.refl _ _).alloc _
      have hAb := heap_alloc_new wr (.cells #[.slice bo ad.length c0, .int .i64 sf] 147)
      obtain ⟨hs, A0, G, hI⟩ := himg
      have hAlt0 : Hid (∀ k, (A0 k ∧ k < wr.heap.size) → k < wr.heap.size) := Lib.hid (fun k c => c.2)
      have hI2 : ImgP w1.heap.size wr ao j cap L hs (fun k => A0 k ∧ k < wr.heap.size) G := ⟨fun k c => hI.base k c.1, fun i k c => ⟨(hI.data0 i k c).1, fun d => (hI.data0 i k c).2 d.1⟩, hI.inj, hI.len, hI.hlen, hI.own.mono (fun k hk c => ⟨c, hk⟩), hI.data⟩
      have hbs := (hown.keep kA).bs
      have HI := Lib.hid hI2
      have HKA := Lib.hid kA
      have HKR := Lib.hid kr
      have hcl := fun (W' : World) (k' : Kp Noone (wr.alloc (.cells #[.slice bo ad.length c0, .int .i64 sf] 147)) W') => clone_any bo ad.length c0 ad W' (hbs.keep k') hgk.2.2
      have hS : ∀ w', Kp Noone (wr.alloc (.cells #[.slice bo ad.length c0, .int .i64 sf] 147)) w' → w'.cell? ⟨wr.heap.size, 0, none⟩ = some (.slice bo ad.length c0) ∧ w'.cell? ⟨wr.heap.size, 1, none⟩ = some (.int .i64 sf) := fun w' kk => keep_cells hAb kk
      have hoA : Own (fun k => A0 k ∧ k < wr.heap.size) (wr.alloc (.cells #[.slice bo ad.length c0, .int .i64 sf] 147)) 150 3 ao j cap (imgC L hs) := hI2.own.keep kA
      have HOA := Lib.hid hoA
      have hgA : Hid (¬ (A0 wr.heap.size ∧ wr.heap.size < wr.heap.size)) := Lib.hid (fun c => by omega)
      have HAB := Lib.hid hAb
      clear hI hI2 kr kA hr hown hbs hoA hAb
      go_upto_region 8 with fail
      generalize wr.alloc (.cells #[.slice bo ad.length c0, .int .i64 sf] 147) = wA at *
      clear q0 hlk hnc hnr
      go_region_held3 (fun w' => w'.cell? ⟨wr.heap.size, 0, none⟩ = some (.slice bo ad.length c0) ∧ w'.cell? ⟨wr.heap.size, 1, none⟩ = some (.int .i64 sf))
        (first | exact hS _ ((Kp.refl Noone wA).drew) | exact hS _ (((Kp.refl Noone wA).drew).trans k') | exact hS _ ((((Kp.refl Noone wA).drew).trans k').alloc _) | exact hc7 | assumption)
        (first
          | (go_at_call 68; refine (hcl _ ((Kp.refl Noone wA).drew)).mono ?_; rintro e w' ⟨xo, xc, rfl, hx, k'⟩)
          | (refine step_append_gen rfl (.tmp 22) (.tmp 30) 65 (by dsimp only) 150 i0 (.agg #[.string ByteArray.empty, .slice none 0 0, .int .i64 0]) 3 48 Tryz.underlying65 hi hz0 hz1 hz2 rfl ao j cap (by rfl) (some ⟨w'.heap.size, 0, none⟩) 1 1 (by rfl) _ _ (HOA.out.keep ((((Kp.refl Noone wA).drew).trans k').alloc _)) [.string nm, .slice xo ad.length xc, .int .i64 sf] rfl (Row.ofHeap (heap_alloc_new w' _)) (by intro u hu; simp at hu; rcases hu with rfl | rfl | rfl <;> rfl) (by omega) (by unfold maxLen; omega) ?_; intro ao' cap' w7 ho7 k7; have hc7 : w7.cell? ⟨wr.heap.size, 0, none⟩ = some (.slice bo ad.length c0) ∧ w7.cell? ⟨wr.heap.size, 1, none⟩ = some (.int .i64 sf) := ⟨k7.cell (hS _ ((((Kp.refl Noone wA).drew).trans k').alloc _)).1 hgA.out, k7.cell (hS _ ((((Kp.refl Noone wA).drew).trans k').alloc _)).2 hgA.out⟩))
      have k6 : Kp Noone w' (w'.alloc (.cells #[.string nm, .slice xo ad.length xc, .int .i64 sf] 150)) := (Kp.refl _ _).alloc _
      have RI := HI.out.snoc (k := nm) (a := ⟨ad, sf⟩) HKR.out.size hAlt0.out (HKA.out.drew) hx k' k6 ho7 k7
      have K7 : Kp Noone w1 w7 := (((HKR.out.trans HKA.out).trans ((Kp.refl Noone wA).drew)).trans (k'.trans k6)).fin k7 (fun k c => Or.inr (HI.out.base k c))
      rw [← hne.out] at RI
      have HRI := Lib.hid RI
      have HK7 := Lib.hid K7
      clear RI K7 k6 k7 ho7 hx k' hcl hS hc7
      go_wp2_with fail
      go_roundw
      case rel => exact ⟨j + 1, ao', cap', by rfl, by omega, rfl, HRI.out, HK7.out⟩
      case measure => simp [intOf]; omega
    · obtain rfl : j = N := by omega
      have he : ns.take j = ns := by rw [← HN.out]; exact List.take_length
      rw [he] at himg
      have HI := Lib.hid (himg.low (z' := w.heap.size) hs1)
      have HKR := Lib.hid (HK1.out.trans kr)
      clear himg he kr
      go_wp2_with fail
      go_ret
      exact ⟨ao, cap, rfl, HI.out, HKR.out⟩

end Go.Proofs.YtgbgbokcohfnpaaGreat

/-
  SLICES OF AREAS, and the walk of the document's Same on them.
-/
namespace Go.Proofs.YtgbgbokcohfnpaaGreat
open Go.RowKit

/-- A slice of areas. -/
structure AS (W : World) (ao : Option Addr) (n cap : Nat) (L : Img) : Prop where
  len : L.length = n
  le : n ≤ cap
  max : cap ≤ maxLen
  get : ∀ i (h : i < L.length), ∃ b off bo m c, ao = some ⟨b, off, none⟩ ∧ b < W.heap.size ∧ W.cell? ⟨b, off + i * 3, none⟩ = some (.string L[i].1) ∧ W.cell? ⟨b, off + i * 3 + 1, none⟩ = some (.slice bo m c) ∧
    W.cell? ⟨b, off + i * 3 + 2, none⟩ = some (.int .i64 L[i].2.safe) ∧ BS W bo m c L[i].2.data
theorem AS.keep {W W' : World} {ao : Option Addr} {n cap : Nat} {L : Img} (h : AS W ao n cap L) (k : Kp Noone W W') : AS W' ao n cap L := by
  refine ⟨h.len, h.le, h.max, fun i hi => ?_⟩
  obtain ⟨b, off, bo, m, c, h1, h2, h3, h4, h5, h6⟩ := h.get i hi
  exact ⟨b, off, bo, m, c, h1, Nat.lt_of_lt_of_le h2 k.size, k.cell h3 id, k.cell h4 id, k.cell h5 id, h6.keep k⟩
theorem AS.nil (W : World) (ao : Option Addr) : AS W ao 0 0 [] := ⟨rfl, Nat.le_refl _, by simp [maxLen], fun i h => by simp at h⟩
theorem ImgAt.as {z : Nat} {w : World} {ao : Option Addr} {n cap : Nat} {L : Img} (h : ImgAt z w ao n cap L) : AS w ao n cap L := by
  obtain ⟨hs, A, G, h⟩ := h
  refine ⟨h.len, h.own.2.1, h.own.2.2.1, fun i hi => ?_⟩
  have hih : i < hs.length := by have := h.len; have := h.hlen; omega
  have hl := imgC_length L hs (by have := h.len; have := h.hlen; omega)
  obtain ⟨g1, g2, g3⟩ := imgC_get L hs i hi hih
  have hb := (h.data i hih hi).bs
  rcases h.own.row with h0 | ⟨b, off, rfl, hr⟩
  · rw [h0] at hl; simp at hl; omega
  · have e0 : i * 3 < (imgC L hs).length := by omega
    have e1 : i * 3 + 1 < (imgC L hs).length := by omega
    have e2 : i * 3 + 2 < (imgC L hs).length := by omega
    have c0 := hr _ e0
    have c1 := hr _ e1
    have c2 := hr _ e2
    rw [List.getElem?_eq_getElem e0] at g1
    rw [List.getElem?_eq_getElem e1] at g2
    rw [List.getElem?_eq_getElem e2] at g3
    rw [g1] at c0
    rw [g2] at c1
    rw [g3] at c2
    exact ⟨b, off, _, _, _, rfl, World.block_lt_of_cell? w _ c0, c0, by rw [Nat.add_assoc]; exact c1, by rw [Nat.add_assoc]; exact c2, hb⟩

set_option maxHeartbeats 2000000 in
set_option maxRecDepth 100000 in
theorem refSame_any (ao : Option Addr) (n cap : Nat) (bo : Option Addr) (n2 bcap : Nat) (L : Img) (w : World) (ha : AS w ao n cap L) (hb : AS w bo n2 bcap L) (hn : n ≤ 1048576) : Calls Tryz.prog 35 #[.slice ao n cap, .slice bo n2 bcap] w fun e w' => e = .returned (.bool true) ∧ Kp Noone w w' := by
  have h1 := ha.len
  have h2 := hb.len
  obtain rfl : n = n2 := by omega
  have HA := Lib.hid ha
  have HB := Lib.hid hb
  clear ha hb h2
  have HN := Lib.hid h1
  clear h1
  go_enter Tryz.func35, Tryz.ntmps35
  go_wp2_with fail
  go_loopw [13] (fun v wr => ∃ j : Nat, v = .int .i64 (j : Int) ∧ j ≤ n ∧ Kp Noone w wr) (fun v _ => n - (intOf v).toNat)
  case atStart => exact ⟨0, by rfl, by omega, Kp.refl _ _⟩
  case round =>
    obtain ⟨j, rfl, hj, kr⟩ := hrel
    by_cases hlt : j < n
    · have hjl : j < L.length := by have := HN.out; omega
      obtain ⟨b, off, xo, xm, xc, rfl, hbl, c0, c1, c2, hb1⟩ := HA.out.get j hjl
      obtain ⟨b2, off2, yo, ym, yc, rfl, hbl2, d0, d1, d2, hb2⟩ := HB.out.get j hjl
      have c0' := kr.cell c0 id
      have c1' := kr.cell c1 id
      have c2' := kr.cell c2 id
      have d0' := kr.cell d0 id
      have d1' := kr.cell d1 id
      have d2' := kr.cell d2 id
      have hwj : IntKind.i64.wrap ((j : Int) + 1) = (j : Int) + 1 := IntWalk.i64_in _ (by omega)
      generalize L[j].1 = nm at *
      generalize L[j].2.safe = sf at *
      generalize L[j].2.data = l at *
      have e1 := hb1.len
      have e2 := hb1.le
      have e3 := hb1.max
      have hxm : xm ≤ 9223372036854775807 := by unfold maxLen at e3; omega
      have B1 := Lib.hid (hb1.keep kr)
      have B2 := Lib.hid (hb2.keep kr)
      clear c0 c1 c2 d0 d1 d2 hb1 hb2 e1 e2 e3
      have he : (l == l) = true := beq_self_eq_true _
      have hne : (nm != nm) = false := by show (!(nm == nm)) = false; rw [ba_beq]; simp
      have hsf : (sf != sf) = false := by simp
      have hS : ∀ q, Calls Tryz.prog 69 #[.slice xo xm xc, .slice yo ym yc] (wr.drewN q) fun e w'' => e = .returned (.bool true) ∧ ∃ m, w'' = (wr.drewN q).drewN m := fun q => by
        have h := same_any xo yo xm xc ym yc _ _ (wr.drewN q) (B1.out.keep ((Kp.refl _ _).drewN q)) (B2.out.keep ((Kp.refl _ _).drewN q)) hxm
        rwa [he] at h
      go_wp2_with fail
      go_quiet ((go_at_call 69; exact Calls.quiet_of (hS _)))
      have kq := kr.drewN nq
      go_wp2_with fail
      go_roundw
      case rel => exact ⟨j + 1, by rfl, by omega, kq⟩
      case measure => simp [intOf]; omega
    · obtain rfl : j = n := by omega
      go_wp2_with fail
      go_ret
      exact ⟨rfl, kr⟩

end Go.Proofs.YtgbgbokcohfnpaaGreat

/-
  THE WALK of a disk's Mount.
-/
namespace Go.Proofs.YtgbgbokcohfnpaaGreat
open Go.RowKit

theorem cells_three {w : World} {p e : Nat} {a b c : Value} (h : w.heap[p]? = some (.cells #[a, b, c] e (0, 0))) :
    w.cell? ⟨p, 0, none⟩ = some a ∧ w.cell? ⟨p, 1, none⟩ = some b ∧ w.cell? ⟨p, 2, none⟩ = some c ∧ w.frozen? ⟨p, 0, none⟩ = false ∧ w.frozen? ⟨p, 1, none⟩ = false ∧ w.frozen? ⟨p, 2, none⟩ = false := by
  refine ⟨?_, ?_, ?_, ?_, ?_, ?_⟩
  · rw [cell_of_row w p 0 _ e (0, 0) h]; rfl
  · rw [cell_of_row w p 1 _ e (0, 0) h]; rfl
  · rw [cell_of_row w p 2 _ e (0, 0) h]; rfl
  all_goals simp [World.frozen?, h]

/-! ### In plain Lean -/

/-! ### The walk -/

end Go.Proofs.YtgbgbokcohfnpaaGreat
