/-
  THE WALKS of a disk's small functions: New, bars, step, done, safe, Clone.
-/
import Derived.Test.YtmmdojnjognccaaDisk
import Derived.BigQuiet
import Derived.Deep.LoopGhost
import Derived.Maps.RangeWalk
import Derived.Carry
namespace Go.Proofs.Ytmmdojnjognccaa
open Go.RowKit

theorem keyS : KeyKind Try.prog 9 encS := keyKind_string Try.underlying9
theorem encS_inj : ∀ a c : ByteArray, encS a = encS c → a = c := fun a c h => by injection h
theorem zero_area (w : World) : (zeroValue 69).run Try.prog w = .ok zArea w := by kernel_rfl

theorem heap_set_cell {w : World} {p e n : Nat} {cs : Array Value} {u : Value} (h : w.heap[p]? = some (.cells cs e (0, 0))) : (w.setCell ⟨p, n, none⟩ u).heap[p]? = some (.cells (cs.setIfInBounds n u) e (0, 0)) := by
  simp [World.setCell, Array.getElem?_modify, h]

theorem DskAt.lookup {col : Nat → Nat} {i : Nat} {w : World} {p : Nat} {s : DS} {r : DR} (h : DskAt col i w p s r) (k : ByteArray) (c : Bool) :
    ∃ ao cap, Own (r.G k) w 5 1 ao (get0 k s.areas).data.length cap (bv (get0 k s.areas).data) ∧
      (Instr.lookup 64 (.map (some r.b)) (.string k) c).run Try.prog w = .ok (if c then .tuple #[.agg #[.slice ao (get0 k s.areas).data.length cap, .int .i64 (get0 k s.areas).safe], .bool (alGet k s.areas).isSome] else .agg #[.slice ao (get0 k s.areas).data.length cap, .int .i64 (get0 k s.areas).safe]) w := by
  obtain ⟨ao, cap, h1, h2, h3⟩ := h.look k
  refine ⟨ao, cap, h2, ?_⟩
  have hl := h.map.lookup (P := Try.prog) keyS Try.underlying64 (zero_area w) k c
  rw [h1, h3] at hl
  exact hl

set_option maxHeartbeats 1000000 in
set_option maxRecDepth 100000 in
theorem bars_at (col : Nat → Nat) (i p : Nat) (s : DS) (r : DR) (k : ByteArray) (there : Bool) (w : World) (h : DskAt col i w p s r) (hk : k.size ≤ 9223372036854775807) :
    Calls Try.prog 31 #[.pointer (some ⟨p, 0, none⟩), .string k, .bool there] w fun e w' => e = .returned (.int .i64 (barsF s k there : Int)) ∧ Kp Noone w w' := by
  obtain ⟨ao, cap, -, hlk⟩ := h.lookup k true
  simp only [if_true] at hlk
  obtain ⟨⟨q0, -, -, -, -⟩, -⟩ := cells_five h.box
  have q4 := fun o : Obj => (cells_five (((Kp.refl Noone w).alloc o).heap h.box id)).1.2.2.2.2
  obtain ⟨v, hv⟩ : ∃ v, Hid (barsF s k there = v) := ⟨_, Lib.hid rfl⟩
  rw [hv.out]
  have hv2 := hv.out
  unfold barsF nameOk at hv2
  have hno : (alGet k s.areas = none) ↔ (alGet k s.areas).isSome = false := by cases alGet k s.areas <;> simp
  simp only [hno] at hv2
  generalize (alGet k s.areas).isSome = has at *
  generalize (get0 k s.areas).data.length = dn at *
  generalize (get0 k s.areas).safe = sf at *
  have H := Lib.hid h
  clear hno h hv
  cases hd : s.down with
  | true =>
    rw [hd] at hv2 q4
    rw [if_pos rfl] at hv2
    subst hv2
    go_enter Try.func31, Try.ntmps31
    go_wp2_with fail
    go_ret
    exact ⟨rfl, (Kp.refl _ _).alloc _⟩
  | false =>
    rw [hd] at hv2 q4
    rw [if_neg (by simp)] at hv2
    have HV := Lib.hid hv2
    clear hv2
    go_enter Try.func31, Try.ntmps31
    go_wp2_with fail
    refine (right_any k _ hk).mono ?_
    rintro e w2 ⟨rfl, k2⟩
    have K2 := ((Kp.refl Noone w).alloc _).trans k2
    clear k2
    cases hr : rightL k.data.toList with
    | false =>
      have HV2 := HV.out
      rw [hr, if_pos rfl] at HV2
      subst HV2
      go_wp2_with fail
      go_ret
      exact ⟨rfl, K2⟩
    | true =>
      have HV2 := HV.out
      rw [hr, if_neg (by simp)] at HV2
      cases there with
      | false =>
        rw [if_neg (by simp)] at HV2
        subst HV2
        go_wp2_with fail
        go_ret
        exact ⟨rfl, K2⟩
      | true =>
        cases has with
        | false =>
          rw [if_pos (by simp)] at HV2
          subst HV2
          go_wp2_with fail
          go_ret
          exact ⟨rfl, K2⟩
        | true =>
          rw [if_neg (by simp)] at HV2
          subst HV2
          go_wp2_with fail
          go_ret
          exact ⟨rfl, K2⟩

theorem DskAt.setBox {col : Nat → Nat} {i : Nat} {w w' : World} {p : Nat} {s s' : DS} {r : DR} (h : DskAt col i w p s r) (k : Kp (fun j => j = p) w w') (he : s'.areas = s.areas)
    (hb : w'.heap[p]? = some (.cells #[.map (some r.b), .int .i64 s'.room, .int .i64 s'.steps, .int .i64 s'.fuse, .bool s'.down] 66 (0, 0))) : DskAt col i w' p s' r := by
  have hpb : r.b ≠ p := fun c => by have h1 := h.pc; have h2 := h.bc; rw [c] at h2; omega
  refine ⟨hb, h.pc, h.map.kp k hpb, h.bc, he.trans h.abs, fun x hx => (h.own x hx).kp k (fun j hj c => ?_), h.none_, h.disj, h.gcol⟩
  have h1 := h.gcol _ j hj
  have h2 := h.pc
  rw [c] at h1
  omega

set_option maxHeartbeats 1000000 in
set_option maxRecDepth 100000 in
theorem step_at (col : Nat → Nat) (i p : Nat) (s : DS) (r : DR) (w : World) (h : DskAt col i w p s r) (hf : 0 ≤ s.fuse ∧ s.fuse ≤ 9223372036854775807) (hs : 0 ≤ s.steps ∧ s.steps < 4611686018427387904) :
    Calls Try.prog 34 #[.pointer (some ⟨p, 0, none⟩)] w fun e w' => e = .returned (.bool (stepF s).2) ∧ DskAt col i w' p (stepF s).1 r ∧ Kp (fun j => j = p) w w' := by
  obtain ⟨⟨q0, q1, q2, q3, q4⟩, qf⟩ := cells_five h.box
  have H := Lib.hid h
  have hb := Lib.hid h.box
  unfold stepF
  clear h
  by_cases c : s.fuse = 1
  · rw [if_pos c]
    rw [c] at q3
    go_enter Try.func34, Try.ntmps34
    go_wp2_with fail
    go_ret
    have k2 : Kp (fun j => j = p) w ((w.setCell ⟨p, 3, none⟩ (.int .i64 0)).setCell ⟨p, 4, none⟩ (.bool true)) := ((Kp.refl (fun j => j = p) w).setCell (fun _ => rfl) _).setCell (fun _ => rfl) _
    refine ⟨rfl, H.out.setBox k2 rfl ?_, k2⟩
    exact (heap_set_cell (heap_set_cell hb.out)).trans (by simp)
  · rw [if_neg c]
    have e1 : (s.fuse == 1) = false := by simpa using c
    have hw1 : IntKind.i64.wrap (s.fuse - 1) = s.fuse - 1 := IntWalk.i64_in _ (by omega)
    have hw2 : IntKind.i64.wrap (s.steps + 1) = s.steps + 1 := IntWalk.i64_in _ (by omega)
    go_enter Try.func34, Try.ntmps34
    go_wp2_with fail
    all_goals (
      go_ret
      have k2 : ∀ a b, Kp (fun j => j = p) w ((w.setCell ⟨p, 3, none⟩ a).setCell ⟨p, 2, none⟩ b) := fun _ _ => ((Kp.refl (fun j => j = p) w).setCell (fun _ => rfl) _).setCell (fun _ => rfl) _
      refine ⟨rfl, H.out.setBox (k2 _ _) rfl ?_, k2 _ _⟩
      exact (heap_set_cell (heap_set_cell hb.out)).trans (by simp <;> omega))

set_option maxHeartbeats 1000000 in
set_option maxRecDepth 100000 in
theorem done_at (col : Nat → Nat) (i p : Nat) (s : DS) (r : DR) (w : World) (h : DskAt col i w p s r) (hf : 0 ≤ s.fuse ∧ s.fuse ≤ 9223372036854775807) (hs : 0 ≤ s.steps ∧ s.steps < 4611686018427387904) :
    Calls Try.prog 32 #[.pointer (some ⟨p, 0, none⟩)] w fun e w' => e = .returned (.int .i64 (doneN (stepF s).2 : Int)) ∧ DskAt col i w' p (stepF s).1 r ∧ Kp (fun j => j = p) w w' := by
  go_enter Try.func32, Try.ntmps32
  go_wp2_with fail
  refine (step_at col i p s r w h hf hs).mono ?_
  rintro e w1 ⟨rfl, h1, k1⟩
  cases hx : (stepF s).2 with
  | true =>
    go_wp2_with fail
    go_ret
    exact ⟨by rw [hx]; rfl, h1, k1⟩
  | false =>
    go_wp2_with fail
    go_ret
    exact ⟨by rw [hx]; rfl, h1, k1⟩

set_option maxHeartbeats 1000000 in
set_option maxRecDepth 100000 in
theorem clone_any (ao : Option Addr) (n cap : Nat) (l : List UInt8) (w : World) (hb : BS w ao n cap l) (hn : n ≤ 140737488355328) :
    Calls Try.prog 36 #[.slice ao n cap] w fun e w' => ∃ bo c, e = .returned (.slice bo n c) ∧ Own (fun j => w.heap.size ≤ j) w' 5 1 bo n c (bv l) ∧ Kp Noone w w' := by
  obtain ⟨j0, hj, hj0, hj1, hj2⟩ := info_parts info_u8
  have q22 : ∀ (w : World) (a : Option Addr) (n c n' c' : Nat), (binOp .eql 22 (.slice a n c) (.slice none n' c')).run Try.prog w = .ok (.bool a.isNone) w := fun w a n c n' c' => Lib.run_eql_slice_nil w _ _ a n c n' c' Try.underlying22
  cases ao with
  | none =>
    have hl : n = 0 := by
      rcases hb.row with h0 | ⟨b, off, h0, -⟩
      · have h1 := congrArg List.length h0
        have h2 := hb.len
        simp [bv] at h1
        rw [h1] at h2; simpa using h2.symm
      · cases h0
    subst hl
    have hl0 : l = [] := List.eq_nil_of_length_eq_zero hb.len
    subst hl0
    have hcm := hb.le
    go_enter Try.func36, Try.ntmps36
    go_wp2_with fail
    go_ret
    exact ⟨_, _, rfl, Own.nil _ _ _ _ _, Kp.refl _ _⟩
  | some a =>
    have kA : Kp Noone w (w.alloc (.cells #[] 5)) := (Kp.refl _ _).alloc _
    have hrow := (hb.keep kA).row
    have hln : (bv l).length = n * 1 := by rw [length_bv, hb.len, Nat.mul_one]
    have hown : Own (fun j => w.heap.size ≤ j) (w.alloc (.cells #[] 5)) 5 1 (some ⟨w.heap.size, 0, none⟩) 0 0 [] := Own.fresh (Nat.le_refl _) (heap_alloc_new w (.cells #[] 5)) rfl (by simp [maxLen])
    have hsz := kA.size
    clear hb
    go_enter Try.func36, Try.ntmps36
    go_wp2_with (at_builtin; refine wpList_append_gen _ rfl (.tmp 5) (.tmp 6) 22 rfl 5 j0 (.int .u8 0) 1 1 Try.underlying22 hj hj0 hj1 hj2 rfl (some ⟨w.heap.size, 0, none⟩) 0 0 rfl (some a) n cap rfl _ [] hown (bv l) hln hrow (bv_one _) (by omega) (by unfold maxLen; omega) ?_)
    intro bo c w2 ho k2
    have K : Kp Noone w w2 := kA.fin k2 (fun j c => Or.inr c)
    have ho2 : Own (fun j => w.heap.size ≤ j) w2 5 1 bo n c (bv l) := Own.mono ho (fun j _ d => by rcases d with d | d; exact d; omega)
    clear hown hrow hln kA ho k2
    go_wp2_with fail
    go_ret
    exact ⟨bo, c, rfl, ho2, K⟩

/-! ### The sum -/

def safeOf : Value → Int
  | .agg #[_, .int _ n] => n
  | _ => 0
def sumV : List (ByteArray × Value) → Int
  | [] => 0
  | p :: r => safeOf p.2 + sumV r
theorem sumV_map (M : ArM) : sumV (mapV M) = sumF (absL M) := by
  induction M with
  | nil => rfl
  | cons p r ih => show safeOf p.2.val + sumV (mapV r) = p.2.safe + sumF (absL r); rw [ih]; rfl
theorem sumV_del (k : ByteArray) (v : Value) (l : List (ByteArray × Value)) (hn : (l.map (·.1)).Nodup) (h : (k, v) ∈ l) : sumV (alDel k l) = sumV l - safeOf v := by
  induction l with
  | nil => simp at h
  | cons p r ih =>
    rw [List.map_cons, List.nodup_cons] at hn
    unfold alDel
    rcases List.mem_cons.1 h with h | h
    · subst h
      rw [if_pos rfl]
      show sumV r = safeOf v + sumV r - safeOf v
      omega
    · have hk : k ≠ p.1 := fun c => hn.1 (by rw [← c]; exact List.mem_map_of_mem (f := (·.1)) h)
      rw [if_neg hk]
      unfold sumV
      rw [ih hn.2 h]
      omega
theorem sumV_nonneg : ∀ (l : List (ByteArray × Value)), (∀ x ∈ l, 0 ≤ safeOf x.2) → 0 ≤ sumV l
  | [], _ => by simp [sumV]
  | p :: r, h => by
    have h1 := h p (by simp)
    have h2 := sumV_nonneg r (fun x hx => h x (by simp [hx]))
    unfold sumV
    omega
theorem mem_del_of {V : Type} {k : ByteArray} {l : List (ByteArray × V)} {x : ByteArray × V} (h : x ∈ alDel k l) : x ∈ l := by
  induction l with
  | nil => simp [alDel] at h
  | cons p r ih =>
    unfold alDel at h
    split at h
    · exact List.mem_cons_of_mem _ h
    · rcases List.mem_cons.1 h with h | h
      · rw [h]; simp
      · exact List.mem_cons_of_mem _ (ih h)
theorem alDelS_lt (k : ByteArray) (l : List (ByteArray × Value)) (h : k ∈ l.map (·.1)) : (alDel k l).length < l.length := by
  induction l with
  | nil => simp at h
  | cons p r ih =>
    unfold alDel
    by_cases hk : k = p.1
    · rw [if_pos hk]; simp
    · rw [if_neg hk]
      rw [List.map_cons, List.mem_cons] at h
      rcases h with h | h
      · exact absurd h hk
      · have := ih h; simp; omega
theorem mem_mapV {x : ByteArray × Value} {M : ArM} (h : x ∈ mapV M) : ∃ e : Ar, (x.1, e) ∈ M ∧ x.2 = e.val := by
  unfold mapV at h
  obtain ⟨y, hy, rfl⟩ := List.mem_map.1 h
  exact ⟨y.2, hy, rfl⟩

set_option maxHeartbeats 1000000 in
set_option maxRecDepth 100000 in
theorem safe_at (col : Nat → Nat) (i p : Nat) (s : DS) (r : DR) (w : World) (h : DskAt col i w p s r) (hok : DOk s) :
    Calls Try.prog 33 #[.pointer (some ⟨p, 0, none⟩)] w fun e w' => e = .returned (.int .i64 (sumF s.areas)) ∧ Kp Noone w w' := by
  obtain ⟨⟨q0, -, -, -, -⟩, -⟩ := cells_five h.box
  have hM := h.map
  have hsub : ∀ x ∈ mapV r.M, ∃ (ao : Option Addr) (n c : Nat) (f : Int), x.2 = .agg #[.slice ao n c, .int .i64 f] ∧ 0 ≤ f := fun x hx => by
    obtain ⟨e, he, hv⟩ := mem_mapV hx
    refine ⟨e.ao, e.data.length, e.cap, e.safe, hv, ?_⟩
    have : (x.1, e.abs) ∈ s.areas := by rw [h.abs]; exact List.mem_map_of_mem (f := fun x : ByteArray × Ar => (x.1, x.2.abs)) he
    exact (hok.each _ this).1
  have hsum : sumV (mapV r.M) = sumF s.areas := by rw [sumV_map, h.abs]
  have hbd := hok.sum
  rw [← hsum] at hbd ⊢
  generalize mapV r.M = L at *
  generalize r.b = b at *
  have HS := Lib.hid hsub
  have HBD := Lib.hid hbd
  clear h hok hsub hbd hsum
  go_enter Try.func33, Try.ntmps33
  go_wp2_with (at_range; refine wpList_range_is _ rfl _ 64 rfl 69 Try.underlying64 b L rfl hM ?_)
  intro w2 hit k2 hsz
  generalize hr : w.heap.size = q at *
  have hq := Lib.hid hr
  clear hr hM q0
  go_wp2_with fail
  go_loopg [3] L.length (fun g v wr => ∃ (todo : List (ByteArray × Value)) (acc : Int), g = todo.length ∧ v = .int .i64 acc ∧ 0 ≤ acc ∧ acc + sumV todo = sumV L ∧ (∀ x ∈ todo, x ∈ L) ∧ Iter encS wr q b L todo ∧ Kp Noone w wr)
  case atStart => exact ⟨L, 0, rfl, rfl, by omega, by omega, fun _ h => h, hit, k2⟩
  case round =>
    obtain ⟨todo, acc, hg, rfl, hacc, hsum, hsub, hitr, kr⟩ := hrel
    have HG := Lib.hid hg
    have HSUM := Lib.hid hsum
    have HSUB := Lib.hid hsub
    clear hg hit k2 hsum hsub
    go_wp2_with (at_next; refine wpList_next_is _ rfl _ rfl encS_inj q b L todo rfl hitr ?_ ?_)
    · intro hdone
      have HD : Hid (acc = sumV L) := Lib.hid (by have := HSUM.out; rw [hdone] at this; simpa [sumV] using this)
      clear hdone hitr
      go_wp2_with fail
      go_ret
      exact ⟨by rw [← HD.out]; rfl, kr⟩
    · intro k v w3 hmem hit3 k3 hsz3 hen
      have hnd := hitr.nodup encS_inj
      have hkm : k ∈ todo.map (·.1) := List.mem_map_of_mem (f := (·.1)) hmem
      have HLT := Lib.hid (alDelS_lt k todo hkm)
      obtain ⟨ao, n, c, f, hv, hf0⟩ := HS.out _ (HSUB.out _ hmem)
      simp only [] at hv
      subst hv
      have hdel := sumV_del k _ todo hnd hmem
      have hrest : 0 ≤ sumV (alDel k todo) := sumV_nonneg _ (fun x hx => by
        obtain ⟨_, _, _, f', hx', hf'⟩ := HS.out _ (HSUB.out _ (mem_del_of hx))
        rw [hx']; exact hf')
      have hs2 : acc + f + sumV (alDel k todo) = sumV L := by
        have := HSUM.out
        rw [hdel]
        show acc + f + (sumV todo - f) = _
        omega
      have hw1 : IntKind.i64.wrap (acc + f) = acc + f := IntWalk.i64_in _ (by have := HBD.out; omega)
      have HS2 := Lib.hid hs2
      have HSUB2 := Lib.hid (fun x hx => HSUB.out x (mem_del_of hx) : ∀ x ∈ alDel k todo, x ∈ L)
      have kr3 : Kp Noone w w3 := kr.fin k3 (fun j c => Or.inr (by subst c; have := hq.out; omega))
      have hia := fun o : Obj => hit3.kp ((Kp.refl Noone w3).alloc o) id id
      have hka := fun o : Obj => kr3.alloc o
      unfold encS at hen
      clear hmem hnd hkm hdel hrest hs2 hitr kr k3 hsz3 hit3 kr3
      go_wp2_with fail
      go_roundg (alDel k todo).length
      case measure => rw [HG.out]; exact HLT.out
      case rel => exact ⟨_, acc + f, rfl, rfl, by omega, HS2.out, HSUB2.out, hia _, hka _⟩

/-! ### New -/

def NewTo (B : Nat) (col : Nat → Nat) (i : Nat) (w : World) (s : DS) (p : Nat) (w' : World) : Prop :=
  ∃ col' r, Kp Noone w w' ∧ Cols B w' col' ∧ (∀ k, k < w.heap.size → col' k = col k) ∧ (∀ k, w.heap.size ≤ k → col' k ≠ 0 → S3 i (col' k)) ∧ DskAt col' i w' p s r
theorem newTo_at (B : Nat) (col : Nat → Nat) (i : Nat) (room : Int) (w : World) (hc : Cols B w col) (hBw : B ≤ w.heap.size) (x : Int) (hx : x = max 0 (min room 4194304)) :
    NewTo B col i w (newF room) (w.heap.size + 1) ((w.alloc (.map #[] 0)).alloc (.cells #[.map (some w.heap.size), .int .i64 x, .int .i64 0, .int .i64 0, .bool false] 66)) := by
  subst hx
  have k1 : Kp Noone w (w.alloc (.map #[] 0)) := (Kp.refl _ _).alloc _
  have k2 : Kp Noone w ((w.alloc (.map #[] 0)).alloc (.cells #[.map (some w.heap.size), .int .i64 (max 0 (min room 4194304)), .int .i64 0, .int .i64 0, .bool false] 66)) := k1.alloc _
  have hs1 : (w.alloc (.map #[] 0)).heap.size = w.heap.size + 1 := by simp
  have hh1 := heap_alloc_new w (.map #[] 0)
  have hh2 := ((Kp.refl Noone (w.alloc (.map #[] 0))).alloc (.cells #[.map (some w.heap.size), .int .i64 (max 0 (min room 4194304)), .int .i64 0, .int .i64 0, .bool false] 66)).heap hh1 id
  have hh3 := heap_alloc_new (w.alloc (.map #[] 0)) (.cells #[.map (some w.heap.size), .int .i64 (max 0 (min room 4194304)), .int .i64 0, .int .i64 0, .bool false] 66)
  rw [hs1] at hh3
  have hs2 := (Array.getElem?_eq_some_iff.1 hh3).1
  refine ⟨fun k => if k = w.heap.size + 1 then i + 1 else if k = w.heap.size then i + 2 else col k, ⟨w.heap.size, fun _ _ => False, []⟩, k2, fun k hk => ?_, fun k hk => ?_, fun k hk hn => ?_, ?_⟩
  · simp only [] at hk
    split at hk
    · omega
    · split at hk
      · omega
      · have := hc k hk; omega
  · simp only []; rw [if_neg (by omega), if_neg (by omega)]
  · unfold S3
    simp only [] at hn ⊢
    split at hn
    · rename_i h; rw [if_pos h]; omega
    · rename_i h
      rw [if_neg h]
      split at hn
      · rename_i h2; rw [if_pos h2]; omega
      · have := hc k hn; omega
  · exact ⟨hh3, by simp, ⟨#[], 0, hh2, ⟨rfl, by simp [mapV], by simp, by simp⟩⟩, by simp, rfl, fun x hx => by simp at hx, fun _ _ _ c => c, fun _ _ _ c => c.elim, fun _ _ c => c.elim⟩

set_option maxHeartbeats 1000000 in
set_option maxRecDepth 100000 in
theorem new_at (B : Nat) (col : Nat → Nat) (i : Nat) (room : Int) (w : World) (hc : Cols B w col) (hBw : B ≤ w.heap.size) :
    Calls Try.prog 8 #[.int .i64 room] w fun e w' => ∃ p, e = .returned (.pointer (some ⟨p, 0, none⟩)) ∧ NewTo B col i w (newF room) p w' := by
  have hmm := @run_makeMap Try.prog
  have HQ := Lib.hid (newTo_at B col i room w hc hBw)
  clear hc
  go_enter Try.func8, Try.ntmps8
  go_wp2_with fail
  all_goals (
    go_ret
    exact ⟨w.heap.size + 1, rfl, HQ.out _ (by omega)⟩)

end Go.Proofs.Ytmmdojnjognccaa
