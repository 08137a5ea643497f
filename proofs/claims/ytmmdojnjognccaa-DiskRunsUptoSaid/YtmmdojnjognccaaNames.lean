/-
  THE WALK of a disk's names: all of them, sorted.
-/
import Derived.Test.YtmmdojnjognccaaDiskOps
import Derived.Test.YtmmdojnjognccaaSortS
import Derived.Sort.KeysCollected
namespace Go.Proofs.Ytmmdojnjognccaa
open Go.RowKit Go.Sort

theorem toL_ofL (l : List UInt8) : toL (ofL l) = l := by unfold toL ofL; simp
theorem enc_toL (k : ByteArray) : encStr (toL k) = .string k := by unfold toL; simp
theorem sortN_toL (ks : List ByteArray) : (sortN ks).map toL = (ks.map toL).mergeSort fun x y => decide (x ≤ y) := by
  unfold sortN
  rw [List.map_map]
  have : (toL ∘ ofL) = id := funext toL_ofL
  rw [this, List.map_id]
theorem sortN_perm {ks ks' : List ByteArray} (h : ks.Perm ks') : sortN ks = sortN ks' := by
  unfold sortN
  have := mergeSort_of_perm (h.map toL)
  unfold leB at this
  rw [this]
theorem sortN_of (ks : List ByteArray) : (sortN ks).Perm ks := by
  have h : ((ks.map toL).mergeSort fun x y => decide (x ≤ y)).Perm (ks.map toL) := List.mergeSort_perm _ _
  have h2 := h.map ofL
  rw [List.map_map] at h2
  have : (ofL ∘ toL) = id := funext ofL_toL
  rw [this, List.map_id] at h2
  exact h2
theorem sortN_nil : sortN [] = [] := List.eq_nil_of_length_eq_zero (by simpa using (sortN_of []).length_eq)
theorem sortN_length (ks : List ByteArray) : (sortN ks).length = ks.length := (sortN_of ks).length_eq

theorem heap_sortedAt {w : World} {g n off : Nat} {os : Array Obj} {cur : Array Value} {e : TypeId} {fr : Nat × Nat} (d : Array (List UInt8)) (hb : w.heap[g]? = some (.cells cur e fr)) :
    (grow (putRow encStr (Sort.ahead w n) g off d) os).heap[g]? = some (.cells (putCells encStr off d cur) e fr) := by
  have hg : g < w.heap.size := (Array.getElem?_eq_some_iff.1 hb).1
  rw [heap_grow_old _ _ (by simpa using hg)]
  simp [putRow, mapBlock, Sort.ahead, Array.getElem?_modify, hb, onCells]
theorem kp_sorted (w : World) (g n off : Nat) (os : Array Obj) (d : Array (List UInt8)) : Kp (fun j => j = g) w (grow (putRow encStr (Sort.ahead w n) g off d) os) := by
  refine ⟨rfl, rfl, rfl, by simp, fun k hk hne => ?_⟩
  rw [heap_grow_old _ _ (by simpa using hk)]
  have : g ≠ k := fun e => hne e.symm
  simp [putRow, mapBlock, Sort.ahead, Array.getElem?_modify, this]

/-- What the sort asks of an owned slice of names, and what it leaves. -/
theorem own_holds {F : Nat → Prop} {w : World} {e : Nat} {no : Option Addr} {n cap : Nat} {ks : List ByteArray} (h : Own F w e 1 no n cap (ks.map Value.string)) (h0 : 0 < n) :
    ∃ g off, no = some ⟨g, off, none⟩ ∧ F g ∧ g < w.heap.size ∧ Holds encStr w g off (ks.map toL).toArray ∧
      ∀ (m : Nat) (os : Array Obj) (ts : List ByteArray), ts.length = ks.length → Own F (grow (putRow encStr (Sort.ahead w m) g off (ts.map toL).toArray) os) e 1 no n cap (ts.map Value.string) ∧ Kp F w (grow (putRow encStr (Sort.ahead w m) g off (ts.map toL).toArray) os) := by
  obtain ⟨h1, h2, h3, h4⟩ := h
  have hl : ks.length = n := by simpa using h1
  rcases h4 with h4 | ⟨g, off, cur, ha, hg, hh, hb, hr⟩
  · omega
  · have hlt := (Array.getElem?_eq_some_iff.1 hh).1
    refine ⟨g, off, ha, hg, hlt, fun j hj => ⟨?_, by simp [World.frozen?, hh]⟩, fun m os ts ht => ⟨⟨by simp [ht, hl], h2, h3, Or.inr ⟨g, off, putCells encStr off (ts.map toL).toArray cur, ha, hg, heap_sortedAt _ hh, by simp [putCells]; omega, fun i hi => ?_⟩⟩, (kp_sorted w g m off os _).mono (fun j _ c => by rw [c]; exact hg)⟩⟩
    · have hj' : j < ks.length := by simpa using hj
      rw [cell_of_row w g _ cur e (0, 0) hh, hr j (by simpa using hj')]
      simp [hj', enc_toL]
    · have hi' : i < ts.length := by simpa using hi
      have hsz : off + i < cur.size := by omega
      simp [putCells, hi', enc_toL, hsz]

theorem perm_del {V : Type} (k : ByteArray) : ∀ (l : List (ByteArray × V)), k ∈ l.map (·.1) → (k :: (alDel k l).map (·.1)).Perm (l.map (·.1))
  | [], h => by simp at h
  | p :: r, h => by
    unfold alDel
    by_cases hk : k = p.1
    · rw [if_pos hk, hk]; simp
    · rw [if_neg hk]
      rw [List.map_cons, List.mem_cons] at h
      have h1 := perm_del k r (h.resolve_left hk)
      rw [List.map_cons, List.map_cons]
      exact (List.Perm.swap _ _ _).trans (h1.cons _)

theorem info_str : (Try.prog.info? 9).map (fun i => (i.zero, i.size, i.bytes)) = some (some (.string ByteArray.empty), 1, 16) := by kernel_rfl

set_option maxHeartbeats 1000000 in
set_option maxRecDepth 100000 in
theorem names_at (col : Nat → Nat) (i p : Nat) (s : DS) (r : DR) (w : World) (h : DskAt col i w p s r) (hok : DOk s) :
    Calls Try.prog 35 #[.pointer (some ⟨p, 0, none⟩)] w fun e w' => ∃ no cap, e = .returned (.slice no (namesF s).length cap) ∧ Own (fun j => w.heap.size ≤ j) w' 9 1 no (namesF s).length cap ((namesF s).map Value.string) ∧ Kp Noone w w' := by
  obtain ⟨j0, hj, hj0, hj1, hj2⟩ := info_parts info_str
  obtain ⟨⟨q0, -, -, -, -⟩, -⟩ := cells_five h.box
  have hM := h.map
  have hkeys : s.areas.map (·.1) = (mapV r.M).map (·.1) := by rw [h.abs]; unfold absL mapV; simp [Function.comp_def]
  have hLen : (mapV r.M).length ≤ 64 := by rw [h.length]; exact hok.len
  unfold namesF
  rw [hkeys]
  generalize mapV r.M = L at *
  generalize r.b = b at *
  clear h hok hkeys
  go_enter Try.func35, Try.ntmps35
  go_wp2_with (at_range; refine wpList_range_is _ rfl _ 64 rfl 69 Try.underlying64 b L rfl hM ?_)
  intro w2 hit k2 hsz
  generalize hr : w.heap.size = q at *
  have hq := Lib.hid hr
  have hbw : Hid (b < q) := Lib.hid (by have := hM.lt; omega)
  clear hr hM q0
  clear hsz
  go_wp2_with fail
  go_loopg [3] L.length (fun g v wr => ∃ (todo : List (ByteArray × Value)) (ks : List ByteArray) (no : Option Addr) (cap : Nat), g = todo.length ∧ v = .slice no ks.length cap ∧ Own (fun j => q < j) wr 9 1 no ks.length cap (ks.map Value.string) ∧ (ks ++ todo.map (·.1)).Perm (L.map (·.1)) ∧ Iter encS wr q b L todo ∧ Kp Noone w wr)
  case atStart => exact ⟨L, [], none, 0, rfl, rfl, Own.nil _ _ _ _ _, List.Perm.refl _, hit, k2⟩
  case round =>
    obtain ⟨todo, ks, no, cap, hg, rfl, hown, hperm, hitr, kr⟩ := hrel
    have HG := Lib.hid hg
    have HP := Lib.hid hperm
    have hkl : ks.length ≤ 64 := by have h1 := hperm.length_eq; simp at h1; omega
    clear hg hit k2 hperm
    go_wp2_with (at_next; refine wpList_next_is _ rfl _ rfl encS_inj q b L todo rfl hitr ?_ ?_)
    · intro hdone
      have HE : Hid (sortN ks = sortN (L.map (·.1))) := Lib.hid (sortN_perm (by have h1 := HP.out; rw [hdone] at h1; simpa using h1))
      clear hdone hitr
      by_cases h0 : ks.length = 0
      · have hks : ks = [] := List.eq_nil_of_length_eq_zero h0
        subst hks
        have HE2 := Lib.hid (HE.out.symm)
        have hown2 := Lib.hid (hown.mono (G := fun j => q ≤ j) (fun j _ c => Nat.le_of_lt c))
        clear hown HE
        go_wp2_with fail
        refine (Try.slices_Sort_string_none no cap _).mono ?_
        rintro e w3 ⟨rfl, rfl⟩
        go_wp2_with fail
        go_ret
        refine ⟨no, cap, ?_, ?_, kr⟩
        · rw [HE2.out, sortN_nil]; rfl
        · rw [HE2.out, sortN_nil, hq.out]; exact hown2.out
      · obtain ⟨g, off, rfl, hg, hlt, hH, hnew⟩ := own_holds hown (by omega)
        have hlen : (ks.map toL).length = ks.length := by simp
        have HN := Lib.hid hnew
        have HKR := Lib.hid kr
        clear hown hnew kr h0
        have hcall := Try.slices_Sort_string g off cap (ks.map toL) wr hH hlt (by omega)
        rw [hlen, ← sortN_toL] at hcall
        have HC := Lib.hid hcall
        clear hcall hH hlen
        go_wp2_with fail
        refine HC.out.mono ?_
        rintro e w3 ⟨rfl, m, os, hw3⟩
        have hfin := HN.out m os (sortN ks) (sortN_length ks)
        rw [← hw3] at hfin
        have HF := Lib.hid hfin
        clear hw3 hfin HC HN
        go_wp2_with fail
        go_ret
        refine ⟨some ⟨g, off, none⟩, cap, ?_, ?_, HKR.out.fin HF.out.2 (fun j c => Or.inr (by have := hq.out; omega))⟩
        · rw [← HE.out, sortN_length]; rfl
        · rw [← HE.out, sortN_length, hq.out]; exact HF.out.1.mono (fun j _ c => Nat.le_of_lt c)
    · intro k v w3 hmem hit3 k3 hsz3 hen
      have hnd := hitr.nodup encS_inj
      have hkm : k ∈ todo.map (·.1) := List.mem_map_of_mem (f := (·.1)) hmem
      have HLT := Lib.hid (alDelS_lt k todo hkm)
      have hpm : Hid ((ks ++ [k] ++ (alDel k todo).map (·.1)).Perm (L.map (·.1))) := Lib.hid (by
        refine List.Perm.trans ?_ HP.out
        rw [List.append_assoc]
        refine List.Perm.append_left ks ?_
        exact perm_del k todo hkm)
      have kr3 : Kp Noone w w3 := kr.fin k3 (fun j c => Or.inr (by subst c; have := hq.out; omega))
      have hq3 : q < w3.heap.size := by have := hit3.lt; omega
      have ho3 := (hown.kp k3 (fun j c d => by omega)).keep ((Kp.refl Noone w3).alloc (.cells #[.string k] 9))
      have hia := hit3.kp ((Kp.refl Noone w3).alloc (.cells #[.string k] 9)) id id
      have hka := kr3.alloc (.cells #[.string k] 9)
      have HK := Lib.hid hka
      have HI := Lib.hid hia
      have hsz4 : w3.heap.size ≤ (w3.alloc (.cells #[.string k] 9)).heap.size := ((Kp.refl Noone w3).alloc (.cells #[.string k] 9)).size
      unfold encS at hen
      clear hmem hnd hkm hitr kr k3 hsz3 hit3 kr3 hown hka hia HP
      go_wp2_with (at_builtin; refine wpList_append_gen _ rfl (.tmp 14) (.tmp 16) 47 rfl 9 j0 (.string ByteArray.empty) 1 16 Try.underlying47 hj hj0 hj1 hj2 rfl no ks.length cap rfl (some ⟨w3.heap.size, 0, none⟩) 1 1 rfl _ _ ho3 [.string k] rfl (Row.ofHeap (heap_alloc_new w3 _)) (by intro u hu; simp at hu; subst hu; rfl) (by omega) (by unfold maxLen; omega) ?_)
      intro no' cap' w5 ho k5
      have R : Hid (Own (fun j => q < j) w5 9 1 no' (ks ++ [k]).length cap' ((ks ++ [k]).map Value.string)) := Lib.hid (by
        have e1 : (ks ++ [k]).length = ks.length + 1 := by simp
        have e2 : (ks ++ [k]).map Value.string = ks.map Value.string ++ [.string k] := by simp
        rw [e1, e2]
        exact Own.mono ho (fun j _ c => by rcases c with c | c; exact c; omega))
      have RI : Hid (Iter encS w5 q b L (alDel k todo)) := Lib.hid (HI.out.kp k5 (fun c => by omega) (fun c => by have := hbw.out; omega))
      have RK : Hid (Kp Noone w w5) := Lib.hid (HK.out.fin k5 (fun j c => Or.inr (by have := hq.out; omega)))
      have hl5 : ks.length + 1 = (ks ++ [k]).length := by simp
      clear ho k5 ho3 HK HI
      rw [hl5]
      clear hl5
      generalize ks ++ [k] = ks' at *
      go_wp2_with fail
      go_roundg (alDel k todo).length
      case measure => rw [HG.out]; exact HLT.out
      case rel => exact ⟨_, ks', no', cap', rfl, rfl, R.out, hpm.out, RI.out, RK.out⟩

end Go.Proofs.Ytmmdojnjognccaa
