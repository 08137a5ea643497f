/-
  THE WALK of the document's why.
-/
import Derived.Test.YtmmdojnjognccaaRefCrash
import Derived.Test.YtmmdojnjognccaaReadOpD
namespace Go.Proofs.Ytmmdojnjognccaa
open Go.RowKit

def opV (o : OpD) (bo : Option Addr) (bm bc : Nat) (ko : Option Addr) (km kc : Nat) : Value := .agg #[.int .i64 o.k, .string o.name, .string o.dest, .slice bo bm bc, .int .i64 o.n, .slice ko km kc]
theorem cells_six {w : World} {p e : Nat} {c0 c1 c2 c3 c4 c5 : Value} (h : w.heap[p]? = some (.cells #[c0, c1, c2, c3, c4, c5] e (0, 0))) :
    w.cell? ⟨p, 0, none⟩ = some c0 ∧ w.cell? ⟨p, 1, none⟩ = some c1 ∧ w.cell? ⟨p, 2, none⟩ = some c2 ∧ w.cell? ⟨p, 3, none⟩ = some c3 ∧ w.cell? ⟨p, 4, none⟩ = some c4 ∧ w.cell? ⟨p, 5, none⟩ = some c5 := by
  have hc : ∀ j v, #[c0, c1, c2, c3, c4, c5][j]? = some v → w.cell? ⟨p, j, none⟩ = some v := fun j v hv => by rw [cell_of_row w p j _ e (0, 0) h]; exact hv
  exact ⟨hc 0 _ rfl, hc 1 _ rfl, hc 2 _ rfl, hc 3 _ rfl, hc 4 _ rfl, hc 5 _ rfl⟩
def whyR (m : RD) (o : OpD) : Nat :=
  if m.down = true then 2
  else if nameOk o.name = false then 40
  else if 0 < o.k ∧ alGet o.name m.L = none then 41
  else if o.k = 0 then (if alGet o.name m.L = none ∧ 64 ≤ m.L.length then 43 else if 4194304 < ((get0 o.name m.L).data.length : Int) + o.b.length then 12 else 0)
  else if o.k = 1 then (if m.room < sumL m.L - (get0 o.name m.L).safe + (get0 o.name m.L).data.length then 42 else 0)
  else if o.k = 2 then (if o.n < 0 ∨ ((get0 o.name m.L).data.length : Int) < o.n then 1 else 0)
  else if o.k = 3 then (if nameOk o.dest = false then 40 else 0)
  else 0

set_option maxHeartbeats 4000000 in
set_option maxRecDepth 100000 in
theorem why_any (P : Nat → Prop) (ao : Option Addr) (cap : Nat) (m : RD) (o : OpD) (bo : Option Addr) (bm bc : Nat) (ko : Option Addr) (km kc : Nat) (w : World) (h : RA P w ao m.L.length cap m.L) (hok : ROk m) (hop : OpOk o 1048576) (hb : o.b.length = bm) (hK : 0 ≤ o.k ∧ o.k ≤ 5) :
    Calls Try.prog 44 #[rdV ao cap m, opV o bo bm bc ko km kc] w fun e w' => e = .returned (.int .i64 (whyR m o : Int)) ∧ Kp Noone w w' := by
  obtain ⟨L, room, steps, fuse, down⟩ := m
  obtain ⟨K, nm, tn, b, N, keep⟩ := o
  obtain ⟨n, hn⟩ : ∃ n, L.length = n := ⟨_, rfl⟩
  have h64 := hok.len
  have hsm := hok.fit.small h64
  have hfit := hok.fit
  have hroom := hok.room
  have hnm : nm.size ≤ 9223372036854775807 := by have := hop.name; unfold maxLen at this; simp only [] at this; omega
  have hto : tn.size ≤ 9223372036854775807 := by have := hop.dest; unfold maxLen at this; simp only [] at this; omega
  have hN := hop.n
  have hbl := hop.b
  simp only [] at h h64 hsm hfit hroom hN hbl hK hb
  rw [hn] at h h64
  have hsb := hsm.sum
  obtain ⟨RES, hRES⟩ : ∃ x, Hid (whyR ⟨L, room, steps, fuse, down⟩ ⟨K, nm, tn, b, N, keep⟩ = x) := ⟨_, Lib.hid rfl⟩
  rw [hRES.out]
  have hA := heap_alloc_new w (.cells #[.slice ao n cap, .int .i64 room, .int .i64 steps, .int .i64 fuse, .bool down] 56)
  have eA := alloc_size w (.cells #[.slice ao n cap, .int .i64 room, .int .i64 steps, .int .i64 fuse, .bool down] 56)
  have kA : Kp Noone w ((w.alloc (.cells #[.slice ao n cap, .int .i64 room, .int .i64 steps, .int .i64 fuse, .bool down] 56)).alloc (.cells #[.int .i64 K, .string nm, .string tn, .slice bo bm bc, .int .i64 N, .slice ko km kc] 52)) := ((Kp.refl _ _).alloc _).alloc _
  have hdA := ((Kp.refl Noone (w.alloc (.cells #[.slice ao n cap, .int .i64 room, .int .i64 steps, .int .i64 fuse, .bool down] 56))).alloc (.cells #[.int .i64 K, .string nm, .string tn, .slice bo bm bc, .int .i64 N, .slice ko km kc] 52)).heap hA id
  have hoA := heap_alloc_new (w.alloc (.cells #[.slice ao n cap, .int .i64 room, .int .i64 steps, .int .i64 fuse, .bool down] 56)) (.cells #[.int .i64 K, .string nm, .string tn, .slice bo bm bc, .int .i64 N, .slice ko km kc] 52)
  rw [eA] at hoA
  have HL := Lib.hid (h.keep kA)
  have HSM := Lib.hid hsm
  have HFIT := Lib.hid hfit
  have HKA := Lib.hid kA
  clear h hA eA hfit hok hop kA hsm
  unfold rdV rdC opV
  simp only [hn]
  go_enter Try.func44, Try.ntmps44
  go_upto_region 1 with fail
  generalize (w.alloc (.cells #[.slice ao n cap, .int .i64 room, .int .i64 steps, .int .i64 fuse, .bool down] 56)).alloc (.cells #[.int .i64 K, .string nm, .string tn, .slice bo bm bc, .int .i64 N, .slice ko km kc] 52) = wA at *
  obtain ⟨⟨q0, q1, q2, q3, q4⟩, -⟩ := cells_five hdA
  obtain ⟨z0, z1, z2, z3, z4, z5⟩ := cells_six hoA
  cases down with
  | true =>
    have HE : Hid (RES = 2) := Lib.hid (by rw [← hRES.out]; simp [whyR])
    go_wp2_with fail
    go_ret
    exact ⟨by rw [HE.out]; rfl, HKA.out⟩
  | false =>
    go_wp2_with fail
    refine (refRight_any nm wA hnm).mono ?_
    rintro e w1 ⟨rfl, rfl⟩
    cases hno : rightL nm.data.toList with
    | false =>
      have HE : Hid (RES = 40) := Lib.hid (by rw [← hRES.out]; simp [whyR, nameOk, hno])
      clear hno
      go_wp2_with fail
      go_ret
      exact ⟨by rw [HE.out]; rfl, HKA.out⟩
    | true =>
      have hW : Hid (RES = if 0 < K ∧ alGet nm L = none then 41
        else if K = 0 then (if alGet nm L = none ∧ 64 ≤ L.length then 43 else if 4194304 < ((get0 nm L).data.length : Int) + b.length then 12 else 0)
        else if K = 1 then (if room < sumL L - (get0 nm L).safe + (get0 nm L).data.length then 42 else 0)
        else if K = 2 then (if N < 0 ∨ ((get0 nm L).data.length : Int) < N then 1 else 0)
        else if K = 3 then (if nameOk tn = false then 40 else 0) else 0) := Lib.hid (by rw [← hRES.out]; unfold whyR nameOk; simp only [hno]; simp)
      clear hno hRES
      go_wp2_with fail
      refine (at_ref _ ao n cap L room steps fuse false nm wA HL.out (by omega)).mono ?_
      rintro e w2 ⟨rfl, k2⟩
      have hd2 := k2.heap hdA id
      have ho2 := k2.heap hoA id
      have HL2 := Lib.hid (HL.out.keep k2)
      have HK2 := Lib.hid (HKA.out.trans k2)
      clear q0 q1 q2 q3 q4 z0 z1 z2 z3 z4 z5 k2 hdA hoA HL HKA
      obtain ⟨⟨q0, q1, q2, q3, q4⟩, -⟩ := cells_five hd2
      obtain ⟨z0, z1, z2, z3, z4, z5⟩ := cells_six ho2
      by_cases hz : alGet nm L = none
      · have hat := atL_none hz
        have hg0 : get0 nm L = ⟨[], 0⟩ := by unfold get0; rw [hz]; rfl
        have hW2 := hW.out
        rw [hg0] at hW2
        simp only [hz, and_true, true_and, List.length_nil] at hW2
        clear hW hz hg0
        generalize atL L nm = pl at *
        subst hat
        by_cases hK0 : 0 < K
        · rw [if_pos hK0] at hW2
          have HE := Lib.hid hW2
          clear hW2
          go_wp2_with fail
          go_ret
          exact ⟨by rw [HE.out]; rfl, HK2.out⟩
        · obtain rfl : K = 0 := by omega
          rw [if_neg hK0, if_pos rfl] at hW2
          by_cases hfull : 64 ≤ L.length
          · rw [if_pos hfull] at hW2
            have HE := Lib.hid hW2
            have hge : (n : Int) ≥ 64 := by omega
            clear hW2 hfull
            go_wp2_with fail
            go_ret
            exact ⟨by rw [HE.out]; rfl, HK2.out⟩
          · rw [if_neg hfull] at hW2
            have hge : ¬ (n : Int) ≥ 64 := by omega
            have hng : ¬ (4194304 : Int) < ((0 : Nat) : Int) + (b.length : Int) := by omega
            rw [if_neg hng] at hW2
            have HE := Lib.hid hW2
            have hnb : ¬ (bm : Int) > 4194304 := by omega
            clear hW2 hfull hng
            go_upto_region 12 with fail
            go_quiet (fail)
            go_wp2_with fail
            go_ret
            exact ⟨by rw [HE.out]; rfl, HK2.out.drewN _⟩
      · obtain ⟨i, hi, hat, -, hget⟩ := atL_some hz
        obtain ⟨gb, off, xo, xm, xc, rfl, hgl, -, c0, c1, c2, hda⟩ := HL2.out.get i hi
        have hxf := HFIT.out _ (List.getElem_mem hi)
        have hg0 : get0 nm L = L[i].2 := by unfold get0; rw [hget]; rfl
        have hW2 := hW.out
        rw [hg0] at hW2
        simp only [hz, and_false, false_and, if_false] at hW2
        have hS := safe_ref _ (some ⟨gb, off, none⟩) n cap L room steps fuse false w2.drew (HL2.out.keep ((Kp.refl _ _).drew)) HSM.out
        clear hW hget hg0 hz
        generalize L[i] = x at *
        obtain ⟨nx, xd, xs⟩ := x
        have hxm : xd.length = xm := hda.1.len
        simp only [] at c1 c2 hW2 hxf
        rw [hxm] at hW2 hxf
        rw [hat]
        have hin : i < n := by omega
        clear hda hat hi
        generalize sumL L = sm at *
        rcases (show K = 0 ∨ K = 1 ∨ K = 2 ∨ K = 3 ∨ K = 4 ∨ K = 5 by omega) with rfl | rfl | rfl | rfl | rfl | rfl
        · simp only [if_true] at hW2
          have hw1 : IntKind.i64.wrap ((xm : Int) + (bm : Int)) = (xm : Int) + (bm : Int) := IntWalk.i64_in _ (by omega)
          by_cases hbig : (xm : Int) + (bm : Int) > 4194304
          · rw [if_pos (by omega)] at hW2
            have HE := Lib.hid hW2
            clear hW2 hS
            go_upto_region 12 with fail
            go_quiet (fail)
            go_wp2_with fail
            go_ret
            exact ⟨by rw [HE.out]; rfl, HK2.out.drewN _⟩
          · rw [if_neg (by omega)] at hW2
            have HE := Lib.hid hW2
            have hnb : ¬ (bm : Int) > 4194304 := by omega
            clear hW2 hS
            go_upto_region 12 with fail
            go_quiet (fail)
            go_wp2_with fail
            go_ret
            exact ⟨by rw [HE.out]; rfl, HK2.out.drewN _⟩
        · simp only [Int.reduceEq, if_false, if_true] at hW2
          have hw1 : IntKind.i64.wrap (sm - xs) = sm - xs := IntWalk.i64_in _ (by omega)
          have hw2 : IntKind.i64.wrap (sm - xs + (xm : Int)) = sm - xs + (xm : Int) := IntWalk.i64_in _ (by omega)
          have hcs : ∀ w', Kp Noone w2 w' → ((w'.cell? ⟨w.heap.size, 0, none⟩ = some (.slice (some ⟨gb, off, none⟩) n cap) ∧ w'.cell? ⟨w.heap.size, 1, none⟩ = some (.int .i64 room) ∧ w'.cell? ⟨w.heap.size, 2, none⟩ = some (.int .i64 steps) ∧ w'.cell? ⟨w.heap.size, 3, none⟩ = some (.int .i64 fuse) ∧ w'.cell? ⟨w.heap.size, 4, none⟩ = some (.bool false)) ∧
              w'.cell? ⟨gb, off + i * 3 + 1, none⟩ = some (.slice xo xm xc) ∧ w'.cell? ⟨gb, off + i * 3 + 2, none⟩ = some (.int .i64 xs)) := fun w' k => ⟨(cells_five (k.heap hd2 id)).1, k.cell c1 id, k.cell c2 id⟩
          have k0 : Kp Noone w2 w2.drew := (Kp.refl _ _).drew
          go_upto_region 15 with fail
          clear q0 q1 q2 q3 q4 z0 z1 z2 z3 z4 z5 c0 c1 c2
          go_region_held3 (fun w' => (w'.cell? ⟨w.heap.size, 0, none⟩ = some (.slice (some ⟨gb, off, none⟩) n cap) ∧ w'.cell? ⟨w.heap.size, 1, none⟩ = some (.int .i64 room) ∧ w'.cell? ⟨w.heap.size, 2, none⟩ = some (.int .i64 steps) ∧ w'.cell? ⟨w.heap.size, 3, none⟩ = some (.int .i64 fuse) ∧ w'.cell? ⟨w.heap.size, 4, none⟩ = some (.bool false)) ∧
              w'.cell? ⟨gb, off + i * 3 + 1, none⟩ = some (.slice xo xm xc) ∧ w'.cell? ⟨gb, off + i * 3 + 2, none⟩ = some (.int .i64 xs))
            (first | exact hcs _ k0 | exact hcs _ k4)
            ((go_at_call 30; refine hS.mono ?_; rintro e w4 ⟨rfl, k3⟩; have k4 : Kp Noone w2 w4 := k0.trans k3))
          have HK4 := Lib.hid (HK2.out.trans k4)
          clear hcs k0 k3 k4 hS
          by_cases hbig : sm - xs + (xm : Int) > room
          · rw [if_pos (by omega)] at hW2
            have HE := Lib.hid hW2
            clear hW2
            go_wp2_with fail
            go_ret
            exact ⟨by rw [HE.out]; rfl, HK4.out⟩
          · rw [if_neg (by omega)] at hW2
            have HE := Lib.hid hW2
            clear hW2
            go_wp2_with fail
            go_ret
            exact ⟨by rw [HE.out]; rfl, HK4.out⟩
        · simp only [Int.reduceEq, if_false, if_true] at hW2
          clear hS
          by_cases h0 : N < 0
          · rw [if_pos (Or.inl h0)] at hW2
            have HE := Lib.hid hW2
            clear hW2
            go_upto_region 18 with fail
            go_quiet (fail)
            go_wp2_with fail
            go_ret
            exact ⟨by rw [HE.out]; rfl, HK2.out.drewN _⟩
          · by_cases h1 : N > (xm : Int)
            · rw [if_pos (Or.inr (by omega))] at hW2
              have HE := Lib.hid hW2
              clear hW2
              go_upto_region 18 with fail
              go_quiet (fail)
              go_wp2_with fail
              go_ret
              exact ⟨by rw [HE.out]; rfl, HK2.out.drewN _⟩
            · rw [if_neg (by omega)] at hW2
              have HE := Lib.hid hW2
              clear hW2
              go_upto_region 18 with fail
              go_quiet (fail)
              go_wp2_with fail
              go_ret
              exact ⟨by rw [HE.out]; rfl, HK2.out.drewN _⟩
        · simp only [Int.reduceEq, if_false, if_true] at hW2
          clear hS
          go_wp2_with fail
          refine (refRight_any tn w2 hto).mono ?_
          rintro e w3 ⟨rfl, rfl⟩
          unfold nameOk at hW2
          cases hno : rightL tn.data.toList with
          | false =>
            rw [if_pos hno] at hW2
            have HE := Lib.hid hW2
            clear hW2 hno
            go_wp2_with fail
            go_ret
            exact ⟨by rw [HE.out]; rfl, HK2.out⟩
          | true =>
            rw [if_neg (by rw [hno]; simp)] at hW2
            have HE := Lib.hid hW2
            clear hW2 hno
            go_wp2_with fail
            go_ret
            exact ⟨by rw [HE.out]; rfl, HK2.out⟩
        · simp only [Int.reduceEq, if_false] at hW2
          have HE := Lib.hid hW2
          clear hW2 hS
          go_wp2_with fail
          go_ret
          exact ⟨by rw [HE.out]; rfl, HK2.out⟩
        · simp only [Int.reduceEq, if_false] at hW2
          have HE := Lib.hid hW2
          clear hW2 hS
          go_wp2_with fail
          go_ret
          exact ⟨by rw [HE.out]; rfl, HK2.out⟩

end Go.Proofs.Ytmmdojnjognccaa
