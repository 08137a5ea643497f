/-
  THE WALK of once.
-/
import Derived.Test.YtlpdoefbjhlegaaLinkOnceP
import Derived.Test.YtlpdoefbjhlegaaLinkDuo
namespace Go.Proofs.Ytlpdoefbjhlegaa
open Go.RowKit

theorem once_hit {gs ws : List (List UInt8)} {u : List Bool} {k j : Nat} (hk : k < gs.length) (hp : (gs.drop k).Perm (restOf ws u)) (h1 : j < ws.length) (h2 : j < u.length) (h3 : u[j] = false) (h4 : ws[j] = gs[k]) : (gs.drop (k + 1)).Perm (restOf ws (u.set j true)) := by
  have h := restOf_set ws u j h1 h2 h3
  rw [h4] at h
  rw [List.drop_eq_getElem_cons hk] at hp
  exact List.Perm.cons_inv (hp.trans h)
theorem once_miss {gs ws : List (List UInt8)} {u : List Bool} {k : Nat} (hk : k < gs.length) (hp : (gs.drop k).Perm (restOf ws u)) (hno : ∀ j (h1 : j < ws.length) (h2 : j < u.length), ¬ (u[j] = false ∧ ws[j] = gs[k])) : False := by
  rw [List.drop_eq_getElem_cons hk] at hp
  obtain ⟨j, h1, h2, h3, h4⟩ := restOf_mem ws u gs[k] (hp.mem_iff.1 List.mem_cons_self)
  exact hno j h1 h2 ⟨h3, h4⟩

def ub (u : List Bool) : Array Value := (u.map Value.bool).toArray
theorem ub_get (u : List Bool) (i : Nat) (h : i < u.length) : (ub u)[i]? = some (.bool u[i]) := by simp [ub, h]
theorem ub_set (u : List Bool) (i : Nat) (b : Bool) : (ub u).setIfInBounds i (.bool b) = ub (u.set i b) := by simp [ub, List.map_set]
theorem ub_none (m : Nat) : madeCells #[.bool false] m = ub (List.replicate m false) := by
  refine Array.ext (by simp [ub, madeCells]) (fun i h1 h2 => by simp [ub, madeCells, Nat.mod_one])

theorem info_bool : (Try.prog.info? 4).map (fun i => (i.zero, i.size, i.bytes)) = some (some (.bool false), 1, 1) := by kernel_rfl

structure OnceR (W : World) (g m : Nat) (gs ws : List (List UInt8)) (v : Value) (wr : World) : Prop where
  ex : ∃ (k : Nat) (u : List Bool), v = .int .i64 (k : Int) ∧ k ≤ gs.length ∧ Kp Noone W wr ∧ wr.heap[g]? = some (.cells (ub u) 4 (0, 0)) ∧ u.length = m ∧ (gs.drop k).Perm (restOf ws u)
structure OnceI (W : World) (g m : Nat) (gs ws : List (List UInt8)) (k : Nat) (u : List Bool) (hit v : Value) (wr : World) : Prop where
  ex : ∃ (i : Nat) (u' : List Bool) (h : Bool), v = .int .i64 (i : Int) ∧ hit = .bool h ∧ i ≤ m ∧ Kp Noone W wr ∧ wr.heap[g]? = some (.cells (ub u') 4 (0, 0)) ∧ u'.length = m ∧
    (if h then (gs.drop (k + 1)).Perm (restOf ws u') else u' = u ∧ ∀ j (h1 : j < ws.length) (h2 : j < u.length) (h3 : k < gs.length), j < i → ¬ (u[j] = false ∧ ws[j] = gs[k]))

set_option maxHeartbeats 2000000 in
set_option maxRecDepth 100000 in
theorem once_any (ao : Option Addr) (n cap : Nat) (gs : List (List UInt8)) (bo : Option Addr) (m bcap : Nat) (ws : List (List UInt8)) (W : World) (hg : BSS W ao n cap gs) (hw : BSS W bo m bcap ws) (hp : gs.Perm ws) (hm : m ≤ 1048576)
    (hsh : ∀ x ∈ ws, x.length ≤ 9223372036854775807) :
    Calls Try.prog 22 #[.slice ao n cap, .slice bo m bcap] W fun e w' => e = .returned (.bool true) ∧ Kp Noone W w' := by
  obtain ⟨i0, hi, hz0, hz1, hz2⟩ := info_parts info_bool
  have hgl := hg.len
  have hwl := hw.len
  have hpl := hp.length_eq
  have hmk : ∀ u : World, (Instr.makeSlice 91 (.int .i64 (m : Int)) (.int .i64 (m : Int))).run Try.prog u =
      .ok (.slice (some ⟨u.heap.size, 0, none⟩) m m) (u.alloc (.cells (madeCells #[.bool false] m) 4)) := fun u => by
    have h := run_make (P := Try.prog) u 91 4 i0 (.bool false) Try.underlying91 hi hz0 .i64 .i64 (m : Int) (m : Int) (by omega) (Int.le_refl _) (by rw [hz2]; omega) (by omega)
    simpa [hz1, Value.cells] using h
  have HP := Lib.hid hp
  have HG := Lib.hid hg
  have HW := Lib.hid hw
  have HGL := Lib.hid hgl
  have HWL := Lib.hid hwl
  have HSH := Lib.hid hsh
  have hnm : n = m := by omega
  have hh0 := heap_alloc_new W (.cells (madeCells #[.bool false] m) 4)
  rw [ub_none] at hh0 hmk
  have k0 : Kp Noone W (W.alloc (.cells (ub (List.replicate m false)) 4)) := (Kp.refl _ _).alloc _
  have HH := Lib.hid hh0
  have hgW : Hid (∀ j, W.heap.size = j → ¬ j < W.heap.size) := Lib.hid (fun j h => by omega)
  subst hnm
  clear hp hg hw hgl hwl hpl hsh hh0
  go_enter Try.func22, Try.ntmps22
  go_wp2_with fail
  obtain ⟨g, hgz⟩ : ∃ g, Hid (W.heap.size = g) := ⟨_, Lib.hid rfl⟩
  rw [hgz.out] at HH ⊢
  generalize W.alloc (.cells (ub (List.replicate n false)) 4) = w1 at *
  go_loopw [15] (fun v wr => OnceR W g n gs ws v wr) (fun v _ => n - (intOf v).toNat)
  case atStart =>
    refine OnceR.mk ⟨0, _, by rfl, by omega, k0, HH.out, by simp, ?_⟩
    rw [← HWL.out, restOf_none]
    exact HP.out
  case round =>
    obtain ⟨k, u, rfl, hk, kr, hh, hul, hpm⟩ := hrel.ex
    have hkn : k ≤ n := by rw [HGL.out] at hk; exact hk
    clear k0 HH
    by_cases hlt : k < n
    · obtain ⟨b, off, xo, xm, xc, hl, rfl, hbl, hcellW, hbs⟩ := HG.out.at hlt
      have hcell := kr.cell hcellW id
      have hwk : IntKind.i64.wrap ((k : Int) + 1) = (k : Int) + 1 := IntWalk.i64_in _ (by omega)
      have HB := Lib.hid hbs
      have HPM := Lib.hid hpm
      clear hcellW hbs hpm
      go_wp2_with fail
      obtain ⟨wo, rfl⟩ : ∃ wo : World, wo = wr := ⟨_, rfl⟩
      go_loopw [8, 21] (fun hit v wr => OnceI W g n gs ws k u hit v wr) (fun _ v _ => n - (intOf v).toNat)
      case atStart => exact OnceI.mk ⟨0, u, false, by rfl, by rfl, by omega, kr, hh, hul, by rw [if_neg (by simp)]; exact ⟨rfl, fun j _ _ _ c => by omega⟩⟩
      case round =>
        obtain ⟨i, u', h, rfl, rfl, hin, kr', hh', hul', hst⟩ := hrel.ex
        clear kr hh
        by_cases hlt2 : i < n
        · have hwk2 : IntKind.i64.wrap ((i : Int) + 1) = (i : Int) + 1 := IntWalk.i64_in _ (by omega)
          have HST := Lib.hid hst
          clear hst
          cases h with
          | true =>
            go_wp2_with fail
            go_roundw
            case rel => exact OnceI.mk ⟨i + 1, u', true, by rfl, by rfl, by omega, kr', hh', hul', HST.out⟩
            case measure => simp [intOf]; omega
          | false =>
            obtain ⟨rfl, hno⟩ : u' = u ∧ _ := by have := HST.out; rwa [if_neg (by simp)] at this
            have HNO := Lib.hid hno
            clear hno HST
            have hc0 : wr.cell? ⟨g, i, none⟩ = some (.bool (u'[i]'(by omega))) := by
              rw [cell_of_row wr g i _ _ _ hh']
              exact ub_get u' i (by omega)
            have hfz : wr.frozen? ⟨g, i, none⟩ = false := by simp [World.frozen?, hh']
            have hgl2 : g < wr.heap.size := (Array.getElem?_eq_some_iff.1 hh').1
            cases hub : u'[i]'(by omega) with
            | true =>
              rw [hub] at hc0
              have HN2 : Hid (∀ j (h1 : j < ws.length) (h2 : j < u'.length) (h3 : k < gs.length), j < i + 1 → ¬ (u'[j] = false ∧ ws[j] = gs[k])) := Lib.hid (fun j h1 h2 h3 hj => by
                by_cases hji : j < i
                · exact HNO.out j h1 h2 h3 hji
                · obtain rfl : j = i := by omega
                  rintro ⟨c, -⟩
                  rw [hub] at c
                  exact absurd c (by simp))
              have HK := Lib.hid hh'
              clear HNO hh' hfz
              go_wp2_with fail
              go_roundw
              case rel => exact OnceI.mk ⟨i + 1, u', false, by rfl, by rfl, by omega, kr', HK.out, hul', by rw [if_neg (by simp)]; exact ⟨rfl, HN2.out⟩⟩
              case measure => simp [intOf]; omega
            | false =>
              rw [hub] at hc0
              obtain ⟨b2, off2, yo, ym, yc, hl2, rfl, hbl2, hcell2W, hbs2⟩ := HW.out.at hlt2
              have hcell2 := kr'.cell hcell2W id
              have hsh := HSH.out _ (List.getElem_mem hl2)
              have hyl := hbs2.len
              have HUB := Lib.hid hub
              have HB2 := Lib.hid hbs2
              have hym : ym ≤ 9223372036854775807 := by omega
              have HK := Lib.hid hh'
              have hq : ∀ q, (wr.drewN q).heap[g]? = some (.cells (ub u') 4 (0, 0)) := fun q => ((Kp.refl Noone wr).drewN q).heap hh' id
              have hfq : ∀ q, (wr.drewN q).frozen? ⟨g, i, none⟩ = false := fun q => (((Kp.refl Noone wr).drewN q).frozen (p := ⟨g, i, none⟩) hgl2 id).trans hfz
              have HQ := Lib.hid hq
              have ko : ∀ q, Kp Noone W (wr.drewN q) := fun q => kr'.drewN q
              clear hcell2W hyl hbs2 hub hh' hq
              by_cases heq : ws[i] = gs[k]
              · have he : (ws[i] == gs[k]) = true := by simpa using heq
                have HIT := Lib.hid (once_hit hl HPM.out hl2 (by omega) HUB.out heq)
                clear heq HNO
                go_wp2_with fail
                refine (same_any yo xo ym yc xm xc _ _ wr (HB2.out.keep kr') (HB.out.keep kr') (by omega)).mono ?_
                rw [he]
                rintro e w5 ⟨rfl, q, rfl⟩
                go_wp2_with fail
                go_roundw
                case rel =>
                  refine OnceI.mk ⟨i + 1, u'.set i true, true, by rfl, by rfl, by omega, (ko q).setCell (fun c => absurd c (hgW.out g hgz.out)) _, ?_, by simp; omega, HIT.out⟩
                  rw [heap_set_cell (HQ.out q), ub_set]
                case measure => simp [intOf]; omega
              · have he : (ws[i] == gs[k]) = false := by simpa using heq
                have HN2 : Hid (∀ j (h1 : j < ws.length) (h2 : j < u'.length) (h3 : k < gs.length), j < i + 1 → ¬ (u'[j] = false ∧ ws[j] = gs[k])) := Lib.hid (fun j h1 h2 h3 hj => by
                  by_cases hji : j < i
                  · exact HNO.out j h1 h2 h3 hji
                  · obtain rfl : j = i := by omega
                    rintro ⟨-, c⟩
                    exact heq c)
                clear heq HNO
                go_wp2_with fail
                refine (same_any yo xo ym yc xm xc _ _ wr (HB2.out.keep kr') (HB.out.keep kr') (by omega)).mono ?_
                rw [he]
                rintro e w5 ⟨rfl, q, rfl⟩
                go_wp2_with fail
                go_roundw
                case rel => exact OnceI.mk ⟨i + 1, u', false, by rfl, by rfl, by omega, ko q, HQ.out q, hul', by rw [if_neg (by simp)]; exact ⟨rfl, HN2.out⟩⟩
                case measure => simp [intOf]; omega
        · obtain rfl : i = n := by omega
          cases h with
          | false =>
            exfalso
            obtain ⟨rfl, hno⟩ : u' = u ∧ _ := by have := hst; rwa [if_neg (by simp)] at this
            exact once_miss hl HPM.out (fun j h1 h2 => hno j h1 h2 hl (by omega))
          | true =>
            have HST : Hid ((gs.drop (k + 1)).Perm (restOf ws u')) := Lib.hid (by simpa using hst)
            have HK := Lib.hid hh'
            clear hst hh'
            go_wp2_with fail
            go_roundw
            case rel => exact OnceR.mk ⟨k + 1, u', by rfl, by omega, kr', HK.out, hul', HST.out⟩
            case measure => simp [intOf]; omega
    · obtain rfl : k = n := by omega
      clear hh hpm
      go_wp2_with fail
      go_ret
      exact ⟨rfl, kr⟩

end Go.Proofs.Ytlpdoefbjhlegaa
