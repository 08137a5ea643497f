/-
  DiskApart: what is done to one area changes no other one.
-/
import Derived.Test.YtmmdojnjognccaaDo
import Derived.Test.YtmmdojnjognccaaReadN
namespace Go.Proofs.Ytmmdojnjognccaa
open Go.RowKit

/-! ### The plain law -/

def nO : ByteArray := { data := #[111, 119, 110] }
theorem nO_ok : nameOk nO = true := by decide +kernel
def cutS (a : AreaP) : AreaP := ⟨a.data.take a.safe.toNat, a.safe⟩
theorem crash1_none (t : DS) (n : ByteArray) : crash1 t n none = putF t n (cutS (get0 n t.areas)) := by
  have h : crashA t (get0 n t.areas) none = (get0 n t.areas).safe := by unfold crashA keepN; simp only []; omega
  unfold crash1 cutS
  rw [h]
theorem crashUp_get (s : DS) (ns : List ByteArray) (hnd : ns.Nodup) (hk : ∀ k ∈ ns, k ∈ s.areas.map (·.1)) : ∀ j, j ≤ ns.length → ∀ k, (k ∈ ns.take j → alGet k (crashUp ns [] s j).areas = (alGet k s.areas).map cutS) ∧ (k ∉ ns.take j → alGet k (crashUp ns [] s j).areas = alGet k s.areas)
  | 0, _, k => ⟨fun c => by simp at c, fun _ => rfl⟩
  | j + 1, hj, k => by
    have hj' : j < ns.length := by omega
    have ih := crashUp_get s ns hnd hk j (by omega)
    have hn : ns[j] ∉ ns.take j := fun c => by
      have h1 : ns = ns.take j ++ ns[j] :: ns.drop (j + 1) := by rw [← List.drop_eq_getElem_cons hj', List.take_append_drop]
      have h2 := hnd
      rw [h1, List.nodup_append] at h2
      exact h2.2.2 _ c _ (List.mem_cons_self ..) rfl
    have e1 : crashUp ns [] s (j + 1) = putF (crashUp ns [] s j) ns[j] (cutS (get0 ns[j] (crashUp ns [] s j).areas)) := by
      show crash1 _ (ns[j]?.getD ByteArray.empty) ([] : List Int)[j]? = _
      rw [List.getElem?_eq_getElem hj', List.getElem?_nil]
      exact crash1_none _ _
    rw [e1, List.take_succ_eq_append_getElem hj']
    show (_ → alGet k (alPut ns[j] _ (crashUp ns [] s j).areas) = _) ∧ (_ → alGet k (alPut ns[j] _ (crashUp ns [] s j).areas) = _)
    rw [alGet_put]
    have hg : alGet ns[j] (crashUp ns [] s j).areas = alGet ns[j] s.areas := (ih _).2 hn
    by_cases c : k = ns[j]
    · rw [if_pos c]
      refine ⟨fun _ => ?_, fun d => absurd (by rw [c]; exact List.mem_append.2 (Or.inr (List.mem_singleton.2 rfl))) d⟩
      unfold get0
      rw [hg, c]
      cases ha : alGet ns[j] s.areas with
      | none => exact absurd ha (get_ne (hk _ (List.getElem_mem hj')))
      | some a => rfl
    · rw [if_neg c]
      exact ⟨fun d => (ih k).1 ((List.mem_append.1 d).elim id (fun e => absurd (List.mem_singleton.1 e) c)), fun d => (ih k).2 (fun e => d (List.mem_append.2 (Or.inl e)))⟩
theorem names_nodup {s : DS} (h : DOk s) : (namesF s).Nodup := (sortN_of _).nodup_iff.2 h.keys
theorem crashF_get {s : DS} (h : DOk s) (k : ByteArray) : alGet k (crashF s []).areas = (alGet k s.areas).map cutS := by
  have h1 := crashUp_get s (namesF s) (names_nodup h) namesF_mem (namesF s).length (Nat.le_refl _) k
  show alGet k (crashUp (namesF s) [] s (namesF s).length).areas = _
  rw [List.take_length] at h1
  by_cases c : k ∈ namesF s
  · exact h1.1 c
  · rw [h1.2 c]
    have : alGet k s.areas = none := (alGet_none k s.areas).2 (fun d => c ((sortN_of _).mem_iff.2 d))
    rw [this]; rfl
theorem crash_read {s : DS} (h : DOk s) {a : List UInt8} (ha : alGet nO s.areas = some ⟨a, a.length⟩) : readF (crashF s []) nO = (a, 0) := by
  have hg := crashF_get h nO
  rw [ha] at hg
  have hd : (crashF s []).down = false := rfl
  unfold readF barsF get0
  rw [hd, nO_ok, hg]
  simp [cutS]
theorem crash_image {s : DS} (h : DOk s) : ∀ x ∈ imageF (crashF s []), x.2.safe = x.2.data.length := by
  intro x hx
  unfold imageF at hx
  obtain ⟨k, hk, rfl⟩ := List.mem_map.1 hx
  have hm := namesF_mem k hk
  have hne := get_ne hm
  have hg := crashF_get h k
  show (get0 k _).safe = ((get0 k _).data.length : Int)
  unfold get0
  cases ha : alGet k s.areas with
  | none => rw [ha] at hg; exact absurd hg hne
  | some a0 =>
    rw [ha] at hg
    rw [hg]
    have := h.each _ (alGet_mem ha)
    show a0.safe = ((a0.data.take a0.safe.toNat).length : Int)
    simp only [] at this
    rw [List.length_take]
    omega
theorem stepF_le (s : DS) : (stepF s).1.steps ≤ s.steps + 1 := by unfold stepF; split <;> simp <;> omega
theorem crashF_steps (s : DS) (keep : List Int) : (crashF s keep).steps = s.steps := (crashUp_room _ keep s _).2
theorem doF_steps (s : DS) (o : OpD) : (doF s o).1.steps ≤ s.steps + 1 := by
  have h1 := stepF_le s
  have h2 : ∀ k a, (stepF (putF s k a)).1.steps ≤ s.steps + 1 := fun k a => stepF_le (putF s k a)
  unfold doF
  repeat' split
  · unfold appendF; repeat' split
    all_goals first | exact h2 _ _ | (simp only []; omega)
  · unfold syncF; repeat' split
    all_goals first | exact h1 | (simp only []; omega)
  · unfold cutF; repeat' split
    all_goals first | exact h1 | (simp only []; omega)
  · unfold moveF; repeat' split
    all_goals first | exact h1 | (simp only []; omega)
  · unfold dropF; repeat' split
    all_goals first | exact h1 | (simp only []; omega)
  · simp only []; omega
  · unfold fuseF; simp only []; omega
  · rw [crashF_steps]; omega
  · simp only []; omega
theorem doF_apart {s : DS} (h : DOk s) {o : OpD} {A : AreaP} (hA : alGet nO s.areas = some A) (hn : o.name ≠ nO) (ht : o.dest ≠ nO) (h7 : o.k ≠ 7) : alGet nO (doF s o).1.areas = some A := by
  have hp : ∀ a, alGet nO (alPut o.name a s.areas) = some A := fun a => by rw [alGet_put, if_neg (fun c => hn c.symm)]; exact hA
  have hd : alGet nO (alDel o.name s.areas) = some A := by rw [alGet_del _ _ _ h.keys, if_neg (fun c => hn c.symm)]; exact hA
  have hs : alGet nO (stepF s).1.areas = some A := by rw [stepF_areas]; exact hA
  unfold doF
  repeat' split
  · unfold appendF; repeat' split
    all_goals first | exact hA | (rw [stepF_put]; show alGet nO (alPut _ _ (stepF s).1.areas) = _; rw [stepF_areas]; exact hp _)
  · unfold syncF; repeat' split
    all_goals first | exact hA | exact hs | (show alGet nO (alPut _ _ (stepF s).1.areas) = _; rw [stepF_areas]; exact hp _)
  · unfold cutF; repeat' split
    all_goals first | exact hA | exact hs | (show alGet nO (alPut _ _ (stepF s).1.areas) = _; rw [stepF_areas]; exact hp _)
  · unfold moveF; repeat' split
    all_goals first | exact hA | exact hs | (show alGet nO (alPut _ _ (alDel _ s.areas)) = _; rw [alGet_put, if_neg (fun c => ht c.symm)]; exact hd)
  · unfold dropF; repeat' split
    all_goals first | exact hA | exact hs | exact hd
  · exact hA
  · exact hA
  · exact hA

theorem apart_start (a : List UInt8) (ha : a.length ≤ 65536) :
    (appendF (newF 4194304) nO a).2 = 0 ∧ (appendF (newF 4194304) nO a).1.steps ≤ 1 ∧ (syncF (appendF (newF 4194304) nO a).1 nO).2 = 0 ∧ alGet nO (syncF (appendF (newF 4194304) nO a).1 nO).1.areas = some ⟨a, a.length⟩ ∧ (syncF (appendF (newF 4194304) nO a).1 nO).1.steps ≤ 2 := by
  have e1 : appendF (newF 4194304) nO a = ({ areas := [(nO, ⟨a, 0⟩)], room := 4194304, steps := 1, fuse := 0, down := false }, 0) := by
    have hb : barsF (newF 4194304) nO false = 0 := by decide +kernel
    unfold appendF
    rw [if_neg (by rw [hb]; simp), if_neg (by rintro ⟨-, c⟩; simp [newF] at c)]
    have hg : get0 nO (newF 4194304).areas = ⟨[], 0⟩ := rfl
    rw [hg, if_neg (by simp; omega)]
    have hst : (stepF (newF 4194304)).2 = true := by decide +kernel
    rw [hst]
    refine Prod.ext ?_ rfl
    unfold stepF putF newF
    simp [alPut]
    decide
  have e2 : syncF ({ areas := [(nO, ⟨a, 0⟩)], room := 4194304, steps := 1, fuse := 0, down := false } : DS) nO = ({ areas := [(nO, ⟨a, a.length⟩)], room := 4194304, steps := 2, fuse := 0, down := false }, 0) := by
    have hg : get0 nO [(nO, (⟨a, 0⟩ : AreaP))] = ⟨a, 0⟩ := by unfold get0; rw [alGet_cons, if_pos rfl]; rfl
    have hb : barsF ({ areas := [(nO, ⟨a, 0⟩)], room := 4194304, steps := 1, fuse := 0, down := false } : DS) nO true = 0 := by
      unfold barsF
      rw [nO_ok, alGet_cons, if_pos rfl]
      simp
    unfold syncF
    rw [if_neg (by rw [hb]; simp)]
    simp only [hg]
    rw [if_neg (by simp [sumF]; omega), if_neg (by simp [stepF])]
    refine Prod.ext ?_ rfl
    simp [stepF, putF, alPut]
    decide
  have e3 : syncF (appendF (newF 4194304) nO a).1 nO = ({ areas := [(nO, ⟨a, a.length⟩)], room := 4194304, steps := 2, fuse := 0, down := false }, 0) := by rw [e1]; exact e2
  rw [e3, e1]
  exact ⟨rfl, by simp, rfl, by rw [alGet_cons, if_pos rfl], by simp⟩

/-! ### The walk -/

theorem OpOk.mono {o : OpD} {M N : Nat} (h : OpOk o M) (hm : M ≤ N) : OpOk o N := ⟨h.k, h.name, h.dest, h.n, by have := h.b; omega, by have := h.keep; omega⟩
/-- Between two steps. -/
structure ApR (W : World) (p n : Nat) (a : List UInt8) (v : Value) (wr : World) : Prop where
  ex : ∃ (i : Nat) (col : Nat → Nat) (s : DS), v = .int .i64 (i : Int) ∧ i ≤ n ∧ i ≤ 60 ∧ Ext W.heap.size (fun c => c ≠ 0) (fun _ => 0) W col wr ∧ Dk col 0 wr p s ∧ alGet nO s.areas = some ⟨a, a.length⟩ ∧ s.steps ≤ i + 2

attribute [local irreducible] appendF syncF newF crashF readF imageF doF
set_option maxHeartbeats 4000000 in
set_option maxRecDepth 100000 in
theorem diskApart_walk (ao : Option Addr) (na ca : Nat) (a : List UInt8) (so : Option Addr) (n cap : Nat) (ps : List OpD) (W : World) (ha : BS W ao na ca a) (hs : OS W so n cap ps 1048576) (hna : na ≤ 1048576) (_hn : n ≤ 1048576) :
    Calls Try.prog 6 #[.slice ao na ca, .slice so n cap] W fun e w' => e = .returned (.bool true) ∧ Kp Noone W w' := by
  have hla := ha.len
  have hsl := hs.len
  have HA := Lib.hid ha
  have HS := Lib.hid hs
  clear ha hs
  have HKW : Hid (∀ (w : World) (col : Nat → Nat), Ext W.heap.size (fun c => c ≠ 0) (fun _ => 0) W col w → Kp Noone W w) := Lib.hid (fun w col X => X.kp.mono (fun j hj c => absurd rfl c))
  go_enter Try.func6, Try.ntmps6
  go_wp2_with fail
  refine (head_any _).mono ?_
  rintro e w1 ⟨rfl, k1⟩
  go_wp2_with fail
  refine (new_dk W.heap.size (fun _ => 0) 0 4194304 w1 (Cols.zero _ _) k1.size).mono ?_
  rintro e w2 ⟨p, c2, rfl, x2, d2⟩
  have X2 := (Ext.quiet (S := fun c => c ≠ 0) (Cols.zero W.heap.size W) k1).trans (x2.mono (T := fun c => c ≠ 0) (fun c h => by unfold S3 at h; omega))
  clear x2 k1
  by_cases hbig : (na : Int) > 65536
  · go_wp2_with fail
    go_ret
    exact ⟨rfl, HKW.out _ _ X2⟩
  · obtain ⟨t1, t2, t3, t4, t5⟩ := apart_start a (by omega)
    go_wp2_with fail
    refine (copy_exact ao na ca a _ (HA.out.keep (HKW.out _ _ X2)) (by omega)).mono ?_
    rintro e w3 ⟨rfl, hw3⟩
    obtain ⟨hb3, k3⟩ := copied2 hw3 hla (by unfold maxLen; omega)
    have X3 := X2.trans (Ext.quiet X2.cols k3)
    have d3 := d2.keep k3
    clear hw3 X2 d2 k3
    go_wp2_with fail
    refine (append_dk W.heap.size c2 0 p _ nO _ na na a _ d3 X3.cols X3.size hb3 (by decide) (by decide +kernel)).mono ?_
    rw [t1]
    rintro e w4 ⟨rfl, c4, x4, d4⟩
    have X4 := X3.trans (x4.mono (T := fun c => c ≠ 0) (fun c h => by unfold S3 at h; omega))
    clear X3 x4 d3 hb3
    generalize (appendF (newF 4194304) nO a).1 = s1 at *
    go_wp2_with fail
    refine (sync_dk W.heap.size c4 0 p s1 nO _ d4 X4.cols X4.size (by decide) (by omega)).mono ?_
    rw [t3]
    rintro e w5 ⟨rfl, c5, x5, d5⟩
    have X5 := X4.trans (x5.mono (T := fun c => c ≠ 0) (fun c h => by unfold S3 at h; omega))
    have R0 : Hid (ApR W p n a (.int .i64 0) w5) := Lib.hid ⟨⟨0, c5, _, by rfl, Nat.zero_le _, Nat.zero_le _, X5, d5, t4, by omega⟩⟩
    clear X4 x5 d4 X5 d5 t1 t2 t3 t4 t5
    go_wp2_with fail
    go_loopw [6] (fun v wr => ApR W p n a v wr) (fun v _ => n - (intOf v).toNat)
    case atStart => exact R0.out
    case round =>
      clear R0
      obtain ⟨i, col, s, rfl, hin, hi60, X, d, hg, hst⟩ := hrel.ex
      by_cases hgo : i < n ∧ i < 60
      · obtain ⟨hlt, h60⟩ := hgo
        have kr := HKW.out _ _ X
        obtain ⟨hop, b, off, bo, bm, bc, ko, km, kc, rfl, hbl, e0, e1, e2, e3, e4, e5, hbs, his⟩ := HS.out.get i (by omega)
        have z0 := kr.cell e0 id
        have z1 := kr.cell e1 id
        have z2 := kr.cell e2 id
        have z3 := kr.cell e3 id
        have z4 := kr.cell e4 id
        have z5 := kr.cell e5 id
        have hbr := hbs.keep kr
        have hir := his.keep kr
        have hwi : IntKind.i64.wrap ((i : Int) + 1) = (i : Int) + 1 := IntWalk.i64_in _ (by omega)
        generalize ps[i] = o at *
        have kA : Kp Noone wr (wr.alloc (.cells #[.int .i64 o.k, .string o.name, .string o.dest, .slice bo bm bc, .int .i64 o.n, .slice ko km kc] 52)) := (Kp.refl _ _).alloc _
        have HX := Lib.hid (X.trans (Ext.quiet X.cols kA))
        have HD := Lib.hid (d.keep kA)
        have HBR := Lib.hid (hbr.keep kA)
        have HIR := Lib.hid (hir.keep kA)
        have HG := Lib.hid hg
        have HST := Lib.hid hst
        have HOP := Lib.hid hop
        have RS := Lib.hid (ApR.mk (W := W) (p := p) (n := n) (a := a) (v := .int .i64 ((i + 1 : Nat) : Int)) (wr := wr.alloc (.cells #[.int .i64 o.k, .string o.name, .string o.dest, .slice bo bm bc, .int .i64 o.n, .slice ko km kc] 52)) ⟨i + 1, col, s, by rfl, by omega, by omega, HX.out, HD.out, hg, by omega⟩)
        clear X d hg hst kr e0 e1 e2 e3 e4 e5 hbs his hbr hir hop kA
        have hbq : ∀ x : ByteArray, x.toList = [111, 119, 110] ↔ x = nO := fun x => by
          rw [ByteArray.toList_eq]
          exact ⟨fun h => ByteArray.ext (by rw [← Array.toArray_toList (xs := x.data), h]; rfl), fun h => by rw [h]; rfl⟩
        by_cases hskip : o.name = nO ∨ o.dest = nO ∨ o.k = 7
        · have hcase : o.name.toList = [111, 119, 110] ∨ (¬ o.name.toList = [111, 119, 110] ∧ o.dest.toList = [111, 119, 110]) ∨ (¬ o.name.toList = [111, 119, 110] ∧ ¬ o.dest.toList = [111, 119, 110] ∧ o.k = 7) := by
            by_cases h1 : o.name = nO
            · exact Or.inl ((hbq _).2 h1)
            · by_cases h2 : o.dest = nO
              · exact Or.inr (Or.inl ⟨fun c => h1 ((hbq _).1 c), (hbq _).2 h2⟩)
              · exact Or.inr (Or.inr ⟨fun c => h1 ((hbq _).1 c), fun c => h2 ((hbq _).1 c), by rcases hskip with h | h | h; exact absurd h h1; exact absurd h h2; exact h⟩)
          clear hskip hbq
          rcases hcase with h | ⟨h1, h2⟩ | ⟨h1, h2, h3⟩
          · go_wp2_with fail
            go_roundw
            case rel => exact RS.out
            case measure => simp [intOf]; omega
          · go_wp2_with fail
            go_roundw
            case rel => exact RS.out
            case measure => simp [intOf]; omega
          · have h3' : (o.k == 7) = true := by simpa using h3
            have RS2 := RS.out
            rw [h3] at RS2
            have RS3 := Lib.hid RS2
            clear RS2
            go_wp2_with fail
            go_roundw
            case rel => exact RS3.out
            case measure => simp [intOf]; omega
        · have h1 : ¬ o.name.toList = [111, 119, 110] := fun c => hskip (Or.inl ((hbq _).1 c))
          have h2 : ¬ o.dest.toList = [111, 119, 110] := fun c => hskip (Or.inr (Or.inl ((hbq _).1 c)))
          have h3 : (o.k == 7) = false := by
            have : ¬ o.k = 7 := fun c => hskip (Or.inr (Or.inr c))
            simpa using this
          have h1b : (o.name.toList == [111, 119, 110]) = false := by
            cases h : (o.name.toList == [111, 119, 110]) with
            | false => rfl
            | true => exact absurd (eq_of_beq h) h1
          have h2b : (o.dest.toList == [111, 119, 110]) = false := by
            cases h : (o.dest.toList == [111, 119, 110]) with
            | false => rfl
            | true => exact absurd (eq_of_beq h) h2
          have HAP := Lib.hid (doF_apart HD.out.2 HG.out (fun c => hskip (Or.inl c)) (fun c => hskip (Or.inr (Or.inl c))) (fun c => hskip (Or.inr (Or.inr c))))
          have HSP := Lib.hid (doF_steps s o)
          clear hskip hbq RS
          go_wp2_with fail
          refine (do_any W.heap.size col 0 p s o bo bm bc ko km kc _ HD.out HX.out.cols HX.out.size HOP.out HBR.out HIR.out (by have := HST.out; omega)).mono ?_
          rintro e w6 hdo
          obtain ⟨xo, xc, c6, rfl, x6, d6, -⟩ := hdo.ex
          have X6 := HX.out.trans (x6.mono (T := fun c => c ≠ 0) (fun c h => by unfold S3 at h; omega))
          have R := Lib.hid (ApR.mk (W := W) (p := p) (n := n) (a := a) (v := .int .i64 ((i + 1 : Nat) : Int)) (wr := w6) ⟨i + 1, c6, _, by rfl, by omega, by omega, X6, d6, HAP.out, by have h1 := HSP.out; have h2 := HST.out; omega⟩)
          clear hdo x6 d6 X6
          go_wp2_with fail
          go_roundw
          case rel => exact R.out
          case measure => simp [intOf]; omega
      · have hexit : (¬ i < n) ∨ (i < n ∧ ¬ i < 60) := by
          by_cases h : i < n
          · exact Or.inr ⟨h, fun c => hgo ⟨h, c⟩⟩
          · exact Or.inl h
        have HX := Lib.hid X
        have HD := Lib.hid d
        have HG := Lib.hid hg
        clear hgo X d hg hst
        rcases hexit with h | ⟨h, h2⟩
        all_goals (
          go_wp2_with fail
          refine (crash_dk W.heap.size col 0 p s none 0 0 [] _ HD.out HX.out.cols HX.out.size (IS.nil _) (fun h => absurd rfl h)).mono ?_
          rintro e w6 ⟨rfl, c6, x6, d6⟩
          have X6 := HX.out.trans (x6.mono (T := fun c => c ≠ 0) (fun c h => by unfold S3 at h; omega))
          have hrd := crash_read HD.out.2 HG.out
          have him := crash_image HD.out.2
          generalize crashF s [] = s6 at *
          have HIM := Lib.hid him
          clear x6 him
          go_wp2_with fail
          refine (read_dk c6 0 p s6 nO _ d6 (by decide)).mono ?_
          rw [hrd]
          simp only []
          rw [hla]
          rintro e w7 ⟨xo, xc, rfl, hx, k7⟩
          have X7 := X6.trans (Ext.quiet X6.cols k7)
          have d7 := d6.keep k7
          have HX7 := Lib.hid hx.bs
          clear X6 d6 k7 hx hrd
          go_wp2_with fail
          refine (image_dk c6 0 p s6 _ d7).mono ?_
          rintro e w8 ⟨io, ic, rfl, himg, k8⟩
          have X8 := Lib.hid (X7.trans (Ext.quiet X7.cols k8))
          have hAS := himg.as
          have hil := hAS.len
          have hil2 : (imageF s6).length ≤ 9223372036854775807 := by have h1 := hAS.le; have h2 := hAS.max; unfold maxLen at h2; omega
          have HAS := Lib.hid hAS
          have HB8 := Lib.hid (HX7.out.keep k8)
          have hlen0 : (imageF s6).length = (imageF s6).length := rfl
          generalize imageF s6 = L at *
          generalize hLn : L.length = ln at *
          have HLN := Lib.hid hLn
          clear X7 d7 k8 himg hAS hil hLn hlen0
          go_wp2_with fail
          go_loopw [74] (fun v wq => ∃ j : Nat, v = .int .i64 (j : Int) ∧ j ≤ ln ∧ Kp Noone w8 wq) (fun v _ => ln - (intOf v).toNat)
          case atStart => exact ⟨0, by rfl, Nat.zero_le _, Kp.refl _ _⟩
          case round =>
            obtain ⟨j, rfl, hj, kq⟩ := hrel
            by_cases hlt2 : j < ln
            · have hjl : j < L.length := by have := HLN.out; omega
              obtain ⟨b, off, bo, bm, bc, rfl, hbl, e0, e1, e2, hbs⟩ := HAS.out.get j hjl
              have z1 := kq.cell e1 id
              have z2 := kq.cell e2 id
              have hsf := HIM.out _ (List.getElem_mem hjl)
              have hbl2 := hbs.len
              have hwj : IntKind.i64.wrap ((j : Int) + 1) = (j : Int) + 1 := IntWalk.i64_in _ (by omega)
              rw [hsf, hbl2] at z2
              have HKQ := Lib.hid kq
              clear e0 e1 e2 hbs hsf hbl2 kq
              go_wp2_with fail
              go_region
              all_goals (
                go_wp2_with fail
                go_roundw
                case rel => exact ⟨j + 1, by rfl, by omega, HKQ.out.drew⟩
                case measure => simp [intOf]; omega)
            · have hbW := (HA.out.keep (HKW.out _ _ X8.out)).keep kq
              have hb8 := HB8.out.keep kq
              have HKQ := Lib.hid kq
              clear kq
              go_wp2_with fail
              refine (same_any _ _ _ _ _ _ a a _ hbW hb8 (by omega)).mono ?_
              rintro e w9 ⟨rfl, q, rfl⟩
              have he : (a == a) = true := beq_self_eq_true _
              have k9 := HKQ.out.drewN q
              go_wp2_with fail
              go_ret
              exact ⟨rfl, HKW.out _ _ (X8.out.trans (Ext.quiet X8.out.cols k9))⟩)

set_option maxRecDepth 100000 in
/-- The law. -/
theorem diskApart_core {H : Type} {enc : TypeId × Value → H} (W : World) (base : Nat) (v0 : Value) (d0 : DataW H) (p0 : List MemPlace) (v1 : Value) (d1 : DataW H) (p1 : List MemPlace)
    (h0 : DataW.Trod enc Try.prog W 0 (fun _ => true) true 22 v0 d0 p0) (h1 : DataW.Trod enc Try.prog W 0 (fun _ => true) true 50 v1 d1 p1)
    (g0 : Value.okWide Try.prog W .any base 22 v0) (g1 : Value.okWide Try.prog W .any base 50 v1) (hk : Rows.uptoBulkAll [d0, d1] ≤ 1048576) :
    Calls Try.prog 6 #[v0, v1] W fun e w' => e = .returned (.bool true) ∧ Kp Noone W w' := by
  obtain ⟨ao, na, ca, a, rfl, ha, hca⟩ := arg_bytes h0 g0
  obtain ⟨so, n, cap, ps, rfl, hs, hn⟩ := arg_opd h1 g1
  simp only [Rows.uptoBulkAll] at hk
  have := ha.le
  have hs2 : OS W so n cap ps 1048576 := ⟨hs.len, hs.le, hs.max, fun i h => by
    obtain ⟨h1, h2⟩ := hs.get i h
    exact ⟨h1.mono (by omega), h2⟩⟩
  exact diskApart_walk ao na ca a so n cap ps W ha hs2 (by omega) (by omega)

end Go.Proofs.Ytmmdojnjognccaa
