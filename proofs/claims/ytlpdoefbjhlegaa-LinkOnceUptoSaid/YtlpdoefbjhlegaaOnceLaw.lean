/-
  THE WALK of the law 'LinkOnce'.
-/
import Derived.Test.YtlpdoefbjhlegaaLinkOnce
import Derived.Test.YtlpdoefbjhlegaaLinkPush
import Derived.Test.YtlpdoefbjhlegaaLinkHead
import Derived.Test.YtlpdoefbjhlegaaReadInts
namespace Go.Proofs.Ytlpdoefbjhlegaa
open Go.RowKit

attribute [local irreducible] parse numL emitF inF sendF newLS moveF datFr

/-- Where all lies between two turns. -/
structure NetW (W : World) (pa pb : Nat) (col : Nat → Nat) (a b : LS) (Q : List (List UInt8)) (S : List Int) (L : List (List UInt8)) (so : Option Addr) (sn scap : Nat) (go : Option Addr) (gn gcap : Nat) (lo : Option Addr) (ln lcap : Nat) (wr : World) : Prop where
  la : Lk col 0 wr pa a
  lb : Lk col 5 wr pb b
  X : Ext W.heap.size (fun c => c ≠ 0) (fun _ => 0) W col wr
  sent : GotAt col 22 wr so sn scap Q
  got : GotAt col 16 wr go gn gcap (S.map (msgOf Q))
  late : FrsO col 28 wr lo ln lcap L
structure NetP (i : Nat) (Q : List (List UInt8)) (a b : LS) (S : List Int) (L : List (List UInt8)) : Prop where
  net : NetOk i Q a S
  has : Has Q S b
  backs : b.acks = []
  good : ∀ f ∈ L, Good Q S f
  qlen : Q.length ≤ i
  slen : S.length ≤ 64 * i
  llen : L.length ≤ 64 * i
structure NetR (W : World) (pa pb n : Nat) (sv gv lv kv iv : Value) (wr : World) : Prop where
  ex : ∃ (i kk : Nat) (col : Nat → Nat) (a b : LS) (Q : List (List UInt8)) (S : List Int) (L : List (List UInt8)) (so : Option Addr) (sn scap : Nat) (go : Option Addr) (gn gcap : Nat) (lo : Option Addr) (ln lcap : Nat),
    iv = .int .i64 (i : Int) ∧ i ≤ n ∧ i ≤ 60 ∧ kv = .int .i64 (kk : Int) ∧ kk ≤ 64 * i ∧ sv = .slice so sn scap ∧ gv = .slice go gn gcap ∧ lv = .slice lo ln lcap ∧
    NetW W pa pb col a b Q S L so sn scap go gn gcap lo ln lcap wr ∧ NetP i Q a b S L
/-- While frames are parted. -/
structure PassR (B : Nat) (col : Nat → Nat) (w : World) (Q : List (List UInt8)) (S : List Int) (m k0 l0 : Nat) (pv lv kv jv : Value) (wr : World) : Prop where
  ex : ∃ (j kk : Nat) (colj : Nat → Nat) (P L : List (List UInt8)) (po : Option Addr) (pn pcap : Nat) (lo : Option Addr) (ln lcap : Nat),
    jv = .int .i64 (j : Int) ∧ j ≤ m ∧ kv = .int .i64 (kk : Int) ∧ kk ≤ k0 + j ∧ pv = .slice po pn pcap ∧ lv = .slice lo ln lcap ∧ Ext B (fun d => d = 28 ∨ d = 30) col w colj wr ∧ FrsO colj 30 wr po pn pcap P ∧ FrsO colj 28 wr lo ln lcap L ∧
    (∀ f ∈ P, Good Q S f) ∧ (∀ f ∈ L, Good Q S f) ∧ P.length ≤ 2 * j ∧ L.length ≤ l0 + j

/-- Behind a sending. -/
structure SentW (W : World) (pa : Nat) (col : Nat → Nat) (w : World) (i : Nat) (Q : List (List UInt8)) (S : List Int) (b : LS) (L : List (List UInt8)) (so : Option Addr) (sn scap : Nat) (wr : World) : Prop where
  ex : ∃ (c8 : Nat → Nat) (a8 : LS) (Q8 : List (List UInt8)), Lk c8 0 wr pa a8 ∧ Ext W.heap.size (fun d => S5 0 d ∨ d = 22 ∨ d = 23) col w c8 wr ∧ GotAt c8 22 wr so sn scap Q8 ∧ NetOk i Q8 a8 S ∧ Has Q8 S b ∧ S.map (msgOf Q8) = S.map (msgOf Q) ∧ (∀ f ∈ L, Good Q8 S f) ∧ Q8.length ≤ i + 1
theorem push_pass {B : Nat} {col colj : Nat → Nat} {w wr w3 : World} {po po' : Option Addr} {pn pcap pcap' m : Nat} {P xs : List (List UInt8)} {lo : Option Addr} {ln lcap : Nat} {L : List (List UInt8)} {ys : Hs} {o : Obj} (E : Ext B (fun d => d = 28 ∨ d = 30) col w colj wr) (hB : B ≤ wr.heap.size)
    (fp : FrsO colj 30 wr po pn pcap P) (fl : FrsO colj 28 wr lo ln lcap L) (hs : Hs) (hhs : hs.length = pn) (hd : ∀ j (h1 : j < hs.length) (h2 : j < P.length), DataAt (Free colj) wr hs[j] P[j]) (hm : ys.length = m) (hxm : xs.length = m) (hy : ∀ j (h1 : j < ys.length) (h2 : j < xs.length), DataAt (Free colj) wr ys[j] xs[j])
    (ho : Own (Ex (Col colj 30) (wr.alloc o) w3) w3 31 1 po' (pn + m) pcap' (headsL hs ++ headsL ys)) (k3 : Kp (Col colj 30) (wr.alloc o) w3) :
    ∃ colj', Ext B (fun d => d = 28 ∨ d = 30) col w colj' w3 ∧ FrsO colj' 30 w3 po' (pn + m) pcap' (P ++ xs) ∧ FrsO colj' 28 w3 lo ln lcap L := by
  obtain ⟨c, h1, h2⟩ := fp.push E.cols hB (by omega) hs hhs hd hm hxm hy ho k3
  exact ⟨c, E.trans (h2.mono (fun d h => Or.inr h)), h1, fl.ext h2 (by omega) (by omega)⟩
theorem push_late {B : Nat} {col colj : Nat → Nat} {w wr w3 : World} {po lo' : Option Addr} {pn pcap lcap' m : Nat} {P xs : List (List UInt8)} {lo : Option Addr} {ln lcap : Nat} {L : List (List UInt8)} {ys : Hs} {o : Obj} (E : Ext B (fun d => d = 28 ∨ d = 30) col w colj wr) (hB : B ≤ wr.heap.size)
    (fp : FrsO colj 30 wr po pn pcap P) (fl : FrsO colj 28 wr lo ln lcap L) (hs : Hs) (hhs : hs.length = ln) (hd : ∀ j (h1 : j < hs.length) (h2 : j < L.length), DataAt (Free colj) wr hs[j] L[j]) (hm : ys.length = m) (hxm : xs.length = m) (hy : ∀ j (h1 : j < ys.length) (h2 : j < xs.length), DataAt (Free colj) wr ys[j] xs[j])
    (ho : Own (Ex (Col colj 28) (wr.alloc o) w3) w3 31 1 lo' (ln + m) lcap' (headsL hs ++ headsL ys)) (k3 : Kp (Col colj 28) (wr.alloc o) w3) :
    ∃ colj', Ext B (fun d => d = 28 ∨ d = 30) col w colj' w3 ∧ FrsO colj' 30 w3 po pn pcap P ∧ FrsO colj' 28 w3 lo' (ln + m) lcap' (L ++ xs) := by
  obtain ⟨c, h1, h2⟩ := fl.push E.cols hB (by omega) hs hhs hd hm hxm hy ho k3
  exact ⟨c, E.trans (h2.mono (fun d h => Or.inl h)), fp.ext h2 (by omega) (by omega), h1⟩
/-- The turns of the end. -/
structure DrainR (W : World) (pa pb : Nat) (Q L : List (List UInt8)) (so : Option Addr) (sn scap : Nat) (lo : Option Addr) (ln lcap : Nat) (gv nv : Value) (wr : World) : Prop where
  ex : ∃ (t m : Nat) (col : Nat → Nat) (a b : LS) (S : List Int) (go : Option Addr) (gn gcap : Nat), nv = .int .i64 (m : Int) ∧ m = 100 + 3 * t ∧ t ≤ 67 ∧ gv = .slice go gn gcap ∧ NetW W pa pb col a b Q S L so sn scap go gn gcap lo ln lcap wr ∧
    Stage t Q a b S ∧ (∀ f ∈ L, Good Q S f) ∧ S.length ≤ 8000 + 4000 * t
theorem BSS.short {w : World} {ao : Option Addr} {n cap : Nat} {ls : List (List UInt8)} (h : BSS w ao n cap ls) : ∀ x ∈ ls, x.length ≤ 9223372036854775807 := by
  intro x hx
  obtain ⟨j, hj, rfl⟩ := List.getElem_of_mem hx
  obtain ⟨b, off, bo, m, c, hl, -, -, -, hb⟩ := h.at (k := j) (by have := h.len; omega)
  have h1 := hb.len
  have h2 := hb.le
  have h3 := hb.max
  unfold maxLen at h3
  omega
theorem netP_new : NetP 0 [] (newLS 5 3) (newLS 2 3) [] [] :=
  ⟨netOk_new, has_new, by unfold newLS; rfl, by simp, by simp, by simp, by simp⟩

set_option maxHeartbeats 4000000 in
set_option maxRecDepth 100000 in
theorem linkOnce_walk (ao : Option Addr) (n cap : Nat) (ls : List (List UInt8)) (fo : Option Addr) (nf fcap : Nat) (fs : List Int) (W : World) (hb : BSS W ao n cap ls) (hf : IS W fo nf fcap fs) (hn : n ≤ 1048576) (hT : ls.flatten.length ≤ 1048576) (_hnf : nf ≤ 1048576) :
    Calls Try.prog 4 #[.slice ao n cap, .slice fo nf fcap] W fun e w' => e = .returned (.bool true) ∧ Kp Noone W w' := by
  obtain ⟨i0, hi, hz0, hz1, hz2⟩ := info_parts info_bytesL
  obtain ⟨j0, hj, hj0, hj1, hj2⟩ := info_parts info_u8
  have HB := Lib.hid hb
  have HF := Lib.hid hf
  clear hb hf
  go_enter Try.func4, Try.ntmps4
  go_wp2_with fail
  refine (head_any _).mono ?_
  rintro e w0 ⟨rfl, k0⟩
  go_wp2_with fail
  have X0 := Ext.quiet (S := fun c => c ≠ 0) (Cols.zero W.heap.size W) k0
  refine (new_lk W.heap.size _ 0 5 3 _ X0.cols X0.size).mono ?_
  rintro e w1 ⟨pa, c1, rfl, x1, a1⟩
  have X1 := X0.trans (x1.mono (T := fun c => c ≠ 0) (fun c h => by unfold S5 at h; omega))
  clear x1 X0 k0
  go_wp2_with fail
  refine (new_lk W.heap.size c1 5 2 3 _ X1.cols X1.size).mono ?_
  rintro e w2 ⟨pb, c2, rfl, x2, b2⟩
  have a2 := a1.ext x2 (fun c h d => by unfold S5 at h d; omega)
  have X2 := X1.trans (x2.mono (fun c h => by unfold S5 at h; omega))
  clear x2 X1 a1
  have k3 := (((Kp.refl Noone w2).alloc (.cells #[] 31)).alloc (.cells #[] 31)).alloc (.cells #[] 31)
  have N3 := fun (x y z : Option Addr) => NetW.mk (Q := []) (S := []) (L := []) (a2.keep k3) (b2.keep k3) (X2.trans (Ext.quiet X2.cols k3)) (GotAt.nil c2 22 _ x) (GotAt.nil c2 16 _ y) (FrsO.nil c2 28 _ z)
  have R3 := fun (x y z : Option Addr) => NetR.mk (n := n) (sv := .slice x 0 0) (gv := .slice y 0 0) (lv := .slice z 0 0) (kv := .int .i64 0) (iv := .int .i64 0) ⟨0, 0, c2, _, _, [], [], [], x, 0, 0, y, 0, 0, z, 0, 0, by rfl, by omega, by omega, by rfl, by omega, rfl, rfl, rfl, N3 x y z, netP_new⟩
  have HR3 := Lib.hid R3
  clear k3 N3 R3 a2 b2 X2
  go_wp2_with fail
  go_loopw [7, 8, 9, 10, 11] (fun sv gv lv kv iv wr => NetR W pa pb n sv gv lv kv iv wr) (fun _ _ _ _ v _ => n - (intOf v).toNat)
  case atStart => exact HR3.out _ _ _
  case round =>
    obtain ⟨i, kk, col, a, bb, Q, S, L, so, sn, scap, go, gn, gcap, lo, ln, lcap, rfl, hin, hi60, rfl, hkk, rfl, rfl, rfl, hw, hp⟩ := hrel.ex
    clear HR3
    by_cases hgo : i < n ∧ i < 60
    · obtain ⟨hlt, h60⟩ := hgo
      obtain ⟨b, off, xo, xm, xc, hl, rfl, hbl, hcellW, hbs⟩ := HB.out.at hlt
      have X := hw.X
      have kr : Kp Noone W wr := X.kp.mono (fun j _ c => absurd rfl c)
      have hcell := kr.cell hcellW id
      have hxm : xm ≤ 1048576 := by have h1 := hbs.len; have h2 := getElem_le_flatten ls i hl; omega
      have hwu : IntKind.u8.wrap (i : Int) = (i : Int) := by simp [IntKind.wrap, IntKind.bits, IntKind.signed]; omega
      have hwk : IntKind.i64.wrap ((i : Int) + 1) = (i : Int) + 1 := IntWalk.i64_in _ (by omega)
      have kA : Kp Noone wr (wr.alloc (.cells #[.int .u8 (i : Int), .int .u8 7] 5)) := (Kp.refl _ _).alloc _
      have hrow := ((hbs.keep kr).keep kA).row
      have hln : (bv ls[i]).length = xm * 1 := by rw [length_bv, hbs.len, Nat.mul_one]
      have hod : Own (fun j => j = wr.heap.size) (wr.alloc (.cells #[.int .u8 (i : Int), .int .u8 7] 5)) 5 1 (some ⟨wr.heap.size, 0, none⟩) 2 2 [.int .u8 (i : Int), .int .u8 7] :=
        Own.fresh rfl (heap_alloc_new wr (.cells #[.int .u8 (i : Int), .int .u8 7] 5)) rfl (by simp [maxLen])
      have hcA := kA.cell hcell id
      have HL := Lib.hid hbs.len
      have hnew : ∀ j, wr.heap.size ≤ j → col j = 0 := fun j hj => Classical.byContradiction fun d => by have := X.cols j d; omega
      have sA := kA.size
      have HWR := Lib.hid hw
      have HPR := Lib.hid hp
      have HKR := Lib.hid kr
      clear hcellW hbs hw hp kr
      go_wp2_with (at_builtin; refine wpList_append_gen _ rfl (.tmp 39) (.tmp 43) 31 rfl 5 j0 (.int .u8 0) 1 1 Try.underlying31 hj hj0 hj1 hj2 rfl (some ⟨wr.heap.size, 0, none⟩) 2 2 rfl xo xm xc rfl _ _ hod (bv ls[i]) hln hrow (bv_one _) (by omega) (by unfold maxLen; omega) ?_)
      intro ao' cap' w5 ho k5
      have k05 : Kp Noone wr w5 := kA.fin k5 (fun j hj => Or.inr (by subst hj; exact Nat.le_refl _))
      have hbvD : [.int .u8 (i : Int), .int .u8 7] ++ bv ls[i] = bv ([UInt8.ofNat i, 7] ++ ls[i]) := by
        have h1 : (UInt8.ofNat i).toNat = i := by simp; omega
        simp [bv, U8, h1]
      have ho : Own (Ex (fun j => j = wr.heap.size) (wr.alloc (.cells #[.int .u8 (i : Int), .int .u8 7] 5)) w5) w5 5 1 ao' (2 + xm) cap' (bv ([UInt8.ofNat i, 7] ++ ls[i])) := by rw [← hbvD]; exact ho
      have hdo : Own (fun j => wr.heap.size ≤ j ∧ col j = 0) w5 5 1 ao' (2 + xm) cap' (bv ([UInt8.ofNat i, 7] ++ ls[i])) := ho.mono (fun j hj d => by
        have : wr.heap.size ≤ j := by rcases d with d | d <;> omega
        exact ⟨this, hnew j this⟩)
      have hDl : ([UInt8.ofNat i, 7] ++ ls[i]).length = 2 + xm := by simp [HL.out]; omega
      generalize [UInt8.ofNat i, 7] ++ ls[i] = D at *
      have HDO := Lib.hid hdo
      have a5 := HWR.out.la.keep k05
      have X5 := Ext.quiet (S := fun d => S5 0 d ∨ d = 22 ∨ d = 23) X.cols k05
      have g5 := HWR.out.sent.keep k05
      have z0 := X.size
      clear hod hrow hln hcA hcell ho k5 hbvD hdo kA sA hnew
      go_wp2_with fail
      refine (copy_exact ao' (2 + xm) cap' D w5 HDO.out.bs (by omega)).mono ?_
      rintro e w6 ⟨rfl, hw6⟩
      obtain ⟨hb6, k6⟩ := copied2 hw6 hDl (by unfold maxLen; omega)
      have hd6 := HDO.out.keep k6
      have a6 := a5.keep k6
      have X6 := X5.trans (Ext.quiet X5.cols k6)
      have g6 := g5.keep k6
      have z6 := X6.size
      have hnxt : a.next < 1048576 := by have h1 := HPR.out.net.next; have h2 := HPR.out.qlen; omega
      have hBz : W.heap.size ≤ w6.heap.size := by omega
      clear hw6 HDO a5 X5 g5 k6 k05
      go_wp2_with fail
      refine (send_lk W.heap.size col 0 pa a _ _ _ D w6 a6 X6.cols hBz hb6 hnxt).mono ?_
      rintro e w7 ⟨c7, rfl, x7, a7⟩
      have X7 := X6.trans (x7.mono (fun c h => Or.inl h))
      have g7 := g6.ext X6.cols (by omega) x7 (by unfold S5; omega) (by unfold S5; omega)
      have hd7 : Own (fun j => wr.heap.size ≤ j ∧ c7 j = 0) w7 5 1 ao' (2 + xm) cap' (bv D) :=
        (hd6.mono (G := fun j => wr.heap.size ≤ j ∧ c7 j = 0) (fun j hj d => ⟨d.1, (x7.old j hj).trans d.2⟩)).kp x7.kp (fun j d q => by
          by_cases hj : j < w6.heap.size
          · rw [x7.old j hj] at d; rw [d.2] at q; unfold S5 at q; omega
          · have : col j = 0 := Classical.byContradiction fun y => by have := X6.cols j y; omega
            rw [this] at q; unfold S5 at q; omega)
      have hz7 : wr.heap.size ≤ w7.heap.size := X7.size
      have hsend := HPR.out.net.send D (by have := HPR.out.qlen; omega)
      clear x7 a6 X6 g6 hd6 hb6 z6
      have hwn : sn ≤ 1000 := by
        have h1 := HWR.out.sent.1
        have h2 := HPR.out.qlen
        omega
      go_upto_if 50 with fail
      go_cut [7] from 27 to 113 (fun v wx => ∃ so' sn' scap', v = .slice so' sn' scap' ∧ SentW W pa col wr i Q S bb L so' sn' scap' wx)
      case first =>
        rcases hsend with ⟨her, hnet⟩ | ⟨her, hsame⟩
        · have e0 : ((((sendF a D).2 : Nat) : Int) == 0) = true := by rw [her]; rfl
          clear her
          obtain ⟨hs, hhs, hown, hdat⟩ := g7.parts
          have kal : Kp Noone w7 (w7.alloc (.cells #[.slice ao' (2 + xm) cap'] 31)) := (Kp.refl _ _).alloc _
          go_wp2_with (at_builtin; refine wpList_append_gen _ rfl (.tmp 51) (.tmp 53) 39 rfl 31 i0 (.slice none 0 0) 1 24 Try.underlying39 hi hz0 hz1 hz2 rfl so sn scap rfl (some ⟨w7.heap.size, 0, none⟩) 1 1 rfl _ _ (hown.keep kal) [.slice ao' (2 + xm) cap'] rfl (Row.ofHeap (heap_alloc_new w7 _)) (by intro u hu; simp at hu; subst hu; rfl) (by omega) (by unfold maxLen; omega) ?_)
          intro so' scap' w8 ho8 k8
          rw [← hDl] at ho8 hd7 k8
          obtain ⟨c8, g8, P8⟩ := GotAt.push (z := wr.heap.size) g7 X7.cols (Nat.le_trans z0 hz7) z0 hz7 (by omega) hd7 hs hhs hdat ho8 k8
          have a8 := P8.lk a7 (fun d h => by unfold S5 at h; omega)
          have X8 := P8.extS (by omega) (by omega) (by omega) (Nat.le_refl _) X7
          have hq := HPR.out.qlen
          have R8 := Lib.hid (SentW.mk (b := bb) (L := L) (Q := Q) ⟨c8, _, Q ++ [D], a8, X8, g8, hnet, HPR.out.has.snoc D, map_msgOf_snoc D HPR.out.has.rng, fun f hf => (HPR.out.good f hf).snoc D, by simp; omega⟩)
          clear g8 P8 a8 X8 ho8 k8 kal hown hdat g7 a7 X7 hd7 hnet
          go_wp2_with fail
          go_meet
          case rel => exact ⟨so', sn + 1, scap', rfl, R8.out⟩
        · have hq := HPR.out.qlen
          rw [hsame] at a7
          have R8 := Lib.hid (SentW.mk (b := bb) (L := L) (Q := Q) ⟨c7, a, Q, a7, X7, g7, HPR.out.net, HPR.out.has, rfl, HPR.out.good, by omega⟩)
          clear g7 a7 X7 hd7 hsame
          rcases her with her | her
          · have e0 : ((((sendF a D).2 : Nat) : Int) == 0) = false := by rw [her]; rfl
            have e1 : ((((sendF a D).2 : Nat) : Int) != 64) = true := by rw [her]; rfl
            have e2 : ((((sendF a D).2 : Nat) : Int) != 12) = false := by rw [her]; rfl
            clear her
            go_wp2_with fail
            go_meet
            case rel => exact ⟨so, sn, scap, rfl, R8.out⟩
          · have e0 : ((((sendF a D).2 : Nat) : Int) == 0) = false := by rw [her]; rfl
            have e1 : ((((sendF a D).2 : Nat) : Int) != 64) = false := by rw [her]; rfl
            clear her
            go_wp2_with fail
            go_meet
            case rel => exact ⟨so, sn, scap, rfl, R8.out⟩
      case rest =>
        obtain ⟨so', sn', scap', rfl, hsw⟩ := hcut
        clear g7 a7 X7 hd7 hsend hwn hDl
        obtain ⟨c8, a8, Q8, la8, X8, g8, hnet8, hhas8, hmap8, hgood8, hq8⟩ := hsw.ex
        have lb8 := HWR.out.lb.ext X8 (fun c h d => by unfold S5 at h d; omega)
        have got8 := HWR.out.got.ext X.cols (by omega) X8 (by unfold S5; omega) (by unfold S5; omega)
        have late8 := HWR.out.late.ext X8 (by unfold S5; omega) (by unfold S5; omega)
        have XX8 := X.trans (X8.mono (fun c h => by unfold S5 at h; omega))
        rw [← hmap8] at got8
        have hk8 := Lib.hid hwk
        clear X8 hsw
        go_wp2_with fail
        generalize hwc9 : wc.alloc (.cells #[] 31) = wd at *
        have kwd : Kp Noone wc wd := by rw [← hwc9]; exact (Kp.refl _ _).alloc _
        obtain ⟨hnet9, hgd9⟩ := hnet8.emit (by omega) i (Nat.le_refl _) (by omega)
        refine (out_lk W.heap.size c8 0 pa a8 (i : Int) _ (la8.keep kwd) (XX8.cols.keep kwd.size) (Nat.le_trans XX8.size kwd.size) (by omega)).mono ?_
        rintro e w9 ⟨yo, yc, rfl, hfr9, x9, la9⟩
        have lb9 := (lb8.keep kwd).ext x9 (fun c h d => by unfold S5 at h d; omega)
        have got9 := (got8.keep kwd).ext (XX8.cols.keep kwd.size) (by omega) x9 (by unfold S5; omega) (by unfold S5; omega)
        have g9 := (g8.keep kwd).ext (XX8.cols.keep kwd.size) (by omega) x9 (by unfold S5; omega) (by unfold S5; omega)
        have late9 := (late8.keep kwd).ext x9 (by unfold S5; omega) (by unfold S5; omega)
        have XX9 := (XX8.trans (Ext.quiet XX8.cols kwd)).trans (x9.mono (fun c h => by unfold S5 at h; omega))
        have hm32 : (emitF a8 (i : Int)).2.length ≤ 32 := by
          have h1 := emitF_len (s := a8) (i : Int)
          have h2 := la8.2.outL
          have h3 : a8.acks.length = 0 := by rw [hnet8.acks]; rfl
          omega
        clear x9 lb8 got8 g8 late8 XX8 la8 kwd hwc9
        have hll := HPR.out.llen
        generalize hF9 : (emitF a8 (i : Int)).2 = F9 at *
        generalize (emitF a8 (i : Int)).1 = a9 at *
        have HF9 := Lib.hid hF9
        clear hF9 hnet8
        have hBz9 := XX9.size
        have Kz9 : Kp Noone W w9 := XX9.kp.mono (fun j _ c => absurd rfl c)
        have P0 := fun (x : Option Addr) => PassR.mk (B := W.heap.size) (col := c8) (w := w9) (Q := Q8) (S := S) (m := F9.length) (k0 := kk) (l0 := L.length) (pv := .slice x 0 0) (lv := .slice lo ln lcap) (kv := .int .i64 (kk : Int)) (jv := .int .i64 0) ⟨0, kk, c8, [], L, x, 0, 0, lo, ln, lcap, by rfl, Nat.zero_le _, rfl, by omega, rfl, rfl, Ext.quiet XX9.cols (Kp.refl _ _), FrsO.nil _ _ _ _, late9, by simp, hgood8, by simp, by omega⟩
        have HP0 := Lib.hid P0
        have HGD := Lib.hid hgd9
        have HQ9 : Hid (NetOk i Q8 a9 S) := Lib.hid hnet9
        have HFR := Lib.hid hfr9
        clear P0 late9 hgd9 hnet9 hfr9
        go_wp2_with fail
        go_loopw [14, 9, 10, 66] (fun pv lv kv jv wr => PassR W.heap.size c8 w9 Q8 S F9.length kk L.length pv lv kv jv wr) (fun _ _ _ v _ => F9.length - (intOf v).toNat)
        case atStart => exact HP0.out _
        case round =>
          obtain ⟨j, kk2, colj, P, L2, po, pn, pcap, lo2, ln2, lcap2, rfl, hjm, rfl, hkk2, rfl, rfl, E, fp, fl, gp, gl, pl, ll⟩ := hrel.ex
          clear HP0
          by_cases hlt2 : j < F9.length
          · obtain ⟨yb, yoff, xo2, xm2, xc2, hl2, rfl, ffa⟩ := HFR.out.get hlt2
            have ff := ffa.ext E (by omega)
            have hgf := HGD.out _ (List.getElem_mem hl2)
            have hc2 := ff.cell
            have hwj : IntKind.i64.wrap ((j : Int) + 1) = (j : Int) + 1 := IntWalk.i64_in _ (by omega)
            have hwkk : IntKind.i64.wrap ((kk2 : Int) + 1) = (kk2 : Int) + 1 := IntWalk.i64_in _ (by omega)
            generalize F9[j] = f at *
            have Kr : Kp Noone W wr := by
              have h1 := (XX9.trans (E.mono (T := fun d => d ≠ 0) (fun c h => by omega))).kp
              exact h1.mono (fun j _ c => absurd rfl c)
            have hBr : W.heap.size ≤ wr.heap.size := Kr.size
            have FFD := Lib.hid ff.data
            have HGF := Lib.hid hgf
            clear ffa ff hgf
            have pnl := fp.1
            have lnl := fl.1
            by_cases hkf : kk2 < nf
            · obtain ⟨fb, foff, hlf, rfl, hfb, hfcW⟩ := HF.out.at hkf
              have hfc := Kr.cell hfcW id
              generalize fs[kk2] = F at *
              by_cases f1 : F = 1
              · subst f1
                obtain ⟨hs, hhs, hown, hdat⟩ := fp.2
                have kal : Kp Noone wr (wr.alloc (.cells #[.slice xo2 xm2 xc2] 31)) := (Kp.refl _ _).alloc _
                go_wp2_with (at_builtin; refine wpList_append_gen _ rfl (.tmp 83) (.tmp 85) 39 rfl 31 i0 (.slice none 0 0) 1 24 Try.underlying39 hi hz0 hz1 hz2 rfl po pn pcap rfl (some ⟨wr.heap.size, 0, none⟩) 1 1 rfl _ _ (hown.keep kal) [.slice xo2 xm2 xc2] rfl (Row.ofHeap (heap_alloc_new wr _)) (by intro u hu; simp at hu; subst hu; rfl) (by omega) (by unfold maxLen; omega) ?_)
                intro no ncap w3 ho k3
                obtain ⟨cj, E3, fp3, fl3⟩ := push_pass (ys := [(xo2, xm2, xc2)]) (xs := [f]) (m := 1) E hBr fp fl hs hhs hdat rfl rfl (fun a h1 h2 => by
                  have ha : a = 0 := by simp at h1; omega
                  subst ha
                  exact FFD.out) ho k3
                have R := Lib.hid (PassR.mk (Q := Q8) (S := S) (m := F9.length) (k0 := kk) (l0 := L.length) (kv := .int .i64 ((kk2 + 1 : Nat) : Int)) (jv := .int .i64 ((j + 1 : Nat) : Int)) ⟨j + 1, kk2 + 1, cj, P ++ [f], L2, no, pn + 1, ncap, lo2, ln2, lcap2, by rfl, by omega, by rfl, by omega, rfl, rfl, E3, fp3, fl3, fun g hg => (List.mem_append.1 hg).elim (gp g) (fun hg => by simp at hg; subst hg; exact HGF.out), gl, by simp; omega, by omega⟩)
                clear E3 fp3 fl3 ho k3 kal hown hdat fp fl E gp gl
                go_wp2_with fail
                go_roundw
                case rel => exact R.out
                case measure => simp [intOf]; omega
              · by_cases f2 : F = 2
                · subst f2
                  obtain ⟨hs, hhs, hown, hdat⟩ := fp.2
                  have kal : Kp Noone wr (wr.alloc (.cells #[.slice xo2 xm2 xc2, .slice xo2 xm2 xc2] 31)) := (Kp.refl _ _).alloc _
                  go_wp2_with (at_builtin; refine wpList_append_gen _ rfl (.tmp 89) (.tmp 92) 39 rfl 31 i0 (.slice none 0 0) 1 24 Try.underlying39 hi hz0 hz1 hz2 rfl po pn pcap rfl (some ⟨wr.heap.size, 0, none⟩) 2 2 rfl _ _ (hown.keep kal) [.slice xo2 xm2 xc2, .slice xo2 xm2 xc2] rfl (Row.ofHeap (heap_alloc_new wr _)) (by intro u hu; simp at hu; subst hu; rfl) (by omega) (by unfold maxLen; omega) ?_)
                  intro no ncap w3 ho k3
                  obtain ⟨cj, E3, fp3, fl3⟩ := push_pass (ys := [(xo2, xm2, xc2), (xo2, xm2, xc2)]) (xs := [f, f]) (m := 2) E hBr fp fl hs hhs hdat rfl rfl (fun a h1 h2 => by
                    have ha : a = 0 ∨ a = 1 := by simp at h1; omega
                    rcases ha with rfl | rfl <;> exact FFD.out) ho k3
                  have R := Lib.hid (PassR.mk (Q := Q8) (S := S) (m := F9.length) (k0 := kk) (l0 := L.length) (kv := .int .i64 ((kk2 + 1 : Nat) : Int)) (jv := .int .i64 ((j + 1 : Nat) : Int)) ⟨j + 1, kk2 + 1, cj, P ++ [f, f], L2, no, pn + 2, ncap, lo2, ln2, lcap2, by rfl, by omega, by rfl, by omega, rfl, rfl, E3, fp3, fl3, fun g hg => (List.mem_append.1 hg).elim (gp g) (fun hg => by simp at hg; subst hg; exact HGF.out), gl, by simp; omega, by omega⟩)
                  clear E3 fp3 fl3 ho k3 kal hown hdat fp fl E gp gl
                  go_wp2_with fail
                  go_roundw
                  case rel => exact R.out
                  case measure => simp [intOf]; omega
                · by_cases f3 : F = 3
                  · subst f3
                    obtain ⟨hs, hhs, hown, hdat⟩ := fl.2
                    have kal : Kp Noone wr (wr.alloc (.cells #[.slice xo2 xm2 xc2] 31)) := (Kp.refl _ _).alloc _
                    go_wp2_with (at_builtin; refine wpList_append_gen _ rfl (.tmp 96) (.tmp 98) 39 rfl 31 i0 (.slice none 0 0) 1 24 Try.underlying39 hi hz0 hz1 hz2 rfl lo2 ln2 lcap2 rfl (some ⟨wr.heap.size, 0, none⟩) 1 1 rfl _ _ (hown.keep kal) [.slice xo2 xm2 xc2] rfl (Row.ofHeap (heap_alloc_new wr _)) (by intro u hu; simp at hu; subst hu; rfl) (by omega) (by unfold maxLen; omega) ?_)
                    intro no ncap w3 ho k3
                    obtain ⟨cj, E3, fp3, fl3⟩ := push_late (ys := [(xo2, xm2, xc2)]) (xs := [f]) (m := 1) E hBr fp fl hs hhs hdat rfl rfl (fun a h1 h2 => by
                      have ha : a = 0 := by simp at h1; omega
                      subst ha
                      exact FFD.out) ho k3
                    have R := Lib.hid (PassR.mk (Q := Q8) (S := S) (m := F9.length) (k0 := kk) (l0 := L.length) (kv := .int .i64 ((kk2 + 1 : Nat) : Int)) (jv := .int .i64 ((j + 1 : Nat) : Int)) ⟨j + 1, kk2 + 1, cj, P, L2 ++ [f], po, pn, pcap, no, ln2 + 1, ncap, by rfl, by omega, by rfl, by omega, rfl, rfl, E3, fp3, fl3, gp, fun g hg => (List.mem_append.1 hg).elim (gl g) (fun hg => by simp at hg; subst hg; exact HGF.out), by omega, by simp; omega⟩)
                    clear E3 fp3 fl3 ho k3 kal hown hdat fp fl E gp gl
                    go_wp2_with fail
                    go_roundw
                    case rel => exact R.out
                    case measure => simp [intOf]; omega
                  · have e1 : (F == 1) = false := by simpa using f1
                    have e2 : (F == 2) = false := by simpa using f2
                    have e3 : (F == 3) = false := by simpa using f3
                    have R := Lib.hid (PassR.mk (Q := Q8) (S := S) (m := F9.length) (k0 := kk) (l0 := L.length) (kv := .int .i64 ((kk2 + 1 : Nat) : Int)) (jv := .int .i64 ((j + 1 : Nat) : Int)) ⟨j + 1, kk2 + 1, colj, P, L2, po, pn, pcap, lo2, ln2, lcap2, by rfl, by omega, by rfl, by omega, rfl, rfl, E, fp, fl, gp, gl, by omega, by omega⟩)
                    clear f1 f2 f3 fp fl E gp gl
                    go_wp2_with fail
                    go_roundw
                    case rel => exact R.out
                    case measure => simp [intOf]; omega
            · have hkf2 := hkf
              obtain ⟨hs, hhs, hown, hdat⟩ := fp.2
              have kal : Kp Noone wr (wr.alloc (.cells #[.slice xo2 xm2 xc2] 31)) := (Kp.refl _ _).alloc _
              go_wp2_with (at_builtin; refine wpList_append_gen _ rfl (.tmp 83) (.tmp 85) 39 rfl 31 i0 (.slice none 0 0) 1 24 Try.underlying39 hi hz0 hz1 hz2 rfl po pn pcap rfl (some ⟨wr.heap.size, 0, none⟩) 1 1 rfl _ _ (hown.keep kal) [.slice xo2 xm2 xc2] rfl (Row.ofHeap (heap_alloc_new wr _)) (by intro u hu; simp at hu; subst hu; rfl) (by omega) (by unfold maxLen; omega) ?_)
              intro no ncap w3 ho k3
              obtain ⟨cj, E3, fp3, fl3⟩ := push_pass (ys := [(xo2, xm2, xc2)]) (xs := [f]) (m := 1) E hBr fp fl hs hhs hdat rfl rfl (fun a h1 h2 => by
                have ha : a = 0 := by simp at h1; omega
                subst ha
                exact FFD.out) ho k3
              have R := Lib.hid (PassR.mk (Q := Q8) (S := S) (m := F9.length) (k0 := kk) (l0 := L.length) (kv := .int .i64 ((kk2 + 1 : Nat) : Int)) (jv := .int .i64 ((j + 1 : Nat) : Int)) ⟨j + 1, kk2 + 1, cj, P ++ [f], L2, no, pn + 1, ncap, lo2, ln2, lcap2, by rfl, by omega, by rfl, by omega, rfl, rfl, E3, fp3, fl3, fun g hg => (List.mem_append.1 hg).elim (gp g) (fun hg => by simp at hg; subst hg; exact HGF.out), gl, by simp; omega, by omega⟩)
              clear E3 fp3 fl3 ho k3 kal hown hdat fp fl E gp gl
              go_wp2_with fail
              go_roundw
              case rel => exact R.out
              case measure => simp [intOf]; omega
          · obtain rfl : j = F9.length := by omega
            obtain ⟨S', t1, t2, t3, t4, t5, t6⟩ := net_turn HQ9.out hhas8 HPR.out.backs P gp (i : Int)
            have la10 := la9.ext E (fun c h d => by unfold S5 at h; omega)
            have lb10 := lb9.ext E (fun c h d => by unfold S5 at h; omega)
            have got10 := got9.ext XX9.cols (by omega) E (by omega) (by omega)
            have g10 := g9.ext XX9.cols (by omega) E (by omega) (by omega)
            have X10 := XX9.trans (E.mono (T := fun d => d ≠ 0) (fun c h => by omega))
            have hsl := HPR.out.slen
            have hmvl := moveF_len P bb
            have hS1 := congrArg List.length t1
            rw [List.length_append, List.length_map, List.length_map] at hS1
            have NP := Lib.hid (NetP.mk (i := i + 1) (L := L2) (t6.later (by omega)) t3 t4 (fun f hf => (gl f hf).mono t2) hq8 (by omega) (by omega))
            have NP5 := Lib.hid (NetP.mk (i := i + 1) (L := L2) (t5.later (by omega)) t3 t4 (fun f hf => (gl f hf).mono t2) hq8 (by omega) (by omega))
            have I10 := Lib.hid lb10.2
            clear la9 lb9 got9 g9 XX9 E t2 t3 t4 t5 t6 Kz9 hBz9
            go_wp2_with fail
            refine (move_of W.heap.size colj 5 16 pb bb (fun k => colj k = 30 ∨ colj k = 0) po pn pcap P go gn gcap (S.map (msgOf Q8)) wr lb10 X10.cols X10.size fp.frsP (fun k hk d => by unfold S5 at d; omega) (fun f hf => (gp f hf).short) got10 (by omega) (by rw [List.length_map]; omega)).mono ?_
            rw [t1]
            rintro e w11 ⟨go', gcap', c11, rfl, x11, lb11, got11⟩
            have la11 := la10.ext x11 (fun c h d => by unfold S5 at h d; omega)
            have g11 := g10.ext X10.cols (by omega) x11 (by unfold S5; omega) (by unfold S5; omega)
            have late11 := fl.ext x11 (by unfold S5; omega) (by unfold S5; omega)
            have X11 := X10.trans (x11.mono (fun c h => by unfold S5 at h; omega))
            clear x11 la10 lb10 got10 g10 fl fp X10 gp gl t1
            go_wp2_with fail
            refine (out_lk W.heap.size c11 5 pb (moveF bb P).1 (i : Int) _ lb11 X11.cols X11.size (by omega)).mono ?_
            rintro e w12 ⟨zo, zcap, rfl, hfr12, x12, lb12⟩
            have la12 := la11.ext x12 (fun c h d => by unfold S5 at h d; omega)
            have g12 := g11.ext X11.cols (by omega) x12 (by unfold S5; omega) (by unfold S5; omega)
            have got12 := got11.ext X11.cols (by omega) x12 (by unfold S5; omega) (by unfold S5; omega)
            have late12 := late11.ext x12 (by unfold S5; omega) (by unfold S5; omega)
            have X12 := X11.trans (x12.mono (fun c h => by unfold S5 at h; omega))
            have I11 := Lib.hid lb11.2
            clear x12 la11 lb11 g11 got11 late11 X11
            rw [List.length_map] at got12
            go_wp2_with fail
            · refine (move_lk W.heap.size c11 0 32 pa a9 zo _ zcap _ none 0 0 [] w12 la12 X12.cols X12.size hfr12 (emitF_short I11.out _) (GotAt.nil _ _ _ _) (by omega) (by have := emitF_len (s := (moveF bb P).1) (i : Int); have := I11.out.outL; have := I11.out.acksL; simp; omega)).mono ?_
              rintro e w13 ⟨go13, gcap13, c13, rfl, x13, la13, -⟩
              have lb13 := lb12.ext x13 (fun c h d => by unfold S5 at h d; omega)
              have g13 := g12.ext X12.cols (by omega) x13 (by unfold S5; omega) (by unfold S5; omega)
              have got13 := got12.ext X12.cols (by omega) x13 (by unfold S5; omega) (by unfold S5; omega)
              have late13 := late12.ext x13 (by unfold S5; omega) (by unfold S5; omega)
              have X13 := X12.trans (x13.mono (fun c h => by unfold S5 at h; omega))
              have NW := Lib.hid (NetW.mk la13 lb13 X13 g13 got13 late13)
              clear x13 la12 lb12 g12 got12 late12 X12 la13 lb13 X13 g13 got13 late13 hfr12
              go_wp2_with fail
              go_roundw
              case rel => exact NetR.mk ⟨i + 1, kk2, c13, _, _, Q8, S', L2, so', sn', scap', go', S'.length, gcap', lo2, ln2, lcap2, by rfl, by omega, by omega, by rfl, by omega, rfl, rfl, rfl, NW.out, NP.out⟩
              case measure => simp [intOf]; omega
            · have NW := Lib.hid (NetW.mk la12 lb12 X12 g12 got12 late12)
              go_roundw
              case rel => exact NetR.mk ⟨i + 1, kk2, c11, _, _, Q8, S', L2, so', sn', scap', go', S'.length, gcap', lo2, ln2, lcap2, by rfl, by omega, by omega, by rfl, by omega, rfl, rfl, rfl, NW.out, NP5.out⟩
              case measure => simp [intOf]; omega
    · have hse : i = n ∨ (i < n ∧ i = 60) := by omega
      have hq60 : Q.length ≤ 60 := by have := hp.qlen; omega
      have hl60 : L.length ≤ 3840 := by have := hp.llen; omega
      have R4 := Lib.hid (DrainR.mk (nv := .int .i64 ((100 : Nat) : Int)) ⟨0, 100, col, a, bb, S, go, gn, gcap, rfl, rfl, by omega, rfl, hw, Or.inl ⟨rfl, hp.net.later hi60, hp.has, hp.backs⟩, hp.good, by have := hp.slen; omega⟩)
      clear hgo hrel hw hp
      rcases hse with rfl | ⟨hse, rfl⟩
      all_goals (
        go_wp2_with fail
        go_loopw [8, 19] (fun gv nv wr => DrainR W pa pb Q L so sn scap lo ln lcap gv nv wr) (fun _ v _ => 400 - (intOf v).toNat)
        case atStart => exact R4.out
        case round =>
          obtain ⟨t, m, col, a, bb, S, go, gn, gcap, rfl, hm, ht67, rfl, hw, hst, hgood, hsl⟩ := hrel.ex
          clear R4
          by_cases hlt : m < 300
          · obtain ⟨S', q1, q2, hd⟩ := hst.turn (by omega) (m : Int) (by omega)
            have hmv := moveF_len (emitF a (m : Int)).2 bb
            have hel := emitF_len (s := a) (m : Int)
            have ho1 := hw.la.2.outL
            have ho2 := hw.la.2.acksL
            have hS1 := congrArg List.length q1
            rw [List.length_append, List.length_map, List.length_map] at hS1
            have hwm : IntKind.i64.wrap ((m : Int) + 3) = (m : Int) + 3 := IntWalk.i64_in _ (by omega)
            have ht66 : t ≤ 66 := by omega
            have HM := Lib.hid hm
            have HS1 := Lib.hid hS1
            clear hm hS1
            have HWR := Lib.hid hw
            have HD := Lib.hid hd
            have HQ1 := Lib.hid q1
            have I0 := Lib.hid hw.la.2
            have hgood2 : ∀ f ∈ L, Good Q S' f := fun f hf => (hgood f hf).mono q2
            have X := hw.X
            clear hw hd q1 q2 hst hgood
            go_wp2_with fail
            refine (out_lk W.heap.size col 0 pa a (m : Int) _ HWR.out.la X.cols X.size (by omega)).mono ?_
            rintro e w4 ⟨yo, yc, rfl, hfr4, x4, la4⟩
            have lb4 := HWR.out.lb.ext x4 (fun c h d => by unfold S5 at h d; omega)
            have got4 := HWR.out.got.ext X.cols (by omega) x4 (by unfold S5; omega) (by unfold S5; omega)
            have g4 := HWR.out.sent.ext X.cols (by omega) x4 (by unfold S5; omega) (by unfold S5; omega)
            have late4 := HWR.out.late.ext x4 (by unfold S5; omega) (by unfold S5; omega)
            have X4 := X.trans (x4.mono (fun c h => by unfold S5 at h; omega))
            clear x4 X HWR
            go_wp2_with fail
            refine (move_lk W.heap.size col 5 16 pb bb yo _ yc _ go gn gcap (S.map (msgOf Q)) w4 lb4 X4.cols X4.size hfr4 (emitF_short I0.out _) got4 (by omega) (by rw [List.length_map]; omega)).mono ?_
            rw [HQ1.out]
            rintro e w5 ⟨go5, gcap5, c5, rfl, x5, lb5, got5⟩
            have la5 := la4.ext x5 (fun c h d => by unfold S5 at h d; omega)
            have g5 := g4.ext X4.cols (by omega) x5 (by unfold S5; omega) (by unfold S5; omega)
            have late5 := late4.ext x5 (by unfold S5; omega) (by unfold S5; omega)
            have X5 := X4.trans (x5.mono (fun c h => by unfold S5 at h; omega))
            rw [List.length_map] at got5
            clear x5 la4 lb4 got4 g4 late4 X4 hfr4
            go_wp2_with fail
            refine (out_lk W.heap.size c5 5 pb _ (m : Int) _ lb5 X5.cols X5.size (by omega)).mono ?_
            rintro e w6 ⟨zo, zcap, rfl, hfr6, x6, lb6⟩
            have la6 := la5.ext x6 (fun c h d => by unfold S5 at h d; omega)
            have g6 := g5.ext X5.cols (by omega) x6 (by unfold S5; omega) (by unfold S5; omega)
            have got6 := got5.ext X5.cols (by omega) x6 (by unfold S5; omega) (by unfold S5; omega)
            have late6 := late5.ext x6 (by unfold S5; omega) (by unfold S5; omega)
            have X6 := X5.trans (x6.mono (fun c h => by unfold S5 at h; omega))
            have I5 := Lib.hid lb5.2
            clear x6 la5 lb5 g5 got5 late5 X5
            go_wp2_with fail
            refine (move_lk W.heap.size c5 0 32 pa _ zo _ zcap _ none 0 0 [] w6 la6 X6.cols X6.size hfr6 (emitF_short I5.out _) (GotAt.nil _ _ _ _) (by omega) (by have := emitF_len (s := (moveF bb (emitF a (m : Int)).2).1) (m : Int); have := I5.out.outL; have := I5.out.acksL; simp; omega)).mono ?_
            rintro e w7 ⟨go7, gcap7, c7, rfl, x7, la7, -⟩
            have lb7 := lb6.ext x7 (fun c h d => by unfold S5 at h d; omega)
            have g7 := g6.ext X6.cols (by omega) x7 (by unfold S5; omega) (by unfold S5; omega)
            have got7 := got6.ext X6.cols (by omega) x7 (by unfold S5; omega) (by unfold S5; omega)
            have late7 := late6.ext x7 (by unfold S5; omega) (by unfold S5; omega)
            have X7 := X6.trans (x7.mono (fun c h => by unfold S5 at h; omega))
            clear x7 la6 lb6 g6 got6 late6 X6 hfr6 I5 I0
            by_cases ht1 : t = 1
            · obtain rfl : m = 103 := by have := HM.out; omega
              obtain ⟨S2, p1, hd2⟩ := HD.out.late L hgood2
              have hS2 := congrArg List.length p1
              rw [List.length_append, List.length_map, List.length_map] at hS2
              have hmv2 := moveF_len L (emitF (moveF bb (emitF a ((103 : Nat) : Int)).2).1 ((103 : Nat) : Int)).1
              have hgood3 : ∀ f ∈ L, Good Q S2 f := fun f hf => (hgood2 f hf).mono (fun k hk => by have := HD.out.has.rng k hk; exact hd2.all k this.1 this.2)
              have hb2 : S2.length ≤ 8000 + 4000 * (t + 1) := by have := HS1.out; omega
              have P1 := Lib.hid p1
              have D2 := Lib.hid hd2
              clear p1 hd2 hS2
              go_wp2_with fail
              refine (move_of W.heap.size c7 5 16 pb _ (fun k => c7 k = 28 ∨ c7 k = 0) lo ln lcap L go5 S'.length gcap5 (S'.map (msgOf Q)) w7 lb7 X7.cols X7.size late7.frsP (fun k hk d => by unfold S5 at d; omega) (fun f hf => (hgood2 f hf).short) got7 (by omega) (by rw [List.length_map]; have := HS1.out; omega)).mono ?_
              rw [P1.out]
              rintro e w8 ⟨go8, gcap8, c8, rfl, x8, lb8, got8⟩
              have la8 := la7.ext x8 (fun c h d => by unfold S5 at h d; omega)
              have g8 := g7.ext X7.cols (by omega) x8 (by unfold S5; omega) (by unfold S5; omega)
              have late8 := late7.ext x8 (by unfold S5; omega) (by unfold S5; omega)
              have X8 := X7.trans (x8.mono (fun c h => by unfold S5 at h; omega))
              rw [List.length_map] at got8
              have NW := Lib.hid (NetW.mk la8 lb8 X8 g8 got8 late8)
              clear x8 la7 lb7 g7 got7 late7 X7 la8 lb8 X8 g8 got8 late8
              go_wp2_with fail
              go_roundw
              case rel => exact DrainR.mk ⟨t + 1, 106, c8, _, _, S2, go8, S2.length, gcap8, by rfl, by have := HM.out; omega, by omega, rfl, NW.out, Or.inr ⟨by omega, D2.out⟩, hgood3, hb2⟩
              case measure => simp [intOf]
            · have e0 : ((m : Int) == 103) = false := by
                have h : (m : Int) ≠ 103 := by have := HM.out; omega
                simpa using h
              have NW := Lib.hid (NetW.mk la7 lb7 X7 g7 got7 late7)
              clear la7 lb7 X7 g7 got7 late7
              go_wp2_with fail
              go_roundw
              case rel => exact DrainR.mk ⟨t + 1, m + 3, c7, _, _, S', go5, S'.length, gcap5, by rfl, by have := HM.out; omega, by omega, rfl, NW.out, Or.inr ⟨by omega, HD.out⟩, hgood2, by have := HS1.out; omega⟩
              case measure => simp [intOf]; omega
          · obtain ⟨-, hd⟩ : 1 ≤ t ∧ Done Q a bb S := by
              rcases hst with ⟨h0, -⟩ | h
              · exfalso; omega
              · exact h
            have hpm := hd.perm
            have hpl := hpm.length_eq
            have h1 := hw.got.1
            have h2 := hw.sent.1
            obtain rfl : gn = sn := by omega
            have HPM := Lib.hid hpm
            have HO := Lib.hid hd.out
            have hbG := hw.got.bss
            have hbS := hw.sent.bss
            have la := hw.la
            have KE := Lib.hid (hw.X.kp.mono (T := Noone) (fun j _ c => absurd rfl c))
            clear hw hpm hpl h1 hd hst hgood hm
            go_wp2_with fail
            refine (once_any go gn gcap (S.map (msgOf Q)) so gn scap Q _ hbG hbS HPM.out (by omega) hbS.short).mono ?_
            rintro e w8 ⟨rfl, k8⟩
            have a8 := la.keep k8
            have K8 := Lib.hid (KE.out.trans k8)
            clear hbG hbS la k8
            go_wp2_with fail
            refine (waiting_lk _ 0 pa _ _ a8).mono ?_
            rw [HO.out]
            rintro e w9 ⟨rfl, rfl⟩
            go_wp2_with fail
            go_ret
            exact ⟨rfl, K8.out⟩)

/-- The law. -/
theorem linkOnce_core {H : Type} {enc : TypeId × Value → H} (W : World) (base : Nat) (v0 : Value) (d0 : DataW H) (p0 : List MemPlace) (v1 : Value) (d1 : DataW H) (p1 : List MemPlace)
    (h0 : DataW.Trod enc Try.prog W 0 (fun _ => true) true 39 v0 d0 p0) (h1 : DataW.Trod enc Try.prog W 0 (fun _ => true) true 27 v1 d1 p1)
    (g0 : Value.okWide Try.prog W .any base 39 v0) (g1 : Value.okWide Try.prog W .any base 27 v1) (hk : Rows.uptoBulkAll [d0, d1] ≤ 1048576) :
    Calls Try.prog 4 #[v0, v1] W fun e w' => e = .returned (.bool true) ∧ Kp Noone W w' := by
  obtain ⟨ao, n, cap, ls, rfl, hb, hc⟩ := arg_bss h0 g0
  obtain ⟨fo, nf, fcap, fs, rfl, hf, hc2⟩ := arg_ints h1 g1
  have hle := hf.le
  simp only [Rows.uptoBulkAll] at hk
  exact linkOnce_walk ao n cap ls fo nf fcap fs W hb hf (by omega) (by omega) (by omega)

end Go.Proofs.Ytlpdoefbjhlegaa
