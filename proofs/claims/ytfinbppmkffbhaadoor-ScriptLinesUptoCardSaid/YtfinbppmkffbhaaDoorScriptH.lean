/-
  WALK of Parse: a script, line by line.
-/
import Derived.Test.YtfinbppmkffbhaaDoorScriptH0
import Derived.Test.YtfinbppmkffbhaaDoorScriptG
namespace Go.Proofs.YtfinbppmkffbhaaDoor
open Go.RowKit Go.Sort

def strSize : Value → Nat
  | .string s => s.size
  | _ => 0
/-- Behind some lines. -/
structure PSt (w : World) (l : List UInt8) (v0 v5 v6 : Value) (wx : World) : Prop where
  ex : ∃ (t : ByteArray) (f n : Nat) (ao : Option Addr) (cap : Nat) (cs : List CmdV) (ls : List Loc) (G : Nat → Prop), v0 = .string t ∧ v5 = .slice ao cs.length cap ∧ v6 = .int .i64 (n : Int) ∧ cs.length + 1 = n ∧ n ≤ 601 ∧
    parseF l = parseL f n cs t.data.toList ∧ t.size < f ∧ t.size ≤ 65536 ∧ CmdsIn G wx ao cap cs ls ∧ (∀ g, G g → w.heap.size ≤ g ∧ g < wx.heap.size) ∧ Kp Noone w wx
set_option maxHeartbeats 8000000 in
set_option maxRecDepth 100000 in
theorem parse_any (s : ByteArray) (w : World) (hs : s.size ≤ 4194304) (hL : LaidS w) :
    Calls Tryd.prog 18 #[.string s] w fun e w' => ParseTo s.data.toList w e w' := by
  have HL := Lib.hid hL
  clear hL
  have hlen := ba_len s
  by_cases hbig : 65536 < s.size
  · have hbz : (65536 : Int) < (s.size : Int) := by omega
    have HP : Hid (parseF s.data.toList = ([], 0, 91)) := Lib.hid (by unfold parseF; rw [if_pos (by rw [hlen]; exact hbig)])
    clear hbig hlen
    go_enter Tryd.func18, Tryd.ntmps18
    go_wp2_with fail
    go_ret3
    exact ParseTo.err (n := 0) HP.out (Kp.refl _ _)
  have hbz : ¬ (65536 : Int) < (s.size : Int) := by omega
  have hP0 : parseF s.data.toList = parseL (s.size + 1) 1 [] s.data.toList := by unfold parseF; rw [if_neg (by rw [hlen]; exact hbig), hlen]
  have HS0 : Hid (PSt w s.data.toList (.string s) (.slice none 0 0) (.int .i64 1) w) := Lib.hid ⟨s, s.size + 1, 1, none, 0, [], [], fun _ => False, rfl, rfl, rfl, rfl, by omega, hP0, by omega, by omega, ⟨Own.nil _ _ _ _ _, rfl, fun i h => by cases h⟩, fun g h => h.elim, Kp.refl _ _⟩
  obtain ⟨i0, hi, hz0, hz1, hz2⟩ := info_parts (P := Tryd.prog) (e := 27) (z := .agg #[.string .empty, .slice none 0 0, .int .i64 0, .int .i64 0, .int .i64 0, .int .i64 0, .int .i64 0, .slice none 0 0]) (size := 8) (bytes := 104) (by kernel_rfl)
  clear hbig hlen hP0
  generalize s.data.toList = l at *
  go_enter Tryd.func18, Tryd.ntmps18
  go_wp2_with fail
  go_loopw [0, 5, 6] (fun v0 v5 v6 wx => PSt w l v0 v5 v6 wx) (fun v0 _ _ _ => strSize v0)
  case atStart => exact HS0.out
  case round =>
    clear HS0 hbz hs
    obtain ⟨t, f, n, ao, cap, cs, ls, G, rfl, rfl, rfl, hn, hn6, hp, hf, ht, hc, hG, hk⟩ := hrel.ex
    have HP := Lib.hid hp
    have HC := Lib.hid hc
    have HG := Lib.hid hG
    have HK := Lib.hid hk
    have HN := Lib.hid hn
    clear hrel hp hc hG hk hn
    obtain ⟨f, rfl⟩ : ∃ g, f = g + 1 := ⟨f - 1, by omega⟩
    by_cases h0 : t.size = 0
    · have ht0 : t.data.toList = [] := List.eq_nil_of_length_eq_zero (by rw [ba_len]; exact h0)
      have q0 : (t.toList == []) = true := str_eq t [] ht0
      have HE : Hid (parseF l = (cs, 0, 0)) := Lib.hid (by rw [HP.out, ht0]; rfl)
      clear h0 ht0
      go_wp2_with fail
      go_ret3
      exact ⟨HK.out, ao, cap, ls, by rw [HE.out]; rfl, by rw [HE.out]; exact HC.out.at⟩
    have ht0 : t.data.toList ≠ [] := fun e => h0 (by rw [← ba_len, e]; rfl)
    have q0 : (t.toList == []) = false := str_ne t [] ht0
    have HT0 := Lib.hid ht0
    clear ht0
    go_upto_region 7 with fail
    go_wp2_with fail
    refine (cut_any t _ (by omega) (HL.out.keep HK.out)).mono ?_
    rintro e w2 ⟨k2, hto⟩
    have HK2 := Lib.hid (HK.out.trans k2)
    have HC2 := Lib.hid (HC.out.keep k2)
    have HG2 : Hid (∀ g, G g → w.heap.size ≤ g ∧ g < w2.heap.size) := Lib.hid (fun g h => ⟨(HG.out g h).1, Nat.lt_of_lt_of_le (HG.out g h).2 k2.size⟩)
    clear HC HG k2
    by_cases h6 : 600 < n
    · have h6z : (600 : Int) < (n : Int) := by omega
      have HE : Hid (parseF l = ([], n, 91)) := Lib.hid (by rw [HP.out, parseL_many HT0.out h6])
      clear h6
      rcases hto with ⟨-, a, b, rfl⟩ | ⟨a, b, -, -, rfl⟩
      · go_wp2_with fail
        go_ret3
        exact ParseTo.err HE.out HK2.out
      · unfold strV
        go_wp2_with fail
        go_ret3
        exact ParseTo.err HE.out HK2.out
    have h6z : ¬ (600 : Int) < (n : Int) := by omega
    rcases hto with ⟨hno, a, b, rfl⟩ | ⟨a, b, hab, hno, rfl⟩
    · have HE : Hid (parseF l = ([], n, 10)) := Lib.hid (by rw [HP.out, parseL_open HT0.out (by omega) hno])
      clear hno h6
      go_wp2_with fail
      go_ret3
      exact ParseTo.err HE.out HK2.out
    have HE : Hid (parseF l = if (readF a).2 ≠ 0 then ([], n, (readF a).2) else parseL f (n + 1) (cs ++ [(readF a).1]) b) := Lib.hid (by rw [HP.out, hab, parseL_step (by omega) hno])
    have hsz : t.size = a.length + 1 + b.length := by
      rw [← ba_len, hab]
      simp
      omega
    clear hab hno HP h6
    have ha1 : (⟨a.toArray⟩ : ByteArray).size ≤ 4194304 := by rw [ba_size]; omega
    have hb1 : (⟨b.toArray⟩ : ByteArray).size = b.length := ba_size b
    have HDA : Hid ((⟨a.toArray⟩ : ByteArray).data.toList = a) := Lib.hid (by simp)
    have HDB : Hid ((⟨b.toArray⟩ : ByteArray).data.toList = b) := Lib.hid (by simp)
    unfold strV
    have hrd := fun W hW => readL_any (⟨a.toArray⟩ : ByteArray) W ha1 hW
    generalize (⟨a.toArray⟩ : ByteArray) = sa at *
    generalize (⟨b.toArray⟩ : ByteArray) = sb at *
    go_wp2_with fail
    refine (hrd _ (HL.out.keep HK2.out)).mono ?_
    clear hrd
    rintro e w3 ⟨k3, lc, hto, hci⟩
    rw [HDA.out] at hto hci
    subst hto
    have HK3 := Lib.hid (HK2.out.trans k3)
    have HC3 := Lib.hid (HC2.out.keep k3)
    have HG3 : Hid (∀ g, G g → w.heap.size ≤ g ∧ g < w2.heap.size) := HG2
    have HWS := Lib.hid k3.size
    have HCI := Lib.hid hci
    clear HC2 HG2 k3 hci
    generalize hrf : readF a = ra at *
    obtain ⟨c, ec⟩ := ra
    simp only [] at HE HCI ⊢
    clear hrf
    obtain ⟨X, hX⟩ : ∃ X : Array Value, X = cmdCs c lc := ⟨_, rfl⟩
    have hXl : X = #[.string ⟨c.verb.toArray⟩, .slice lc.no c.nums.length lc.nc, .int .i64 c.op.kind, .int .i64 c.op.reg, .int .i64 c.op.to, .int .i64 c.op.re, .int .i64 c.op.im, .slice lc.bo c.data.length lc.bc] := hX
    have HX := Lib.hid hX
    have HXL := Lib.hid hXl
    unfold cmdV
    rw [← hX, hXl]
    clear hX hXl
    obtain ⟨e0, he0⟩ : ∃ x : ByteArray, (⟨c.verb.toArray⟩ : ByteArray) = x := ⟨_, rfl⟩
    obtain ⟨e1, he1⟩ : ∃ x : Nat, c.nums.length = x := ⟨_, rfl⟩
    obtain ⟨e2, he2⟩ : ∃ x : Nat, c.data.length = x := ⟨_, rfl⟩
    rw [he0, he1, he2] at HXL ⊢
    clear he0 he1 he2
    generalize c.op.kind = o0 at HXL ⊢
    generalize c.op.reg = o1 at HXL ⊢
    generalize c.op.to = o2 at HXL ⊢
    generalize c.op.re = o3 at HXL ⊢
    generalize c.op.im = o4 at HXL ⊢
    by_cases hec : ec = 0
    case neg =>
      have HR : Hid (parseF l = ([], n, ec)) := Lib.hid (by rw [HE.out, if_pos hec])
      have HKO : Hid (Kp Noone w3 (w3.alloc (.cells #[.string e0, .slice lc.no e1 lc.nc, .int .i64 o0, .int .i64 o1, .int .i64 o2, .int .i64 o3, .int .i64 o4, .slice lc.bo e2 lc.bc] 27))) := Lib.hid ((Kp.refl _ _).alloc _)
      go_wp2_with fail
      go_ret3
      exact ParseTo.err HR.out (HK3.out.trans HKO.out)
    subst hec
    have HR : Hid (parseF l = parseL f (n + 1) (cs ++ [c]) b) := Lib.hid (by rw [HE.out, if_neg (by simp)])
    clear HE
    have h8 := heap_alloc_new w3 (.cells #[.string e0, .slice lc.no e1 lc.nc, .int .i64 o0, .int .i64 o1, .int .i64 o2, .int .i64 o3, .int .i64 o4, .slice lc.bo e2 lc.bc] 27)
    have HK8 : Hid (Kp Noone w3 (w3.alloc (.cells #[.string e0, .slice lc.no e1 lc.nc, .int .i64 o0, .int .i64 o1, .int .i64 o2, .int .i64 o3, .int .i64 o4, .slice lc.bo e2 lc.bc] 27))) := Lib.hid ((Kp.refl _ _).alloc _)
    go_upto_region 15 with fail
    obtain ⟨z0, z1, z2, z3, z4, z5, z6, z7⟩ := cells_8f h8
    clear h8
    generalize w3.alloc (.cells #[.string e0, .slice lc.no e1 lc.nc, .int .i64 o0, .int .i64 o1, .int .i64 o2, .int .i64 o3, .int .i64 o4, .slice lc.bo e2 lc.bc] 27) = w4 at *
    generalize hgs : w3.heap.size = g3 at *
    have HGS := Lib.hid hgs
    clear hgs
    have HROW : Hid (Row (w4.alloc (.cells #[.string e0, .slice lc.no e1 lc.nc, .int .i64 o0, .int .i64 o1, .int .i64 o2, .int .i64 o3, .int .i64 o4, .slice lc.bo e2 lc.bc] 27)) (some ⟨w4.heap.size, 0, none⟩) (cmdCs c lc).toList) := Lib.hid (by
      rw [← HX.out, HXL.out]
      exact Row.ofHeap (heap_alloc_new w4 _))
    have HKA : Hid (Kp Noone w3 (w4.alloc (.cells #[.string e0, .slice lc.no e1 lc.nc, .int .i64 o0, .int .i64 o1, .int .i64 o2, .int .i64 o3, .int .i64 o4, .slice lc.bo e2 lc.bc] 27))) := Lib.hid (HK8.out.alloc _)
    have hcl : cs.length ≤ 600 := by have := HN.out; omega
    have hn1 : (n : Int) ≤ 601 := by omega
    have hwn : IntKind.i64.wrap ((n : Int) + 1) = (n : Int) + 1 := IntWalk.i64_in _ (by omega)
    go_wp2_with (at_builtin; refine wpList_append_gen _ rfl (.tmp 40) (.tmp 42) 47 rfl 27 i0 _ 8 104 Tryd.underlying47 hi hz0 hz1 hz2 rfl ao cs.length cap rfl _ 1 1 rfl G (cmdRows cs ls) (HC3.out.own.keep HKA.out) (cmdCs c lc).toList rfl HROW.out (by intro u hu; unfold cmdCs strV at hu; simp at hu; rcases hu with rfl | rfl | rfl | rfl | rfl | rfl | rfl | rfl <;> rfl) (by omega) (by unfold maxLen; omega) ?_)
    intro ao' cap' w6 ho6 hk6
    have HNX : Hid (PSt w l (.string sb) (.slice ao' (cs.length + 1) cap') (.int .i64 ((n : Int) + 1)) w6) := Lib.hid (by
      have hin := CmdsIn.snoc (w := w2) (HC3.out.keep HKA.out) (HCI.out.keep HKA.out) (fun g hg => (HG3.out g hg).2) ho6 hk6
      have s3 := HWS.out
      have s2 := HGS.out
      have s4 := HK3.out.size
      have s5 := HKA.out.size
      have s6 := hk6.size
      refine ⟨sb, f, n + 1, ao', cap', cs ++ [c], ls ++ [lc], _, rfl, by simp, by simp, by have := HN.out; simp; omega, by omega, by rw [HR.out, HDB.out], by omega, by omega, hin, ?_, ?_⟩
      · intro g hg
        rcases hg with hg | hg
        · have := HG3.out g hg
          exact ⟨this.1, by omega⟩
        · exact ⟨by omega, hg.2⟩
      · exact (HK3.out.trans HKA.out).trans' hk6 (fun x hx hg => by have := HG3.out x hg; omega))
    have hsb : sb.size < t.size := by omega
    clear ho6 hk6 z0 z1 z2 z3 z4 z5 z6 z7
    go_wp2_with fail
    go_roundw
    case rel => exact HNX.out
    case measure => exact hsb

end Go.Proofs.YtfinbppmkffbhaaDoor
