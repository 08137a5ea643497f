/-
  WALK of script.Read: the command of a line.
-/
import Derived.Test.YtfinbppmkffbhaaDoorScriptG0
namespace Go.Proofs.YtfinbppmkffbhaaDoor
open Go.RowKit Go.Sort

theorem cmdCs_verb (v : List UInt8) : cmdCs ⟨v, [], op0, []⟩ loc0 = #[strV v, .slice none 0 0, .int .i64 0, .int .i64 0, .int .i64 0, .int .i64 0, .int .i64 0, .slice none 0 0] := rfl
theorem getW_head (l : List (List UInt8)) : getW l 0 = l.headD [] := by cases l <;> rfl
set_option maxHeartbeats 8000000 in
set_option maxRecDepth 100000 in
theorem readL_any (s : ByteArray) (w : World) (hs : s.size ≤ 4194304) (hL : LaidS w) :
    Calls Tryd.prog 15 #[.string s] w fun e w' => LineTo s.data.toList w e w' := by
  have HL := Lib.hid hL
  clear hL
  have hlen := ba_len s
  have HLEN := Lib.hid hlen
  clear hlen
  have HRD : Hid (∀ x ∈ splitF 32 s.data.toList, x.length ≤ 4194304) := Lib.hid (fun x hx => by
    have := split_sub 32 s.data.toList x hx
    have := HLEN.out
    omega)
  have hne := splitF_ne 32 s.data.toList
  have hsl := split_len 32 s.data.toList
  have hcl := List.count_le_length (a := (32 : UInt8)) (l := s.data.toList)
  have HRF : Hid (readF s.data.toList = readW ((splitF 32 s.data.toList).headD []) (splitF 32 s.data.toList).tail) := Lib.hid rfl
  have hn1 : (splitF 32 s.data.toList).length ≤ 4194305 := by have := HLEN.out; omega
  have hn0 : 1 ≤ (splitF 32 s.data.toList).length := by omega
  clear hsl hcl
  have hsp := fun W hW => split_any s W hs hW
  obtain ⟨line, hline⟩ : ∃ x, s.data.toList = x := ⟨_, rfl⟩
  rw [hline] at hsp HRD hne HRF hn1 hn0 ⊢
  clear hline
  have HA : Hid ((w.alloc (.cells #[.string ⟨#[]⟩, .slice none 0 0, .int .i64 0, .int .i64 0, .int .i64 0, .int .i64 0, .int .i64 0, .slice none 0 0] 27)).heap[w.heap.size]? = some (.cells (cmdCs cmd0 loc0) 27 (0, 0))) := Lib.hid (heap_alloc_new w _)
  have HKA : Hid (Kp Noone w (w.alloc (.cells #[.string ⟨#[]⟩, .slice none 0 0, .int .i64 0, .int .i64 0, .int .i64 0, .int .i64 0, .int .i64 0, .slice none 0 0] 27))) := Lib.hid ((Kp.refl Noone w).alloc _)
  go_enter Tryd.func15, Tryd.ntmps15
  go_wp2_with fail
  refine wp_scope_fwd 0 rfl ?_
  go_wp2_with fail
  obtain ⟨v, args, hva⟩ : ∃ v args, splitF 32 line = v :: args := by
    cases hh : splitF 32 line with
    | nil => exact (hne hh).elim
    | cons v args => exact ⟨v, args, rfl⟩
  rw [hva] at HRF HRD hn1
  simp only [List.headD_cons, List.tail_cons] at HRF
  refine (hsp _ (HL.out.keep HKA.out)).mono ?_
  rintro e w1 ⟨k1, hto⟩
  rw [hva] at hto
  obtain ⟨ao, n, rfl, hn, hss⟩ := hto
  clear hsp hne hva hn0
  have hnm : n = args.length + 1 := by rw [hn]; rfl
  subst hnm
  clear hn
  have HSS := Lib.hid hss
  have HC1 : Hid (Kp Noone w w1 ∧ w1.heap[w.heap.size]? = some (.cells (cmdCs cmd0 loc0) 27 (0, 0))) := Lib.hid ⟨HKA.out.trans k1, k1.heap HA.out id⟩
  clear HA HKA k1
  obtain ⟨b, off, rfl, hbb, hcell⟩ := hss.at (k := 0) (by omega)
  have hg0 : getW (v :: args) 0 = v := rfl
  rw [hg0, Nat.add_zero] at hcell
  unfold strV at hcell
  clear hss hg0
  have hvl : (⟨v.toArray⟩ : ByteArray).size ≤ 4194304 := by rw [ba_size]; exact HRD.out v (List.mem_cons_self ..)
  have HSV : Hid ((⟨v.toArray⟩ : ByteArray).data.toList = v) := Lib.hid (by simp)
  have hbd := fun W => bounds_any ⟨v.toArray⟩ W
  rw [HSV.out] at hbd
  have HBX : Hid ((w1.alloc (.cells (cmdCs ⟨v, [], op0, []⟩ loc0) 27)).heap[w1.heap.size]? = some (.cells (cmdCs ⟨v, [], op0, []⟩ loc0) 27 (0, 0))) := Lib.hid (heap_alloc_new w1 _)
  have HXV : Hid (cmdCs ⟨v, [], op0, []⟩ loc0 = #[.string ⟨v.toArray⟩, .slice none 0 0, .int .i64 0, .int .i64 0, .int .i64 0, .int .i64 0, .int .i64 0, .slice none 0 0]) := Lib.hid rfl
  obtain ⟨sv, hsv⟩ : ∃ x, (⟨v.toArray⟩ : ByteArray) = x := ⟨_, rfl⟩
  rw [hsv] at hcell hvl hbd
  have HSV2 : Hid (sv.data.toList = v) := Lib.hid (by rw [← hsv])
  clear HSV
  go_upto_region 3 with fail
  have hW2 : w1.alloc (.cells #[.string sv, .slice none 0 0, .int .i64 0, .int .i64 0, .int .i64 0, .int .i64 0, .int .i64 0, .slice none 0 0] 27) = w1.alloc (.cells (cmdCs ⟨v, [], op0, []⟩ loc0) 27) := by rw [HXV.out, hsv]
  rw [hW2]
  have hC2 : CSt w w.heap.size w1.heap.size ⟨v, [], op0, []⟩ loc0 (w1.alloc (.cells (cmdCs ⟨v, [], op0, []⟩ loc0) 27)) :=
    ⟨HC1.out.1.alloc _, ((Kp.refl Noone w1).alloc _).heap HC1.out.2 id, HBX.out⟩
  have HNQ : Hid (w.heap.size ≤ w1.heap.size ∧ w1.heap.size ≠ w.heap.size ∧ w.heap.size ≤ w.heap.size) := Lib.hid (by
    have h1 := (Array.getElem?_eq_some_iff.1 HC1.out.2).1
    omega)
  have HS2 := Lib.hid (HSS.out.keep ((Kp.refl Noone w1).alloc (.cells (cmdCs ⟨v, [], op0, []⟩ loc0) 27)))
  clear HC1 HBX HXV HSS hW2 hsv hcell
  generalize w1.alloc (.cells (cmdCs ⟨v, [], op0, []⟩ loc0) 27) = w2 at *
  generalize w1.heap.size = q at *
  obtain ⟨r, hr⟩ : ∃ r, r = w.heap.size := ⟨_, rfl⟩
  rw [← hr] at hC2 HNQ ⊢
  have hq3 : w.heap.size ≤ q ∧ q ≠ r ∧ w.heap.size ≤ r := by have := HNQ.out; omega
  have HQ := Lib.hid hq3
  have HC := Lib.hid hC2
  clear HNQ hr hq3 hC2
  obtain ⟨z0, z1, z2, z3, z4, z5, z6, z7⟩ := cells_8f (show w2.heap[q]? = some (.cells #[strV v, .slice none 0 0, .int .i64 0, .int .i64 0, .int .i64 0, .int .i64 0, .int .i64 0, .slice none 0 0] 27 (0, 0)) from HC.out.box)
  have hvv : strV v = .string sv := by unfold strV; rw [← HSV2.out, ← ba_of]
  rw [hvv] at z0
  have HVV := Lib.hid hvv
  clear hvv
  obtain ⟨⟨lo, hi, ok⟩, hbf⟩ : ∃ x, boundsF v = x := ⟨_, rfl⟩
  rw [hbf] at hbd
  have HBF := Lib.hid hbf
  clear hbf
  unfold boundsV at hbd
  simp only [] at hbd
  go_upto_region 4 with (go_at_call 21; refine (hbd _).mono ?_; rintro e w' ⟨rfl, hw⟩; rw [hw]; clear hw)
  clear hbd
  have hml : args.length ≤ 4194304 := by have : (v :: args).length = args.length + 1 := rfl; omega
  go_cut [4, 9] from 16 (fun _ u wx => wx = w2 ∧ ∃ o1, u = .slice (some ⟨b, o1, none⟩) args.length args.length ∧ Hid (SS w2 (some ⟨b, o1, none⟩) args.length args.length args))
  case first =>
    have hsub := HS2.out.sub 1 (args.length + 1) (by omega) (by omega)
    rw [show args.length + 1 - 1 = args.length by omega] at hsub
    have hta : ((v :: args).take (args.length + 1)).drop 1 = args := by simp
    rw [hta] at hsub
    have HSUB := Lib.hid hsub
    clear hsub hta
    by_cases h1 : args.length = 0
    · have h1z : (args.length : Int) = 0 := by omega
      have HS0 : Hid (SS w2 (some ⟨b, off, none⟩) 0 0 args) := Lib.hid (by
        have := HSUB.out
        rw [h1] at this
        simpa using this)
      have HA0 := Lib.hid h1
      rw [h1]
      clear h1 h1z
      go_wp2_with fail
      go_meet
      case rel => exact ⟨rfl, off, by rw [HA0.out], Lib.hid (by rw [HA0.out]; exact HS0.out)⟩
    · have h2 : ¬ args.length + 1 = 1 := by omega
      have HS0 : Hid (SS w2 (some ⟨b, off + 1, none⟩) args.length args.length args) := Lib.hid (by
        have := HSUB.out
        rw [if_neg h2] at this
        simpa [Addr.add] using this)
      go_wp2_with fail
      go_meet
      case rel => exact ⟨rfl, _, rfl, HS0⟩
  obtain ⟨rfl, o1, rfl, HSA⟩ := hcut
  have HE90 : Hid (∀ e w', (boundsF v).2.2 = false ∨ (countF v args.length < (boundsF v).1 ∨ (boundsF v).2.1 < countF v args.length ∨ (v = vInject ∧ args.length ≠ 3)) → Kp Noone w w' → e = .returned (.tuple #[cmdV cmd0 loc0, .int .i64 90]) → LineTo line w e w') := Lib.hid (fun e w' h k he => by
    have : readF line = (cmd0, 90) := by
      rw [HRF.out]
      unfold readW
      by_cases hk : (boundsF v).2.2 = false
      · rw [if_pos hk]
      · rw [if_neg hk, if_pos (h.resolve_left hk)]
    exact ⟨k, loc0, by rw [this]; exact he, by rw [this]; exact CmdIn.zero _ _⟩)
  go_upto_block 0 with fail
  go_cut [10] from 16 (fun u wx => wx = wc ∧ u = .int .i64 (countF v args.length : Int) ∧ ok = true)
  case first =>
    have hres : wc.heap[r]? = some (.cells #[.string ⟨#[]⟩, .slice none 0 0, .int .i64 0, .int .i64 0, .int .i64 0, .int .i64 0, .int .i64 0, .slice none 0 0] 27 (0, 0)) := HC.out.res
    cases ok
    · go_wp2_with fail
      go_step3
      refine ⟨rfl, ?_⟩
      go_wp2_with (refine wpList_store_cmd rfl (.tmp 2) (.tmp 114) rfl r cmd0 loc0 (by rfl) (by rfl) hres ?_)
      exact bodyPost_ret (read_results _ _ r cmd0 loc0 90 rfl rfl (putC_heap cmd0 loc0 hres)) rfl (HE90.out _ _ (Or.inl (by rw [HBF.out])) (putC_kp HC.out.kp HQ.out.2.2 cmd0 loc0) rfl)
    · by_cases hask : v = vAsk
      · have q1 : (sv.toList == [97, 115, 107]) = true := str_eq sv _ (by rw [HSV2.out]; exact hask)
        have HCT : Hid (min (args.length : Int) (lo : Int) = (countF v args.length : Int)) := Lib.hid (by
          unfold countF
          rw [if_pos (Or.inl hask), HBF.out]
          simp only []
          omega)
        clear hask
        go_wp2_with fail
        go_meet
        case rel => exact ⟨rfl, by rw [← HCT.out], trivial⟩
      · have q1 : (sv.toList == [97, 115, 107]) = false := str_ne sv _ (by rw [HSV2.out]; exact hask)
        by_cases hinj : v = vInject
        · have q2 : (sv.toList == [105, 110, 106, 101, 99, 116]) = true := str_eq sv _ (by rw [HSV2.out]; exact hinj)
          have HCT : Hid (min (args.length : Int) (lo : Int) = (countF v args.length : Int)) := Lib.hid (by
            unfold countF
            rw [if_pos (Or.inr hinj), HBF.out]
            simp only []
            omega)
          clear hinj hask
          go_wp2_with fail
          go_meet
          case rel => exact ⟨rfl, by rw [← HCT.out], trivial⟩
        · have q2 : (sv.toList == [105, 110, 106, 101, 99, 116]) = false := str_ne sv _ (by rw [HSV2.out]; exact hinj)
          have HCT : Hid ((args.length : Int) = (countF v args.length : Int)) := Lib.hid (by
            unfold countF
            rw [if_neg (by simp [hask, hinj])])
          clear hinj hask
          go_wp2_with fail
          go_meet
          case rel => exact ⟨rfl, by rw [← HCT.out], trivial⟩
  obtain ⟨rfl, rfl, rfl⟩ := hcut
  have hkm : countF v args.length ≤ args.length := by unfold countF; split <;> omega
  obtain ⟨k, hk⟩ : ∃ k, countF v args.length = k := ⟨_, rfl⟩
  rw [hk] at hkm HE90 ⊢
  have HK := Lib.hid hk
  clear hk
  have hres : wc.heap[r]? = some (.cells #[.string ⟨#[]⟩, .slice none 0 0, .int .i64 0, .int .i64 0, .int .i64 0, .int .i64 0, .int .i64 0, .slice none 0 0] 27 (0, 0)) := HC.out.res
  by_cases hlo : k < lo
  · have hloz : (k : Int) < (lo : Int) := by omega
    have HB := Lib.hid hlo
    clear hlo
    go_wp2_with fail
    go_step3
    refine ⟨rfl, ?_⟩
    go_wp2_with (refine wpList_store_cmd rfl (.tmp 2) (.tmp 114) rfl r cmd0 loc0 (by rfl) (by rfl) hres ?_)
    exact bodyPost_ret (read_results _ _ r cmd0 loc0 90 rfl rfl (putC_heap cmd0 loc0 hres)) rfl (HE90.out _ _ (Or.inr (Or.inl (by rw [HBF.out]; exact HB.out))) (putC_kp HC.out.kp HQ.out.2.2 cmd0 loc0) rfl)
  have hloz : ¬ (k : Int) < (lo : Int) := by omega
  by_cases hhi : hi < k
  · have hhiz : (hi : Int) < (k : Int) := by omega
    have HB := Lib.hid hhi
    clear hhi hlo
    go_wp2_with fail
    go_step3
    refine ⟨rfl, ?_⟩
    go_wp2_with (refine wpList_store_cmd rfl (.tmp 2) (.tmp 114) rfl r cmd0 loc0 (by rfl) (by rfl) hres ?_)
    exact bodyPost_ret (read_results _ _ r cmd0 loc0 90 rfl rfl (putC_heap cmd0 loc0 hres)) rfl (HE90.out _ _ (Or.inr (Or.inr (Or.inl (by rw [HBF.out]; exact HB.out)))) (putC_kp HC.out.kp HQ.out.2.2 cmd0 loc0) rfl)
  have hhiz : ¬ (hi : Int) < (k : Int) := by omega
  go_upto_region 10 with fail
  obtain ⟨B, hB⟩ : ∃ B, Hid (decide (v = vInject ∧ args.length ≠ 3) = B) := ⟨_, Lib.hid rfl⟩
  have HLH := Lib.hid (And.intro hlo hhi)
  clear hlo hhi
  go_cut [65] from 29 (fun u wx => wx = wc ∧ u = .bool B)
  case first =>
    by_cases hinj : v = vInject
    · have q2 : (sv.toList == [105, 110, 106, 101, 99, 116]) = true := str_eq sv _ (by rw [HSV2.out]; exact hinj)
      by_cases h3 : args.length = 3
      · have hBB : Hid (B = false) := Lib.hid (by rw [← hB.out]; simp [h3])
        have h3z : ((args.length : Int) == 3) = true := by rw [h3]; rfl
        have h3y : (args.length : Int) = 3 := by omega
        have HA3 := Lib.hid h3
        clear hinj h3
        go_wp2_with fail
        go_meet
        case rel => exact ⟨rfl, by rw [hBB.out]⟩
      · have hBB : Hid (B = true) := Lib.hid (by rw [← hB.out]; simp [h3, hinj])
        have HZ : Hid (((args.length : Int) != 3) = true) := Lib.hid (bne_iff_ne.2 (by omega))
        clear hinj h3
        go_wp2_with fail
        go_meet
        case rel => exact ⟨rfl, by rw [hBB.out, HZ.out]⟩
    · have q2 : (sv.toList == [105, 110, 106, 101, 99, 116]) = false := str_ne sv _ (by rw [HSV2.out]; exact hinj)
      have hBB : Hid (B = false) := Lib.hid (by rw [← hB.out]; simp [hinj])
      clear hinj
      go_wp2_with fail
      go_meet
      case rel => exact ⟨rfl, by rw [hBB.out]⟩
  obtain ⟨rfl, rfl⟩ := hcut
  cases B
  case true =>
    have HB := Lib.hid (of_decide_eq_true hB.out)
    go_wp2_with fail
    go_step3
    refine ⟨rfl, ?_⟩
    go_wp2_with (refine wpList_store_cmd rfl (.tmp 2) (.tmp 114) rfl r cmd0 loc0 (by rfl) (by rfl) hres ?_)
    exact bodyPost_ret (read_results _ _ r cmd0 loc0 90 rfl rfl (putC_heap cmd0 loc0 hres)) rfl (HE90.out _ _ (Or.inr (Or.inr (Or.inr HB.out))) (putC_kp HC.out.kp HQ.out.2.2 cmd0 loc0) rfl)
  case false =>
    have HRN : Hid (readF line = match numsF (args.take k) with
      | none => (cmd0, 21)
      | some ns =>
        if v = vAsk then (if (opF (args.drop 1)).2 = 0 then (⟨v, ns, (opF (args.drop 1)).1, []⟩, 0) else (cmd0, (opF (args.drop 1)).2))
        else if v = vInject then match bytesF (args.getD 2 []) with
          | none => (cmd0, 21)
          | some d => (⟨v, ns, op0, d⟩, 0)
        else (⟨v, ns, op0, []⟩, 0)) := Lib.hid (by
      rw [HRF.out]
      unfold readW
      rw [HK.out, HBF.out]
      simp only []
      rw [if_neg (by simp), if_neg (by have h1 := HLH.out; have h2 := of_decide_eq_false hB.out; exact fun c => c.elim h1.1 (fun c => c.elim h1.2 h2))]
      rfl)
    clear HE90
    have hk9 : (k : Int) ≤ 4194304 := by omega
    obtain ⟨i0, hi, hz0, hz1, hz2⟩ := info_parts (P := Tryd.prog) (e := 3) (z := .int .i64 0) (size := 1) (bytes := 8) (by kernel_rfl)
    have hbq : b ≠ q := by omega
    have HRQ : Hid (r < wc.heap.size ∧ q < wc.heap.size ∧ w.heap.size ≤ wc.heap.size) := Lib.hid ⟨(Array.getElem?_eq_some_iff.1 HC.out.res).1, (Array.getElem?_eq_some_iff.1 HC.out.box).1, HC.out.kp.size⟩
    go_wp2_with fail
    clear z0 z1 z2 z3 z4 z5 z6 z7 hres hloz hhiz
    go_loopw [70] (fun u wx => ∃ (j : Nat) (ns : List Int) (no : Option Addr) (nc : Nat), u = .int .i64 (j : Int) ∧ j ≤ k ∧ Hid (numsF (args.take j) = some ns) ∧ Hid (CSt w r q ⟨v, ns, op0, []⟩ ⟨no, nc, none, 0⟩ wx) ∧ Hid (Own (fun g => wc.heap.size ≤ g) wx 3 1 no j nc (ns.map (Value.int .i64))) ∧ Hid (Kp (fun g => g = q) wc wx)) (fun u _ => (4194305 - intOf u).toNat)
    case atStart => exact ⟨0, [], none, 0, rfl, Nat.zero_le _, Lib.hid rfl, Lib.hid HC.out, Lib.hid (Own.nil _ _ _ _ _), Lib.hid (Kp.refl _ _)⟩
    case round =>
      clear HC
      obtain ⟨j, ns, no, nc, rfl, hjk, hnum, HC, HO, HKQ⟩ := hrel
      have HSR := Lib.hid (HSA.out.kp HKQ.out (by intro a ha; injection ha with ha; subst ha; exact hbq))
      by_cases hlt : j < k
      · have hltz : (j : Int) < (k : Int) := by omega
        have hwj : IntKind.i64.wrap ((j : Int) + 1) = (j : Int) + 1 := IntWalk.i64_in _ (by omega)
        obtain ⟨b2, off2, he2, hb2, hcell⟩ := HSR.out.at (k := j) (by omega)
        obtain ⟨rfl, rfl⟩ : b = b2 ∧ o1 = off2 := by simpa using he2
        clear he2
        have hjl : j < args.length := by omega
        have hgj : getW args j = args[j] := by unfold getW; rw [List.getD_eq_getElem?_getD, List.getElem?_eq_getElem hjl]; rfl
        have hxl := HRD.out args[j] (List.mem_cons_of_mem _ (List.getElem_mem _))
        have HTK : Hid (args[j] ∈ args.take k) := Lib.hid (by
          have h1 : (args.take k)[j]'(by rw [List.length_take]; omega) = args[j] := by rw [List.getElem_take]
          rw [← h1]; exact List.getElem_mem _)
        have HTS : Hid (args.take (j + 1) = args.take j ++ [args[j]]) := Lib.hid (List.take_succ_eq_append_getElem hjl)
        rw [hgj] at hcell
        generalize args[j] = x at *
        clear hgj hjl
        unfold strV at hcell
        have hsx : (⟨x.toArray⟩ : ByteArray).size ≤ 281474976710656 := by rw [ba_size]; omega
        have hnb := fun W hW => number_any (⟨x.toArray⟩ : ByteArray) W hsx hW
        have HDX : Hid ((⟨x.toArray⟩ : ByteArray).data.toList = x) := Lib.hid (by simp)
        generalize (⟨x.toArray⟩ : ByteArray) = sx at *
        go_wp2_with fail
        refine (hnb _ (HL.out.keep HC.out.kp).laid).mono ?_
        clear hnb
        rintro e w5 ⟨k5, hto⟩
        rw [HDX.out] at hto
        have HC5 := Lib.hid (HC.out.keep k5)
        have HO5 := Lib.hid (HO.out.keep k5)
        have HKQ5 := Lib.hid (HKQ.out.trans k5.none)
        clear HC HO HKQ k5 hcell HSR
        have hres : w5.heap[r]? = some (.cells #[.string ⟨#[]⟩, .slice none 0 0, .int .i64 0, .int .i64 0, .int .i64 0, .int .i64 0, .int .i64 0, .slice none 0 0] 27 (0, 0)) := HC5.out.res
        rcases hto with ⟨y, hy, rfl⟩ | ⟨hy, vv, rfl⟩
        case inr =>
          have HN : Hid (readF line = (cmd0, 21)) := Lib.hid (by rw [HRN.out, numsF_none HTK.out hy])
          clear hy
          go_wp2_with fail
          go_step3
          refine ⟨rfl, ?_⟩
          go_wp2_with (refine wpList_store_cmd rfl (.tmp 2) (.tmp 114) rfl r cmd0 loc0 (by rfl) (by rfl) hres ?_)
          exact bodyPost_ret (read_results _ _ r cmd0 loc0 21 rfl rfl (putC_heap cmd0 loc0 hres)) rfl ⟨putC_kp HC5.out.kp HQ.out.2.2 cmd0 loc0, loc0, by rw [HN.out], by rw [HN.out]; exact CmdIn.zero _ _⟩
        case inl =>
          have HNS := Lib.hid (numsF_snoc hnum.out hy)
          rw [← HTS.out] at HNS
          clear hy hnum
          have hnj : ns.length = j := by have := HO5.out.1; rw [List.length_map] at this; omega
          have hbx : w5.heap[q]? = some (.cells #[strV v, .slice no ns.length nc, .int .i64 0, .int .i64 0, .int .i64 0, .int .i64 0, .int .i64 0, .slice none 0 0] 27 (0, 0)) := HC5.out.box
          obtain ⟨z0, z1, z2, z3, z4, z5, z6, z7⟩ := cells_8f hbx
          rw [hnj] at z1
          have HNJ := Lib.hid hnj
          clear hnj hbx hres
          have HSTO : Hid (∀ (no' : Option Addr) (nc' : Nat) (w6 : World), Own (Ex (fun g => wc.heap.size ≤ g) (w5.alloc (.cells #[.int .i64 y] 3)) w6) w6 3 1 no' (j + 1) nc' (ns.map (Value.int .i64) ++ [.int .i64 y]) → Kp (fun g => wc.heap.size ≤ g) (w5.alloc (.cells #[.int .i64 y] 3)) w6 →
              (w6.cell? ⟨q, 1, none⟩ = some (.slice no j nc) ∧ w6.frozen? ⟨q, 1, none⟩ = false) ∧ CSt w r q ⟨v, ns ++ [y], op0, []⟩ ⟨no', nc', none, 0⟩ (w6.setCell ⟨q, 1, none⟩ (.slice no' (j + 1) nc')) ∧ Own (fun g => wc.heap.size ≤ g) (w6.setCell ⟨q, 1, none⟩ (.slice no' (j + 1) nc')) 3 1 no' (j + 1) nc' ((ns ++ [y]).map (Value.int .i64)) ∧ Kp (fun g => g = q) wc (w6.setCell ⟨q, 1, none⟩ (.slice no' (j + 1) nc'))) := Lib.hid (fun no' nc' w6 ho6 hk6 => by
            have hrq := HRQ.out
            have s5 := HKQ5.out.size
            have s6 : (w5.alloc (.cells #[.int .i64 y] 3)).heap.size = w5.heap.size + 1 := by simp
            have kal : Kp Noone w5 (w5.alloc (.cells #[.int .i64 y] 3)) := (Kp.refl Noone w5).alloc _
            have hC6 : CSt w r q ⟨v, ns, op0, []⟩ ⟨no, nc, none, 0⟩ w6 := by
              have h5 := HC5.out.keep kal
              exact ⟨h5.kp.trans' hk6 (fun x hx hF => by omega), hk6.heap h5.res (by omega), hk6.heap h5.box (by omega)⟩
            have hbx6 : w6.heap[q]? = some (.cells #[strV v, .slice no ns.length nc, .int .i64 0, .int .i64 0, .int .i64 0, .int .i64 0, .int .i64 0, .slice none 0 0] 27 (0, 0)) := hC6.box
            refine ⟨⟨?_, by simp [World.frozen?, hbx6]⟩, ?_, ?_, ?_⟩
            · rw [cell_of_row w6 q 1 _ _ _ hbx6, ← HNJ.out]; rfl
            · refine hC6.set HQ.out.1 HQ.out.2.1 1 _ ?_
              have := HNJ.out
              simp [cmdCs, this]
            · rw [List.map_append]
              have kq : Kp (fun g => g = q) w6 (w6.setCell ⟨q, 1, none⟩ (.slice no' (j + 1) nc')) := Kp.setCell (p := ⟨q, 1, none⟩) (Kp.refl (fun g => g = q) w6) (fun _ => rfl) _
              refine (ho6.mono (G := fun g => wc.heap.size ≤ g) (fun x hx h => ?_)).kp kq (fun x hx c => by omega)
              rcases h with h | h
              · exact h
              · omega
            · have k6 : Kp (fun g => g = q) wc w6 := (HKQ5.out.alloc (.cells #[.int .i64 y] 3)).trans' hk6 (fun x hx hF => by omega)
              exact k6.setCell (p := ⟨q, 1, none⟩) (fun _ => rfl) _)
          have HROW : Hid (Row (w5.alloc (.cells #[.int .i64 y] 3)) (some ⟨w5.heap.size, 0, none⟩) [.int .i64 y]) := Lib.hid (Row.ofHeap (heap_alloc_new w5 _))
          have hj48 : (j + 1) * 8 ≤ 140737488355328 := by omega
          go_wp2_with (at_builtin; refine wpList_append_gen _ rfl (.tmp 82) (.tmp 84) 22 rfl 3 i0 (.int .i64 0) 1 8 Tryd.underlying22 hi hz0 hz1 hz2 rfl no j nc rfl _ 1 1 rfl (fun g => wc.heap.size ≤ g) (ns.map (Value.int .i64)) (HO5.out.keep ((Kp.refl _ _).alloc _)) [.int .i64 y] rfl HROW.out (by intro u hu; simp at hu; subst hu; rfl) (by omega) (by unfold maxLen; omega) ?_)
          intro no' nc' w6 ho6 hk6
          obtain ⟨⟨hc6, hf6⟩, h7⟩ := HSTO.out no' nc' w6 ho6 hk6
          have H7 := Lib.hid h7
          clear ho6 hk6 h7 HSTO z0 z1 z2 z3 z4 z5 z6 z7
          go_wp2_with fail
          go_roundw
          case rel => exact ⟨j + 1, ns ++ [y], no', nc', rfl, hlt, Lib.hid HNS.out, Lib.hid H7.out.1, Lib.hid H7.out.2.1, Lib.hid H7.out.2.2⟩
          case measure => exact meas_down j k hlt (by omega)
      · obtain rfl : j = k := by omega
        have hnj : ns.length = j := by have := HO.out.1; rw [List.length_map] at this; omega
        have HNJ := Lib.hid hnj
        have hbx : wr.heap[q]? = some (.cells #[strV v, .slice no ns.length nc, .int .i64 0, .int .i64 0, .int .i64 0, .int .i64 0, .int .i64 0, .slice none 0 0] 27 (0, 0)) := HC.out.box
        obtain ⟨z0, z1, z2, z3, z4, z5, z6, z7⟩ := cells_8f hbx
        rw [HVV.out] at z0
        rw [hnj] at z1
        have hres : wr.heap[r]? = some (.cells #[.string ⟨#[]⟩, .slice none 0 0, .int .i64 0, .int .i64 0, .int .i64 0, .int .i64 0, .int .i64 0, .slice none 0 0] 27 (0, 0)) := HC.out.res
        have HRM : Hid (readF line = if v = vAsk then (if (opF (args.drop 1)).2 = 0 then (⟨v, ns, (opF (args.drop 1)).1, []⟩, 0) else (cmd0, (opF (args.drop 1)).2))
          else if v = vInject then match bytesF (args.getD 2 []) with
            | none => (cmd0, 21)
            | some d => (⟨v, ns, op0, d⟩, 0)
          else (⟨v, ns, op0, []⟩, 0)) := Lib.hid (by rw [HRN.out, hnum.out])
        have HNB := Lib.hid (numsF_bound hnum.out)
        have hv1 := HRD.out v (List.mem_cons_self ..)
        have HV1 := Lib.hid hv1
        have HOJ : Hid (Own (fun g => wc.heap.size ≤ g) wr 3 1 no ns.length nc (ns.map (Value.int .i64))) := Lib.hid (by rw [hnj]; exact HO.out)
        clear hlt hnj HRN hnum hv1 HO
        by_cases hask : v = vAsk
        · have q1 : (sv.toList == [97, 115, 107]) = true := str_eq sv _ (by rw [HSV2.out]; exact hask)
          have hinj : v ≠ vInject := by rw [hask]; decide
          have q2 : (sv.toList == [105, 110, 106, 101, 99, 116]) = false := str_ne sv _ (by rw [HSV2.out]; exact hinj)
          have hm1 : 1 ≤ args.length := by
            have h1 := HBF.out
            rw [hask, bounds_ask] at h1
            have h2 := HLH.out.1
            injection h1 with h3 h4
            omega
          have HRA : Hid (readF line = if (opF (args.drop 1)).2 = 0 then (⟨v, ns, (opF (args.drop 1)).1, []⟩, 0) else (cmd0, (opF (args.drop 1)).2)) := Lib.hid (by rw [HRM.out, if_pos hask])
          have hsub := HSR.out.sub 1 args.length hm1 (Nat.le_refl _)
          rw [List.take_length] at hsub
          have HSUB := Lib.hid hsub
          have hwl : ∀ x ∈ args.drop 1, x.length ≤ 4194304 := fun x hx => HRD.out x (List.mem_cons_of_mem _ (List.mem_of_mem_drop hx))
          have HWL := Lib.hid hwl
          clear hask hinj HRM hsub hwl
          by_cases h1 : args.length = 1
          case' pos =>
            have hop := fun W hS hL => op_any (some ⟨b, o1, none⟩) 0 0 (args.drop 1) W hS HWL.out hL
            have HS0 : Hid (SS wr (some ⟨b, o1, none⟩) 0 0 (args.drop 1)) := Lib.hid (by
              have := HSUB.out
              rw [if_pos h1, h1] at this
              exact this)
            have HA1 := Lib.hid h1
            rw [h1]
            clear h1
          case' neg =>
            have hop := fun W hS hL => op_any (some ⟨b, o1 + 1, none⟩) (args.length - 1) (args.length - 1) (args.drop 1) W hS HWL.out hL
            have HS0 : Hid (SS wr (some ⟨b, o1 + 1, none⟩) (args.length - 1) (args.length - 1) (args.drop 1)) := Lib.hid (by
              have := HSUB.out
              rw [if_neg h1] at this
              simpa [Addr.add] using this)
          all_goals (
            obtain ⟨⟨o, c⟩, hoc⟩ : ∃ x, opF (args.drop 1) = x := ⟨_, rfl⟩
            have HOC := Lib.hid hoc
            have HRB : Hid (readF line = if c = 0 then (⟨v, ns, o, []⟩, 0) else (cmd0, c)) := Lib.hid (by rw [HRA.out, hoc])
            clear hoc
            go_wp2_with fail
            refine (hop _ HS0.out (HL.out.keep HC.out.kp).laid).mono ?_
            rintro e w8 ⟨hto, k8⟩
            rw [HOC.out] at hto
            subst hto
            have HC8 := Lib.hid (HC.out.keep k8)
            have hbx8 : w8.heap[q]? = some (.cells #[strV v, .slice no ns.length nc, .int .i64 0, .int .i64 0, .int .i64 0, .int .i64 0, .int .i64 0, .slice none 0 0] 27 (0, 0)) := HC8.out.box
            have HC9 : Hid (CSt w r q ⟨v, ns, o, []⟩ ⟨no, nc, none, 0⟩ (putO w8 q o)) := Lib.hid (HC8.out.setOp HQ.out.1 HQ.out.2.1 o)
            have kq9 : Kp (fun g => g = q) w8 (putO w8 q o) :=
              (((((Kp.refl (fun g => g = q) w8).setCell (p := ⟨q, 2, none⟩) (fun _ => rfl) _).setCell (p := ⟨q, 3, none⟩) (fun _ => rfl) _).setCell (p := ⟨q, 4, none⟩) (fun _ => rfl) _).setCell (p := ⟨q, 5, none⟩) (fun _ => rfl) _).setCell (p := ⟨q, 6, none⟩) (fun _ => rfl) _
            have HO9 : Hid (Own (fun g => wc.heap.size ≤ g) (putO w8 q o) 3 1 no ns.length nc (ns.map (Value.int .i64))) := Lib.hid ((HOJ.out.keep k8).kp kq9 (fun x hx c => by have := HRQ.out; omega))
            clear z0 z1 z2 z3 z4 z5 z6 z7 k8 kq9 hres hop HSUB HWL
            go_upto_region 21 with (refine wpList_store_op rfl (.tmp 97) (.tmp 95) rfl q o (by rfl) (by rfl) hbx8 ?_)
            generalize putO w8 q o = w9 at *
            have hbx : w9.heap[q]? = some (.cells #[strV v, .slice no ns.length nc, .int .i64 o.kind, .int .i64 o.reg, .int .i64 o.to, .int .i64 o.re, .int .i64 o.im, .slice none 0 0] 27 (0, 0)) := HC9.out.box
            obtain ⟨z0, z1, z2, z3, z4, z5, z6, z7⟩ := cells_8f hbx
            rw [HVV.out] at z0
            rw [HNJ.out] at z1
            have hres : w9.heap[r]? = some (.cells #[.string ⟨#[]⟩, .slice none 0 0, .int .i64 0, .int .i64 0, .int .i64 0, .int .i64 0, .int .i64 0, .slice none 0 0] 27 (0, 0)) := HC9.out.res
            clear hbx hbx8
            by_cases hc : c = 0
            · subst hc
              have HR : Hid (readF line = (⟨v, ns, o, []⟩, 0)) := Lib.hid (by rw [HRB.out, if_pos rfl])
              have hok := (words_opF HOC.out).1
              have HOB := Lib.hid (okOp_bounds hok)
              clear hok
              go_wp2_with (refine wpList_store_cmd rfl (.tmp 2) (.tmp 113) rfl r ⟨v, ns, o, []⟩ ⟨no, nc, none, 0⟩ (by rfl) (by go_simp; unfold cmdV cmdCs; simp only []; rw [HVV.out, HNJ.out]; rfl) hres ?_)
              exact bodyPost_ret (read_results _ _ r _ _ 0 rfl rfl (putC_heap _ _ hres)) rfl (lineTo_fin HR.out HC9.out HQ.out.2.2 HRQ.out.1 HO9.out (Own.nil _ _ _ _ _) HV1.out (by simp) (by rw [HNJ.out]; omega) HNB.out HOB.out)
            · have HR : Hid (readF line = (cmd0, c)) := Lib.hid (by rw [HRB.out, if_neg hc])
              go_wp2_with fail
              go_step3
              refine ⟨rfl, ?_⟩
              go_wp2_with (refine wpList_store_cmd rfl (.tmp 2) (.tmp 114) rfl r cmd0 loc0 (by rfl) (by rfl) hres ?_)
              exact bodyPost_ret (read_results _ _ r cmd0 loc0 c rfl rfl (putC_heap cmd0 loc0 hres)) rfl ⟨putC_kp HC9.out.kp HQ.out.2.2 cmd0 loc0, loc0, by rw [HR.out], by rw [HR.out]; exact CmdIn.zero _ _⟩)
        by_cases hinj : v = vInject
        · have q1 : (sv.toList == [97, 115, 107]) = false := str_ne sv _ (by rw [HSV2.out]; exact hask)
          have q2 : (sv.toList == [105, 110, 106, 101, 99, 116]) = true := str_eq sv _ (by rw [HSV2.out]; exact hinj)
          have hm3 : args.length = 3 := Classical.byContradiction fun c => of_decide_eq_false hB.out ⟨hinj, c⟩
          have HRA : Hid (readF line = match bytesF (getW args 2) with
            | none => (cmd0, 21)
            | some d => (⟨v, ns, op0, d⟩, 0)) := Lib.hid (by rw [HRM.out, if_neg hask, if_pos hinj]; rfl)
          obtain ⟨b2, off2, he2, hb2, hcell⟩ := HSR.out.at (k := 2) (by omega)
          obtain ⟨rfl, rfl⟩ : b = b2 ∧ o1 = off2 := by simpa using he2
          have hx2 : (getW args 2).length ≤ 4194304 := by
            unfold getW
            rw [List.getD_eq_getElem?_getD]
            cases hj : args[2]? with
            | none => simp
            | some x => exact HRD.out x (List.mem_cons_of_mem _ (List.mem_of_getElem? hj))
          have hm2z : (2 : Int) < (args.length : Int) := by omega
          clear he2 hask hinj HRM
          unfold strV at hcell
          generalize getW args 2 = x2 at *
          have hsx : (⟨x2.toArray⟩ : ByteArray).size ≤ 4194304 := by rw [ba_size]; exact hx2
          have hby := fun W => bytes_any (⟨x2.toArray⟩ : ByteArray) W hsx
          have HDX : Hid ((⟨x2.toArray⟩ : ByteArray).data.toList = x2) := Lib.hid (by simp)
          generalize (⟨x2.toArray⟩ : ByteArray) = sx at *
          go_wp2_with fail
          refine (hby _).mono ?_
          rintro e w8 ⟨k8, hto⟩
          rw [HDX.out] at hto
          have HC8 := Lib.hid (HC.out.keep k8)
          have HO8 := Lib.hid (HOJ.out.keep k8)
          have HWS : Hid (wr.heap.size ≤ w8.heap.size ∧ wc.heap.size ≤ wr.heap.size) := Lib.hid ⟨k8.size, HKQ.out.size⟩
          have hbx8 : w8.heap[q]? = some (.cells #[strV v, .slice no ns.length nc, .int .i64 0, .int .i64 0, .int .i64 0, .int .i64 0, .int .i64 0, .slice none 0 0] 27 (0, 0)) := HC8.out.box
          have hf7 : w8.frozen? ⟨q, 7, none⟩ = false := by simp [World.frozen?, hbx8]
          clear z0 z1 z2 z3 z4 z5 z6 z7 k8 hres hcell
          obtain ⟨z0, z1, z2, z3, z4, z5, z6, z7⟩ := cells_8f hbx8
          rw [HVV.out] at z0
          rw [HNJ.out] at z1
          rcases hto with ⟨hn, rfl⟩ | ⟨d, bo, bc, hd, rfl, hod⟩
          · have HR : Hid (readF line = (cmd0, 21)) := Lib.hid (by rw [HRA.out, hn])
            have HC9 : Hid (CSt w r q ⟨v, ns, op0, []⟩ ⟨no, nc, none, 0⟩ (w8.setCell ⟨q, 7, none⟩ (.slice none 0 0))) := Lib.hid (HC8.out.set HQ.out.1 HQ.out.2.1 7 _ rfl)
            clear hn hbx8
            go_upto_region 24 with fail
            generalize w8.setCell ⟨q, 7, none⟩ (.slice none 0 0) = w9 at *
            have hres : w9.heap[r]? = some (.cells #[.string ⟨#[]⟩, .slice none 0 0, .int .i64 0, .int .i64 0, .int .i64 0, .int .i64 0, .int .i64 0, .slice none 0 0] 27 (0, 0)) := HC9.out.res
            go_wp2_with fail
            go_step3
            refine ⟨rfl, ?_⟩
            go_wp2_with (refine wpList_store_cmd rfl (.tmp 2) (.tmp 114) rfl r cmd0 loc0 (by rfl) (by rfl) hres ?_)
            exact bodyPost_ret (read_results _ _ r cmd0 loc0 21 rfl rfl (putC_heap cmd0 loc0 hres)) rfl ⟨putC_kp HC9.out.kp HQ.out.2.2 cmd0 loc0, loc0, by rw [HR.out], by rw [HR.out]; exact CmdIn.zero _ _⟩
          · have HR : Hid (readF line = (⟨v, ns, op0, d⟩, 0)) := Lib.hid (by rw [HRA.out, hd])
            have hdl : d.length ≤ 4194304 := by
              have h1 := congrArg List.length (hex_bytes hd)
              have h2 := hexL_len d
              simp only [List.length_cons] at h1
              omega
            have HDL := Lib.hid hdl
            have HC9 : Hid (CSt w r q ⟨v, ns, op0, d⟩ ⟨no, nc, bo, bc⟩ (w8.setCell ⟨q, 7, none⟩ (.slice bo d.length bc))) := Lib.hid (HC8.out.set HQ.out.1 HQ.out.2.1 7 _ rfl)
            have kq9 : Kp (fun g => g = q) w8 (w8.setCell ⟨q, 7, none⟩ (.slice bo d.length bc)) := Kp.setCell (p := ⟨q, 7, none⟩) (Kp.refl (fun g => g = q) w8) (fun _ => rfl) _
            have HO9 : Hid (Own (fun g => wc.heap.size ≤ g) (w8.setCell ⟨q, 7, none⟩ (.slice bo d.length bc)) 3 1 no ns.length nc (ns.map (Value.int .i64))) := Lib.hid (HO8.out.kp kq9 (fun x hx c => by have := HRQ.out; omega))
            have HD9 : Hid (Own (fun g => wc.heap.size ≤ g) (w8.setCell ⟨q, 7, none⟩ (.slice bo d.length bc)) 5 1 bo d.length bc (bv d)) := Lib.hid ((hod.mono (G := fun g => wc.heap.size ≤ g) (fun x hx h => by have := HWS.out; omega)).kp kq9 (fun x hx c => by have := HRQ.out; omega))
            clear hd hbx8 hod kq9 hdl
            go_upto_region 24 with fail
            generalize w8.setCell ⟨q, 7, none⟩ (.slice bo d.length bc) = w9 at *
            clear z0 z1 z2 z3 z4 z5 z6 z7 hf7
            have hbx : w9.heap[q]? = some (.cells #[strV v, .slice no ns.length nc, .int .i64 0, .int .i64 0, .int .i64 0, .int .i64 0, .int .i64 0, .slice bo d.length bc] 27 (0, 0)) := HC9.out.box
            obtain ⟨z0, z1, z2, z3, z4, z5, z6, z7⟩ := cells_8f hbx
            rw [HVV.out] at z0
            rw [HNJ.out] at z1
            clear hbx
            have hres : w9.heap[r]? = some (.cells #[.string ⟨#[]⟩, .slice none 0 0, .int .i64 0, .int .i64 0, .int .i64 0, .int .i64 0, .int .i64 0, .slice none 0 0] 27 (0, 0)) := HC9.out.res
            go_wp2_with (refine wpList_store_cmd rfl (.tmp 2) (.tmp 113) rfl r ⟨v, ns, op0, d⟩ ⟨no, nc, bo, bc⟩ (by rfl) (by go_simp; unfold cmdV cmdCs; simp only []; rw [HVV.out, HNJ.out]; rfl) hres ?_)
            exact bodyPost_ret (read_results _ _ r _ _ 0 rfl rfl (putC_heap _ _ hres)) rfl (lineTo_fin HR.out HC9.out HQ.out.2.2 HRQ.out.1 HO9.out HD9.out HV1.out HDL.out (by rw [HNJ.out]; omega) HNB.out (by decide))
        · have q1 : (sv.toList == [97, 115, 107]) = false := str_ne sv _ (by rw [HSV2.out]; exact hask)
          have q2 : (sv.toList == [105, 110, 106, 101, 99, 116]) = false := str_ne sv _ (by rw [HSV2.out]; exact hinj)
          have HR : Hid (readF line = (⟨v, ns, op0, []⟩, 0)) := Lib.hid (by rw [HRM.out, if_neg hask, if_neg hinj])
          clear hask hinj HRM
          go_wp2_with (refine wpList_store_cmd rfl (.tmp 2) (.tmp 113) rfl r ⟨v, ns, op0, []⟩ ⟨no, nc, none, 0⟩ (by rfl) (by go_simp; unfold cmdV cmdCs; simp only []; rw [HVV.out, HNJ.out]; rfl) hres ?_)
          exact bodyPost_ret (read_results _ _ r _ _ 0 rfl rfl (putC_heap _ _ hres)) rfl (lineTo_fin HR.out HC.out HQ.out.2.2 HRQ.out.1 HOJ.out (Own.nil _ _ _ _ _) HV1.out (by simp) (by rw [HNJ.out]; omega) HNB.out (by decide))

end Go.Proofs.YtfinbppmkffbhaaDoor
