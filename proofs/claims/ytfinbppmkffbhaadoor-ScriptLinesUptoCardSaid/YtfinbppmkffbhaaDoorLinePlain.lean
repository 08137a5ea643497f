/-
  PLAIN: a command's line, and back. No program.
-/
import Derived.Test.YtfinbppmkffbhaaDoorScriptPlain
namespace Go.Proofs.YtfinbppmkffbhaaDoor
open Go.Lib

def vAsk : List UInt8 := [97, 115, 107]
def vInject : List UInt8 := [105, 110, 106, 101, 99, 116]
def vEvents : List UInt8 := [101, 118, 101, 110, 116, 115]
def vOnes : List (List UInt8) := [[100, 101, 108, 105, 118, 101, 114], [108, 111, 115, 101], [100, 111, 117, 98, 108, 101], [115, 116, 97, 114, 116], [114, 117, 105, 110], [106, 111, 105, 110], [97, 110, 101, 119], [99, 97, 108, 109], [115, 116, 97, 116, 101], vAsk]
def vTwos : List (List UInt8) := [[102, 117, 115, 101], [115, 101, 110, 100], vInject]
def vTens : List (List UInt8) := [[116, 105, 109, 101], [99, 114, 97, 115, 104], [99, 104, 97, 110, 103, 101]]
def vWorld : List UInt8 := [119, 111, 114, 108, 100]
def vConfig : List UInt8 := [99, 111, 110, 102, 105, 103]
/-- How many numbers stand behind a verb. -/
def boundsF (v : List UInt8) : Nat × Nat × Bool :=
  if v = vEvents then (0, 0, true) else if v ∈ vOnes then (1, 1, true) else if v ∈ vTwos then (2, 2, true) else if v ∈ vTens then (1, 10, true)
  else if v = vWorld then (2, 8, true) else if v = vConfig then (8, 8, true) else (0, 0, false)

theorem bounds_ask : boundsF vAsk = (1, 1, true) := by decide
theorem bounds_inject : boundsF vInject = (2, 2, true) := by decide
theorem bounds_no {v : List UInt8} (h : (boundsF v).2.2 = true) : (32 : UInt8) ∉ v ∧ (10 : UInt8) ∉ v := by
  have key : ∀ l : List (List UInt8), (l.all fun v => !v.contains 32 && !v.contains 10) = true → v ∈ l → (32 : UInt8) ∉ v ∧ (10 : UInt8) ∉ v := fun l hl hv => by
    have := List.all_eq_true.1 hl v hv
    simpa using this
  unfold boundsF at h
  split at h
  · rename_i e; subst e; decide
  split at h
  · rename_i e; exact key vOnes (by decide) e
  split at h
  · rename_i e; exact key vTwos (by decide) e
  split at h
  · rename_i e; exact key vTens (by decide) e
  split at h
  · rename_i e; subst e; decide
  split at h
  · rename_i e; subst e; decide
  · cases h

def hexD (k : Nat) : UInt8 := if k < 10 then UInt8.ofNat (48 + k) else UInt8.ofNat (87 + k)
def hexL : List UInt8 → List UInt8
  | [] => []
  | b :: r => hexD (b.toNat / 16) :: hexD (b.toNat % 16) :: hexL r
/-- A digit's worth. -/
def hexV (c : UInt8) : Int := if 48 ≤ c.toNat ∧ c.toNat ≤ 57 then (c.toNat : Int) - 48 else if 97 ≤ c.toNat ∧ c.toNat ≤ 102 then (c.toNat : Int) - 87 else -1
def pairsF : List UInt8 → Option (List UInt8)
  | [] => some []
  | [_] => none
  | a :: b :: r => if hexV a < 0 ∨ hexV b < 0 then none else match pairsF r with
    | none => none
    | some t => some (UInt8.ofNat (hexV a * 16 + hexV b).toNat :: t)
def bytesF (s : List UInt8) : Option (List UInt8) :=
  match s with
  | [] => none
  | c :: r => if s.length % 2 ≠ 1 ∨ c ≠ 120 then none else pairsF r

theorem hexV_D (k : Nat) (h : k < 16) : hexV (hexD k) = k := by
  have : ∀ k, k < 16 → hexV (hexD k) = (k : Int) := by decide
  exact this k h
theorem hexD_V (c : UInt8) (h : 0 ≤ hexV c) : hexD (hexV c).toNat = c ∧ hexV c < 16 := by
  unfold hexV at h ⊢
  split
  · rename_i d
    refine ⟨?_, by omega⟩
    unfold hexD
    rw [if_pos (by omega)]
    apply UInt8.toNat_inj.1
    have : (48 + ((c.toNat : Int) - 48).toNat) = c.toNat := by omega
    rw [this]
    simp
  · split
    · rename_i d1 d
      refine ⟨?_, by omega⟩
      unfold hexD
      rw [if_neg (by omega)]
      apply UInt8.toNat_inj.1
      have : (87 + ((c.toNat : Int) - 87).toNat) = c.toNat := by omega
      rw [this]
      simp
    · rename_i d1 d2
      rw [if_neg d1, if_neg d2] at h
      omega
theorem hexD_no (k : Nat) (h : k < 16) : hexD k ≠ 32 ∧ hexD k ≠ 10 := by
  have : ∀ k, k < 16 → hexD k ≠ 32 ∧ hexD k ≠ 10 := by decide
  exact this k h
theorem hexL_no (d : List UInt8) : (32 : UInt8) ∉ hexL d ∧ (10 : UInt8) ∉ hexL d := by
  induction d with
  | nil => simp [hexL]
  | cons b r ih =>
    have hb := b.toNat_lt
    have h1 := hexD_no (b.toNat / 16) (by omega)
    have h2 := hexD_no (b.toNat % 16) (by omega)
    unfold hexL
    simp only [List.mem_cons, not_or]
    exact ⟨⟨h1.1.symm, h2.1.symm, ih.1⟩, ⟨h1.2.symm, h2.2.symm, ih.2⟩⟩
theorem pairs_hex (d : List UInt8) : pairsF (hexL d) = some d := by
  induction d with
  | nil => rfl
  | cons b r ih =>
    have hb := b.toNat_lt
    have h1 := hexV_D (b.toNat / 16) (by omega)
    have h2 := hexV_D (b.toNat % 16) (by omega)
    unfold hexL pairsF
    rw [if_neg (by omega), ih, h1, h2]
    have : (((b.toNat / 16 : Nat) : Int) * 16 + ((b.toNat % 16 : Nat) : Int)).toNat = b.toNat := by omega
    rw [this]
    simp
theorem hex_pairs (l d : List UInt8) (h : pairsF l = some d) : hexL d = l := by
  induction l using pairsF.induct generalizing d with
  | case1 => injection h with h; subst h; rfl
  | case2 => cases h
  | case3 a b r hn =>
    unfold pairsF at h
    rw [if_pos hn] at h
    cases h
  | case4 a b r hn hp ih =>
    unfold pairsF at h
    rw [if_neg hn, hp] at h
    cases h
  | case5 a b r hn t hp ih =>
    unfold pairsF at h
    rw [if_neg hn, hp] at h
    injection h with h
    subst h
    have ha := hexD_V a (by omega)
    have hb := hexD_V b (by omega)
    have e : (UInt8.ofNat (hexV a * 16 + hexV b).toNat).toNat = (hexV a * 16 + hexV b).toNat := by
      simp only [UInt8.toNat_ofNat']
      omega
    unfold hexL
    rw [e, show (hexV a * 16 + hexV b).toNat / 16 = (hexV a).toNat by omega, show (hexV a * 16 + hexV b).toNat % 16 = (hexV b).toNat by omega, ha.1, hb.1, ih t hp]
theorem hexL_len (d : List UInt8) : (hexL d).length = 2 * d.length := by
  induction d with
  | nil => rfl
  | cons b r ih => simp only [hexL, List.length_cons, ih]; omega
theorem bytes_hex (d : List UInt8) : bytesF (120 :: hexL d) = some d := by
  have h := hexL_len d
  unfold bytesF
  simp only []
  rw [if_neg (by rw [List.length_cons, h]; simp), pairs_hex]
theorem hex_bytes {s d : List UInt8} (h : bytesF s = some d) : 120 :: hexL d = s := by
  unfold bytesF at h
  split at h
  · cases h
  · rename_i c r
    split at h
    · cases h
    · rename_i hc
      have h1 : c = 120 := Classical.byContradiction fun e => hc (Or.inr e)
      rw [h1, hex_pairs r d h]

/-- What stands behind the numbers. -/
def tailW (c : CmdV) : List (List UInt8) := if c.verb = vAsk then wordsW c.op else if c.verb = vInject then [120 :: hexL c.data] else []
def lineW (c : CmdV) : List (List UInt8) := c.verb :: (c.nums.map itoa ++ tailW c)
def lineL (c : CmdV) : List UInt8 := joinF 32 (lineW c)
def lineF (c : CmdV) : List UInt8 × Int :=
  if (boundsF c.verb).2.2 = false ∨ c.nums.length < (boundsF c.verb).1 ∨ (boundsF c.verb).2.1 < c.nums.length then ([], 90)
  else if c.verb ≠ vAsk ∧ c.op ≠ op0 ∨ c.verb ≠ vInject ∧ 0 < c.data.length then ([], 1)
  else if c.verb = vAsk ∧ okOp c.op = false then ([], 22)
  else (lineL c, 0)

/-- Numbers, as far as all are. -/
def numsF : List (List UInt8) → Option (List Int)
  | [] => some []
  | w :: r => match numF w with
    | none => none
    | some n => match numsF r with
      | none => none
      | some t => some (n :: t)
theorem numsF_map (ns : List Int) (h : ∀ n ∈ ns, -9223372036854775808 ≤ n ∧ n ≤ 9223372036854775807) : numsF (ns.map itoa) = some ns := by
  induction ns with
  | nil => rfl
  | cons n r ih =>
    have hn := h n (List.mem_cons_self ..)
    rw [List.map_cons, numsF, numF_itoa n hn.1 hn.2, ih (fun m hm => h m (List.mem_cons_of_mem _ hm))]
theorem map_numsF {ws : List (List UInt8)} {ns : List Int} (h : numsF ws = some ns) : ns.map itoa = ws := by
  induction ws generalizing ns with
  | nil => injection h with h; subst h; rfl
  | cons w r ih =>
    unfold numsF at h
    split at h
    · cases h
    · rename_i n hn
      split at h
      · cases h
      · rename_i t ht
        injection h with h
        subst h
        rw [List.map_cons, numF_some hn, ih ht]
theorem numsF_bound {ws : List (List UInt8)} {ns : List Int} (h : numsF ws = some ns) : ∀ n ∈ ns, -9223372036854775808 ≤ n ∧ n ≤ 9223372036854775807 := by
  induction ws generalizing ns with
  | nil => injection h with h; subst h; intro n hn; cases hn
  | cons w r ih =>
    unfold numsF at h
    split at h
    · cases h
    · rename_i n hn
      split at h
      · cases h
      · rename_i t ht
        injection h with h
        subst h
        intro m hm
        rcases List.mem_cons.1 hm with rfl | hm
        · exact numF_bound hn
        · exact ih ht m hm

/-- How many words behind the verb are numbers. -/
def countF (v : List UInt8) (n : Nat) : Nat := if v = vAsk ∨ v = vInject then min n (boundsF v).1 else n
/-- The command of words. -/
def readW (v : List UInt8) (args : List (List UInt8)) : CmdV × Int :=
  if (boundsF v).2.2 = false then (cmd0, 90)
  else if countF v args.length < (boundsF v).1 ∨ (boundsF v).2.1 < countF v args.length ∨ (v = vInject ∧ args.length ≠ 3) then (cmd0, 90)
  else match numsF (args.take (countF v args.length)) with
    | none => (cmd0, 21)
    | some ns =>
      if v = vAsk then (if (opF (args.drop 1)).2 = 0 then (⟨v, ns, (opF (args.drop 1)).1, []⟩, 0) else (cmd0, (opF (args.drop 1)).2))
      else if v = vInject then match bytesF (args.getD 2 []) with
        | none => (cmd0, 21)
        | some d => (⟨v, ns, op0, d⟩, 0)
      else (⟨v, ns, op0, []⟩, 0)
def readF (line : List UInt8) : CmdV × Int := readW ((splitF 32 line).headD []) (splitF 32 line).tail

theorem wordOf_no (k : Int) : (32 : UInt8) ∉ wordOf k ∧ (10 : UInt8) ∉ wordOf k := by
  unfold wordOf
  split
  · decide
  split
  · decide
  split
  · decide
  split
  · decide
  split
  · decide
  split
  · decide
  split
  · decide
  · simp
theorem wordsW_no (o : OpV) : ∀ w ∈ wordsW o, (32 : UInt8) ∉ w ∧ (10 : UInt8) ∉ w := by
  have hi : ∀ n, (32 : UInt8) ∉ itoa n ∧ (10 : UInt8) ∉ itoa n := fun n => ⟨itoa_no 32 (by decide) (by decide) n, itoa_no 10 (by decide) (by decide) n⟩
  have hs : ∀ n m, (32 : UInt8) ∉ showL n m ∧ (10 : UInt8) ∉ showL n m := fun n m => ⟨show_no 32 (by decide) (by decide) (by decide) (by decide) n m, show_no 10 (by decide) (by decide) (by decide) (by decide) n m⟩
  intro w hw
  unfold wordsW at hw
  rcases List.mem_cons.1 hw with rfl | hw
  · exact wordOf_no _
  rcases List.mem_cons.1 hw with rfl | hw
  · exact hi _
  rcases List.mem_append.1 hw with hw | hw
  · split at hw
    · simp at hw; subst hw; exact hi _
    · cases hw
  · split at hw
    · simp at hw; subst hw; exact hs _ _
    · cases hw
theorem lineW_no (c : CmdV) (hv : (boundsF c.verb).2.2 = true) : ∀ w ∈ lineW c, (32 : UInt8) ∉ w ∧ (10 : UInt8) ∉ w := by
  intro w hw
  unfold lineW at hw
  rcases List.mem_cons.1 hw with rfl | hw
  · exact bounds_no hv
  rcases List.mem_append.1 hw with hw | hw
  · obtain ⟨n, -, rfl⟩ := List.mem_map.1 hw
    exact ⟨itoa_no 32 (by decide) (by decide) n, itoa_no 10 (by decide) (by decide) n⟩
  · unfold tailW at hw
    split at hw
    · exact wordsW_no _ w hw
    split at hw
    · simp at hw
      subst hw
      have := hexL_no c.data
      simp only [List.mem_cons, not_or]
      exact ⟨⟨by decide, this.1⟩, ⟨by decide, this.2⟩⟩
    · cases hw
theorem lineF_ok {c : CmdV} {s : List UInt8} (h : lineF c = (s, 0)) :
    (boundsF c.verb).2.2 = true ∧ (boundsF c.verb).1 ≤ c.nums.length ∧ c.nums.length ≤ (boundsF c.verb).2.1 ∧ (c.verb ≠ vAsk → c.op = op0) ∧ (c.verb ≠ vInject → c.data = []) ∧ (c.verb = vAsk → okOp c.op = true) ∧ s = lineL c := by
  unfold lineF at h
  split at h
  · injection h with h1 h2; omega
  split at h
  · injection h with h1 h2; omega
  split at h
  · injection h with h1 h2; omega
  rename_i a b d
  injection h with h1 h2
  simp only [not_or, Bool.not_eq_false, not_and, Classical.not_not] at a b d
  refine ⟨a.1, by omega, by omega, b.1, fun e => ?_, fun e => ?_, h1.symm⟩
  · exact List.eq_nil_of_length_eq_zero (by have := b.2 e; omega)
  · have := d e
    simpa using this
/-- What Line writes Read gives back. -/
theorem read_line {c : CmdV} {s : List UInt8} (h : lineF c = (s, 0)) (hn : ∀ n ∈ c.nums, -9223372036854775808 ≤ n ∧ n ≤ 9223372036854775807) : readF s = (c, 0) := by
  obtain ⟨h1, h2, h3, h4, h5, h6, rfl⟩ := lineF_ok h
  have hs : splitF 32 (lineL c) = lineW c := split_join 32 (lineW c) (by simp [lineW]) (fun w hw => (lineW_no c h1 w hw).1)
  unfold readF
  rw [hs]
  obtain ⟨v, ns, o, d⟩ := c
  simp only at h1 h2 h3 h4 h5 h6 hn
  show readW v (ns.map itoa ++ tailW ⟨v, ns, o, d⟩) = _
  unfold readW
  rw [if_neg (by rw [h1]; simp)]
  by_cases ha : v = vAsk
  · have hl : ns.length = 1 := by rw [ha, bounds_ask] at h2 h3; simp only at h2 h3; omega
    have hi : v ≠ vInject := by rw [ha]; decide
    have hc : ∀ k, countF v (1 + k) = 1 := fun k => by unfold countF; rw [if_pos (Or.inl ha), ha, bounds_ask]; simp only; omega
    have ht : tailW ⟨v, ns, o, d⟩ = wordsW o := by unfold tailW; rw [if_pos ha]
    rw [ht]
    have hlen : (ns.map itoa ++ wordsW o).length = 1 + (wordsW o).length := by rw [List.length_append, List.length_map, hl]
    have hb : (boundsF v).1 = 1 ∧ (boundsF v).2.1 = 1 := by rw [ha, bounds_ask]; exact ⟨rfl, rfl⟩
    rw [hlen, hc, if_neg (by rw [hb.1, hb.2]; simp [hi]), List.take_left' (by rw [List.length_map, hl]), numsF_map ns hn]
    simp only []
    rw [if_pos ha, List.drop_left' (by rw [List.length_map, hl]), opF_words o (h6 ha)]
    simp only [if_true]
    rw [h5 hi]
  · by_cases hi : v = vInject
    · have hl : ns.length = 2 := by rw [hi, bounds_inject] at h2 h3; simp only at h2 h3; omega
      have ht : tailW ⟨v, ns, o, d⟩ = [120 :: hexL d] := by unfold tailW; rw [if_neg ha, if_pos hi]
      rw [ht]
      have hlen : (ns.map itoa ++ [120 :: hexL d]).length = 3 := by rw [List.length_append, List.length_map, hl]; rfl
      have hc : countF v 3 = 2 := by unfold countF; rw [if_pos (Or.inr hi), hi, bounds_inject]; rfl
      have hb : (boundsF v).1 = 2 ∧ (boundsF v).2.1 = 2 := by rw [hi, bounds_inject]; exact ⟨rfl, rfl⟩
      have hg : (ns.map itoa ++ [120 :: hexL d]).getD 2 [] = 120 :: hexL d := by
        rw [List.getD_eq_getElem?_getD, List.getElem?_append_right (by rw [List.length_map]; omega), List.length_map, hl]
        rfl
      rw [hlen, hc, if_neg (by rw [hb.1, hb.2]; simp), List.take_left' (by rw [List.length_map, hl]), numsF_map ns hn]
      simp only []
      rw [if_neg ha, if_pos hi, hg, bytes_hex]
      simp only []
      rw [h4 ha]
    · have ht : tailW ⟨v, ns, o, d⟩ = [] := by unfold tailW; rw [if_neg ha, if_neg hi]
      have hc : ∀ k, countF v k = k := fun k => by unfold countF; rw [if_neg (by simp [ha, hi])]
      rw [ht, List.append_nil, hc, List.length_map, if_neg (by simp [hi]; omega), List.take_of_length_le (by rw [List.length_map]; exact Nat.le_refl _), numsF_map ns hn]
      simp only []
      rw [if_neg ha, if_neg hi, h4 ha, h5 hi]
/-- What Read takes Line writes again. -/
theorem line_read {s : List UInt8} {c : CmdV} (h : readF s = (c, 0)) : lineF c = (s, 0) ∧ (∀ n ∈ c.nums, -9223372036854775808 ≤ n ∧ n ≤ 9223372036854775807) ∧ (c.verb = vAsk → opF ((splitF 32 s).drop 2) = (c.op, 0)) ∧ c.nums.length ≤ 10 := by
  have hj := join_split 32 s
  obtain ⟨v, args, e⟩ : ∃ v args, splitF 32 s = v :: args := by
    cases hh : splitF 32 s with
    | nil => exact (splitF_ne 32 s hh).elim
    | cons v args => exact ⟨v, args, rfl⟩
  unfold readF at h
  rw [e] at h hj ⊢
  simp only [List.headD_cons, List.tail_cons] at h
  unfold readW at h
  split at h
  · injection h with h1 h2; omega
  rename_i hb
  split at h
  · injection h with h1 h2; omega
  rename_i hcnt
  split at h
  · injection h with h1 h2; omega
  rename_i ns hns
  have hm := map_numsF hns
  have hbd := numsF_bound hns
  have hnl : ns.length = countF v args.length := by
    have := congrArg List.length hm
    rw [List.length_map, List.length_take] at this
    have hle : countF v args.length ≤ args.length := by unfold countF; split <;> omega
    omega
  have hv : (boundsF v).2.2 = true := by simpa using hb
  have hmost : (boundsF v).2.1 ≤ 10 := by unfold boundsF; repeat' split <;> first | exact (by decide) | skip
  simp only [not_or, Nat.not_lt] at hcnt
  have fin : ∀ o d, (v ≠ vAsk → o = op0) → (v ≠ vInject → d = []) → (v = vAsk → okOp o = true) → args = ns.map itoa ++ tailW ⟨v, ns, o, d⟩ → lineF ⟨v, ns, o, d⟩ = (s, 0) := by
    intro o d ho hd hk ha
    unfold lineF
    simp only []
    rw [if_neg (by rw [hv, hnl]; simp only [Bool.true_eq_false, false_or, not_or, Nat.not_lt]; exact ⟨hcnt.1, hcnt.2.1⟩),
      if_neg (by
        intro c
        rcases c with ⟨c1, c2⟩ | ⟨c1, c2⟩
        · exact c2 (ho c1)
        · rw [hd c1] at c2; simp at c2),
      if_neg (by intro c; rw [hk c.1] at c; exact absurd c.2 (by simp))]
    unfold lineL lineW
    simp only []
    rw [← ha, hj]
  split at h
  · rename_i hask
    split at h
    · rename_i hop
      injection h with h1 h2
      subst h1
      obtain ⟨w1, w2⟩ := words_opF (ws := args.drop 1) (o := (opF (args.drop 1)).1) (by rw [← hop])
      have hct : countF v args.length = 1 := by
        have h2 := hcnt.1
        unfold countF at h2 ⊢
        rw [if_pos (Or.inl hask), hask, bounds_ask] at h2 ⊢
        simp only at h2 ⊢
        omega
      refine ⟨fin _ _ (fun c => (c hask).elim) (fun _ => rfl) (fun _ => w1) ?_, hbd, fun _ => ?_, by simp only; omega⟩
      · unfold tailW
        simp only []
        rw [if_pos hask, w2, hm, hct, List.take_append_drop]
      · simp only [List.drop_succ_cons]
        rw [← hop]
    · rename_i hop
      injection h with h1 h2
      exact (hop h2).elim
  · rename_i hask
    split at h
    · rename_i hinj
      split at h
      · injection h with h1 h2; omega
      rename_i d hd
      injection h with h1 h2
      subst h1
      have h3 : args.length = 3 := Classical.byContradiction fun c => hcnt.2.2 ⟨hinj, c⟩
      have hct : countF v args.length = 2 := by
        unfold countF
        rw [if_pos (Or.inr hinj), hinj, bounds_inject, h3]
        rfl
      refine ⟨fin _ _ (fun _ => rfl) (fun c => (c hinj).elim) (fun c => (hask c).elim) ?_, hbd, fun c => (hask c).elim, by simp only; omega⟩
      unfold tailW
      simp only []
      rw [if_neg hask, if_pos hinj, hm, hct, hex_bytes hd]
      have hd2 : args.drop 2 = [args.getD 2 []] := by
        apply List.ext_getElem
        · simp [h3]
        · intro i a b
          simp at b
          subst b
          simp [List.getD_eq_getElem?_getD, h3]
      rw [← hd2, List.take_append_drop]
    · rename_i hinj
      injection h with h1 h2
      subst h1
      have hct : countF v args.length = args.length := by
        unfold countF
        rw [if_neg (by simp [hask, hinj])]
      refine ⟨fin _ _ (fun _ => rfl) (fun _ => rfl) (fun c => (hask c).elim) ?_, hbd, fun c => (hask c).elim, by simp only; omega⟩
      unfold tailW
      simp only []
      rw [if_neg hask, if_neg hinj, List.append_nil, hm, hct, List.take_length]
theorem readF_bad {s : List UInt8} (h : (readF s).2 ≠ 0) : (readF s).1 = cmd0 ∧ ((readF s).2 = 90 ∨ (readF s).2 = 21 ∨ (readF s).2 = 22 ∨ (readF s).2 = 20) := by
  unfold readF readW at h ⊢
  split
  · exact ⟨rfl, by simp⟩
  rename_i h1
  rw [if_neg h1] at h
  split
  · exact ⟨rfl, by simp⟩
  rename_i h2
  rw [if_neg h2] at h
  split
  · exact ⟨rfl, by simp⟩
  rename_i ns hns
  rw [hns] at h
  simp only [] at h ⊢
  split
  · rename_i h3
    rw [if_pos h3] at h
    split
    · rename_i h4
      rw [if_pos h4] at h
      exact (h rfl).elim
    · rename_i h4
      have := opF_bad h4
      exact ⟨rfl, by simp only; omega⟩
  · rename_i h3
    rw [if_neg h3] at h
    split
    · rename_i h4
      rw [if_pos h4] at h
      split
      · exact ⟨rfl, by simp⟩
      · rename_i d hd
        rw [hd] at h
        exact (h rfl).elim
    · rename_i h4
      rw [if_neg h4] at h
      exact (h rfl).elim

end Go.Proofs.YtfinbppmkffbhaaDoor
