/-
  ScriptTexts: what holds behind some lines; a command of a list is loaded.
-/
import Derived.Test.YtfinbppmkffbhaaDoorTextsPlain
import Derived.Test.YtfinbppmkffbhaaDoorScriptI
import Derived.Laws.MakeOwn
import Derived.Laws.OwnMore
import Derived.Laws.IdiomStrings
import Derived.Deep.MidRow
namespace Go.Proofs.YtfinbppmkffbhaaDoor
open Go.RowKit Go.Sort

structure TSt (w : World) (ls : List (List UInt8)) (j : Nat) (t : ByteArray) (wx : World) : Prop where
  txt : t.data.toList = linesL (ls.take j)
  no : ∀ i, i < j → (10 : UInt8) ∉ getW ls i
  kp : Kp Noone w wx
theorem TSt.keep {w : World} {ls : List (List UInt8)} {j : Nat} {t : ByteArray} {wx w' : World} (h : TSt w ls j t wx) (k : Kp Noone wx w') : TSt w ls j t w' := ⟨h.txt, h.no, h.kp.trans k⟩
theorem TSt.snoc {w : World} {ls : List (List UInt8)} {j : Nat} {t t' : ByteArray} {wx w' : World} (h : TSt w ls j t wx) (k : Kp Noone wx w') (hj : j < ls.length) (hn : (10 : UInt8) ∉ getW ls j) (ht : t'.data.toList = t.data.toList ++ (getW ls j ++ [10])) : TSt w ls (j + 1) t' w' := by
  refine ⟨?_, ?_, h.kp.trans k⟩
  · rw [ht, h.txt, take_getW ls j hj, linesL_app, linesL_one]
  · intro i hi
    by_cases e : i = j
    · subst e; exact hn
    · exact h.no i (by omega)
theorem TSt.len {w : World} {ls : List (List UInt8)} {j : Nat} {t : ByteArray} {wx : World} (h : TSt w ls j t wx) (hj : j ≤ ls.length) : j ≤ t.size := by
  have h1 := linesL_len (ls.take j)
  rw [← h.txt, ba_len, List.length_take] at h1
  omega
theorem bwS_step (ls : List (List UInt8)) (j b : Nat) (c e : Int) (h : bwS ls j = (b, c)) (he : (readF (getW ls j)).2 = e) :
    bwS ls (j + 1) = if b = 0 ∧ (e ≠ 0 ∨ 600 ≤ j) then (j + 1, if 600 ≤ j then 91 else e) else (b, c) := by
  rw [bwS, h, he]
theorem wantF_ended (ls : List (List UInt8)) : wantF ls true = bwS ls ls.length := by unfold wantF; rw [if_neg (by simp)]
theorem wantF_e (ls : List (List UInt8)) (ended : Bool) : (wantF ls ended).1 ≠ 0 → (wantF ls ended).2 ≠ 0 := by
  unfold wantF
  split
  · intro _; simp
  · exact bwS_e ls _
theorem wantF_want (ls : List (List UInt8)) (ended : Bool) : (wantF ls ended).1 = 0 → (wantF ls ended).2 = 0 := by
  unfold wantF
  split
  · rename_i h
    intro h2
    have h3 : ls.length = 0 := h2
    omega
  · exact bwS_want ls _
theorem wantF_zero (ls : List (List UInt8)) (ended : Bool) : (wantF ls ended).1 = 0 → (bwS ls ls.length).1 = 0 := by
  unfold wantF
  split
  · rename_i h
    intro h2
    have h3 : ls.length = 0 := h2
    omega
  · exact id
theorem cmdRows_at (cs : List CmdV) : ∀ (ls : List Loc) (i : Nat) (h1 : i < cs.length) (h2 : i < ls.length) (j : Nat), j < 8 → (cmdRows cs ls)[i * 8 + j]? = (cmdCs cs[i] ls[i]).toList[j]? := by
  induction cs with
  | nil => intro ls i h1; simp at h1
  | cons c cs ih =>
    intro ls i h1 h2 j hj
    cases ls with
    | nil => simp at h2
    | cons l ls =>
      rw [cmdRows_cons]
      cases i with
      | zero =>
        rw [Nat.zero_mul, Nat.zero_add, List.getElem?_append_left (by rw [cmdCs_len]; exact hj)]
        rfl
      | succ i =>
        rw [List.getElem?_append_right (by rw [cmdCs_len]; omega), cmdCs_len, show (i + 1) * 8 + j - 8 = i * 8 + j by omega, ih ls i (by simpa using h1) (by simpa using h2) j hj]
        rfl
theorem CmdsAt.load {w : World} {ao : Option Addr} {n cap : Nat} {cs : List CmdV} {ls : List Loc} (h : CmdsAt w ao n cap cs ls) {i : Nat} (h1 : i < cs.length) :
    ∃ b off l, ao = some ⟨b, off, none⟩ ∧ b < w.heap.size ∧ w.rangeAt b (off + i * 8) (cmdCs cs[i] l).toList ∧ CmdAt w cs[i] l := by
  have h2 : i < ls.length := by rw [← h.len2]; exact h1
  have hl := cmdRows_len cs ls h.len2
  rcases h.row with h0 | ⟨b, off, rfl, hr⟩
  · rw [h0] at hl
    have h3 : 0 = cs.length * 8 := hl
    omega
  · have hra : w.rangeAt b (off + i * 8) (cmdCs cs[i] ls[i]).toList := by
      intro j v hv
      have hj : j < 8 := by
        rcases Nat.lt_or_ge j 8 with h | h
        · exact h
        · rw [List.getElem?_eq_none (by rw [cmdCs_len]; exact h)] at hv; cases hv
      have hlt : i * 8 + j < (cmdRows cs ls).length := by omega
      have hc := hr (i * 8 + j) hlt
      have e := cmdRows_at cs ls i h1 h2 j hj
      rw [hv, List.getElem?_eq_getElem hlt] at e
      injection e with e
      rw [e] at hc
      rw [Nat.add_assoc]
      exact hc
    exact ⟨b, off, ls[i], rfl, World.block_lt_of_cell? w _ (hra 0 _ rfl), hra, h.each i h1 h2⟩
/-- The walk loads a command. -/
theorem wpList_load_cmd {ops : Array Oper} {rest : List Oper} {op : Oper} {a : Act} {w : World} {Q : Exit → Act → World → Prop} (hgd : op.guard = none) (x : Operand) (ho : op.op = .load 27 x)
    (b o : Nat) (hx : a.eval x = .pointer (some ⟨b, o, none⟩)) (c : CmdV) (l : Loc) (V : Value) (hV : cmdV c l = V) (hc : w.rangeAt b o (cmdCs c l).toList)
    (h : wpList Tryd.prog ops Q rest (a.put op.dst V) w) : wpList Tryd.prog ops Q (op :: rest) a w :=
  wpList_load_mid hgd 27 x ho b o hx (cmdCs c l).toList _ hc Tryd.underlying27 rfl info_cmd (by rw [← hV] at h; exact h)
/-- The law's list of commands, each on its own. -/
theorem cmds_line (ls : List (List UInt8)) (ended : Bool) (cs : List CmdV) (e : cs = cmdsL ls ls.length) (h0 : (wantF ls ended).1 = 0) (i : Nat) (h : i < ls.length) (h2 : i < cs.length) : lineV cs[i] = .tuple #[strV (getW ls i), .int .i64 0] := by
  unfold lineV
  rw [cmdsL_get ls cs e i h h2, cmds_back ls ls.length i h (wantF_zero ls ended h0)]

end Go.Proofs.YtfinbppmkffbhaaDoor
