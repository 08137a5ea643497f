/-
  strings.Cut at a line end; slices of commands.
-/
import Derived.Test.YtfinbppmkffbhaaDoorScriptG0
import Derived.Test.YtfinbppmkffbhaaDoorParsePlain
namespace Go.Proofs.YtfinbppmkffbhaaDoor
open Go.RowKit Go.Sort

structure CutTo (l : List UInt8) (w : World) (e : Ending) (w' : World) : Prop where
  kp : Kp Noone w w'
  is : ((10 : UInt8) ∉ l ∧ ∃ a b : ByteArray, e = .returned (.tuple #[.string a, .string b, .bool false])) ∨ ∃ a b, l = a ++ 10 :: b ∧ (10 : UInt8) ∉ a ∧ e = .returned (.tuple #[strV a, strV b, .bool true])
theorem cut_any (s : ByteArray) (w : World) (hs : s.size ≤ 4194304) (hL : LaidS w) :
    Calls Tryd.prog 35 #[.string s, .string ⟨#[10]⟩] w fun e w' => CutTo s.data.toList w e w' := by
  obtain ⟨m, hm⟩ := hL.len
  refine (Tryd.strings_Cut s ⟨#[10]⟩ m w (by omega) hm).mono ?_
  rintro e w' ⟨rfl, n, rfl⟩
  refine ⟨(Kp.refl _ _).drewN _, ?_⟩
  have hsep : (⟨#[10]⟩ : ByteArray).data.toList = [10] := rfl
  rw [hsep]
  rcases cut_cases 10 s.data.toList with ⟨h, -⟩ | ⟨a, b, h, ha, -⟩
  · left
    have hc : Lib.cut s.data.toList [10] = (s.data.toList, [], false) := by
      unfold Lib.cut
      rw [Lib.index_one, index_miss 10 _ h, if_neg (by omega)]
    exact ⟨h, ⟨s.data.toList.toArray⟩, ⟨([] : List UInt8).toArray⟩, by rw [hc]⟩
  · right
    refine ⟨a, b, h, ha, ?_⟩
    have hc : Lib.cut s.data.toList [10] = (a, b, true) := by
      unfold Lib.cut
      rw [Lib.index_one, h, index_hit 10 a b ha, if_pos (by omega)]
      have e1 : ((a.length : Int)).toNat = a.length := by omega
      rw [e1, List.take_left' rfl]
      have e2 : (a ++ 10 :: b).drop (a.length + [(10 : UInt8)].length) = b := by
        rw [List.drop_append]
        simp
      rw [e2]
    rw [hc]
    rfl

/-- The cells of commands. -/
def cmdRows : List CmdV → List Loc → List Value
  | c :: cs, l :: ls => (cmdCs c l).toList ++ cmdRows cs ls
  | _, _ => []
theorem cmdRows_cons (c : CmdV) (cs : List CmdV) (l : Loc) (ls : List Loc) : cmdRows (c :: cs) (l :: ls) = (cmdCs c l).toList ++ cmdRows cs ls := rfl
theorem cmdCs_len (c : CmdV) (l : Loc) : (cmdCs c l).toList.length = 8 := rfl
theorem cmdRows_len (cs : List CmdV) : ∀ (ls : List Loc), cs.length = ls.length → (cmdRows cs ls).length = cs.length * 8 := by
  induction cs with
  | nil => intro ls h; cases ls <;> rfl
  | cons c cs ih =>
    intro ls h
    cases ls with
    | nil => cases h
    | cons l ls =>
      have := ih ls (by simpa using h)
      rw [cmdRows_cons, List.length_append, this, cmdCs_len, List.length_cons]
      omega
theorem cmdRows_snoc (cs : List CmdV) : ∀ (ls : List Loc) (c : CmdV) (l : Loc), cs.length = ls.length → cmdRows (cs ++ [c]) (ls ++ [l]) = cmdRows cs ls ++ (cmdCs c l).toList := by
  induction cs with
  | nil =>
    intro ls c l h
    cases ls with
    | nil => rw [List.nil_append, List.nil_append, cmdRows_cons]; show (cmdCs c l).toList ++ [] = [] ++ (cmdCs c l).toList; rw [List.append_nil, List.nil_append]
    | cons b ls => cases h
  | cons a cs ih =>
    intro ls c l h
    cases ls with
    | nil => cases h
    | cons b ls =>
      have := ih ls c l (by simpa using h)
      rw [List.cons_append, List.cons_append, cmdRows_cons, cmdRows_cons, this, List.append_assoc]
/-- A slice of commands, its rows in blocks of G, the commands' own slices in none of these. -/
structure CmdsIn (G : Nat → Prop) (w : World) (ao : Option Addr) (cap : Nat) (cs : List CmdV) (ls : List Loc) : Prop where
  own : Own G w 27 8 ao cs.length cap (cmdRows cs ls)
  len : cs.length = ls.length
  each : ∀ i (h1 : i < cs.length) (h2 : i < ls.length), CmdIn (fun g => ¬ G g) w cs[i] ls[i]
theorem CmdsIn.keep {G : Nat → Prop} {w w' : World} {ao : Option Addr} {cap : Nat} {cs : List CmdV} {ls : List Loc} (h : CmdsIn G w ao cap cs ls) (k : Kp Noone w w') : CmdsIn G w' ao cap cs ls :=
  ⟨h.own.keep k, h.len, fun i h1 h2 => (h.each i h1 h2).keep k⟩
/-- One more is appended. -/
theorem CmdsIn.snoc {G : Nat → Prop} {w wA w' : World} {ao : Option Addr} {cap : Nat} {cs : List CmdV} {ls : List Loc} (h : CmdsIn G wA ao cap cs ls) {c : CmdV} {l : Loc} (hc : CmdIn (fun g => w.heap.size ≤ g) wA c l)
    (hw : ∀ g, G g → g < w.heap.size) {ao' : Option Addr} {cap' : Nat} (ho : Own (Ex G wA w') w' 27 8 ao' (cs.length + 1) cap' (cmdRows cs ls ++ (cmdCs c l).toList)) (k : Kp G wA w') :
    CmdsIn (Ex G wA w') w' ao' cap' (cs ++ [c]) (ls ++ [l]) := by
  have hout : ∀ x, x < wA.heap.size → ¬ G x → ¬ Ex G wA w' x := fun x hx hn he => by
    rcases he with he | he
    · exact hn he
    · omega
  refine ⟨by rw [cmdRows_snoc cs ls c l h.len, List.length_append]; exact ho, by simp [h.len], fun i h1 h2 => ?_⟩
  by_cases hi : i < cs.length
  · have hi2 : i < ls.length := by rw [← h.len]; exact hi
    rw [List.getElem_append_left hi, List.getElem_append_left hi2]
    have h3 := ((h.each i hi hi2).mono (G := fun g => ¬ G g ∧ g < wA.heap.size) (fun x hx hn => ⟨hn, hx⟩)).kp k (fun x hx => hx.1)
    exact h3.mono (fun x hx hn => hout x hn.2 hn.1)
  · have hi3 : i = cs.length := by simp at h1; omega
    subst hi3
    have e1 : (cs ++ [c])[cs.length]'h1 = c := by simp
    have e2 : (ls ++ [l])[cs.length]'h2 = l := by
      rw [List.getElem_append_right (by rw [h.len]; exact Nat.le_refl _)]
      simp [h.len]
    rw [e1, e2]
    have h3 := (hc.mono (G := fun g => ¬ G g ∧ g < wA.heap.size) (fun x hx hn => ⟨fun hg => by have := hw x hg; omega, hx⟩)).kp k (fun x hx => hx.1)
    exact h3.mono (fun x hx hn => hout x hn.2 hn.1)
/-- A slice of commands. -/
structure CmdsAt (w : World) (ao : Option Addr) (n cap : Nat) (cs : List CmdV) (ls : List Loc) : Prop where
  len : cs.length = n
  len2 : cs.length = ls.length
  le : n ≤ cap
  max : cap ≤ maxLen
  row : Row w ao (cmdRows cs ls)
  each : ∀ i (h1 : i < cs.length) (h2 : i < ls.length), CmdAt w cs[i] ls[i]
theorem CmdsIn.at {G : Nat → Prop} {w : World} {ao : Option Addr} {cap : Nat} {cs : List CmdV} {ls : List Loc} (h : CmdsIn G w ao cap cs ls) : CmdsAt w ao cs.length cap cs ls :=
  ⟨rfl, h.len, h.own.2.1, h.own.2.2.1, h.own.row, fun i h1 h2 => (h.each i h1 h2).at⟩
theorem CmdsAt.keep {w w' : World} {ao : Option Addr} {n cap : Nat} {cs : List CmdV} {ls : List Loc} (h : CmdsAt w ao n cap cs ls) (k : Kp Noone w w') : CmdsAt w' ao n cap cs ls :=
  ⟨h.len, h.len2, h.le, h.max, h.row.keep k, fun i h1 h2 => (h.each i h1 h2).keep k⟩
theorem CmdsAt.nil (w : World) : CmdsAt w none 0 0 [] [] := ⟨rfl, rfl, Nat.le_refl _, by decide, Row.nil _ _, fun i h => by cases h⟩
/-- What Parse answers. -/
structure ParseTo (t : List UInt8) (w : World) (e : Ending) (w' : World) : Prop where
  kp : Kp Noone w w'
  is : ∃ ao cap ls, e = .returned (.tuple #[.slice ao (parseF t).1.length cap, .int .i64 ((parseF t).2.1 : Int), .int .i64 (parseF t).2.2]) ∧ CmdsAt w' ao (parseF t).1.length cap (parseF t).1 ls
theorem ParseTo.err {t : List UInt8} {w w' : World} {n : Nat} {c : Int} (h : parseF t = ([], n, c)) (k : Kp Noone w w') : ParseTo t w (.returned (.tuple #[.slice none 0 0, .int .i64 (n : Int), .int .i64 c])) w' :=
  ⟨k, none, 0, [], by rw [h]; rfl, by rw [h]; exact CmdsAt.nil _⟩

end Go.Proofs.YtfinbppmkffbhaaDoor
