/-
  wal: A LOG OVER ITS IMAGE (every piece but the last is safe), in plain Lean.
-/
import Derived.Test.YtigdhdclfdojgaaWalChain
namespace Go.Proofs.Ytigdhdclfdojgaa
open Go.RowKit

def lastA (p : PcS) (sf : Int) : ByteArray × AreaP := (walName p.num, ⟨pieceD p, sf⟩)
def fullImg (ps : List PcS) : Img := ps.map fun p => (walName p.num, full (pieceD p))
/-- An open log: pieces ps, all safe, and the last one, p, safe up to sf bytes. -/
structure FSt (lim : Nat) (s : DS) (l : LogP) (ps : List PcS) (p : PcS) (sf : Int) : Prop where
  up : Up s (fullImg ps ++ [lastA p sf])
  ok : DOk s
  log : l = ⟨lim, heads (ps ++ [p]), p.first + p.recs.length, (pieceD p).length, false⟩
  each : ∀ x ∈ ps ++ [p], PcOk x
  chain : Chain 1 (ps ++ [p])
  lt : ∀ x ∈ ps, x.num < p.num
  inc : ps.Pairwise fun a b => a.num < b.num
  safe : 0 ≤ sf ∧ sf ≤ (pieceD p).length
  fits : sumL (fullImg ps ++ [lastA p sf]) ≤ s.room
theorem FSt.others {lim : Nat} {s : DS} {l : LogP} {ps : List PcS} {p : PcS} {sf : Int} (h : FSt lim s l ps p sf) : ∀ x ∈ fullImg ps, x.1 ≠ walName p.num := by
  intro x hx e
  obtain ⟨y, hy, rfl⟩ := List.mem_map.1 hx
  have h1 := h.lt y hy
  have h2 := congrArg numberN e
  have h3 := (h.each y (List.mem_append_left _ hy)).num.2
  have h4 := (h.each p (by simp)).num.2
  simp only [] at h2
  rw [number_of _ h3, number_of _ h4] at h2
  omega
theorem FSt.lastP {lim : Nat} {s : DS} {l : LogP} {ps : List PcS} {p : PcS} {sf : Int} (h : FSt lim s l ps p sf) : Proofs.Ytigdhdclfdojgaa.lastP l = (p.num, p.first) := by
  rw [h.log]
  unfold Proofs.Ytigdhdclfdojgaa.lastP heads
  simp
theorem FSt.alive {lim : Nat} {s : DS} {l : LogP} {ps : List PcS} {p : PcS} {sf : Int} (h : FSt lim s l ps p sf) : aliveF s l = (l, 0) := by
  unfold aliveF
  rw [if_neg]
  rw [h.up.down, h.log]
  simp
theorem FSt.get {lim : Nat} {s : DS} {l : LogP} {ps : List PcS} {p : PcS} {sf : Int} (h : FSt lim s l ps p sf) : alGet (walName p.num) (fullImg ps ++ [lastA p sf]) = some ⟨pieceD p, sf⟩ := get_last h.others
theorem sum_last (L : Img) (p : PcS) (sf : Int) : sumL (L ++ [lastA p sf]) = sumL L + sf := by
  rw [sumL_append]
  simp [sumL, lastA]
/-- A sync: no room, or all is safe. -/
theorem FSt.sync {lim : Nat} {s : DS} {l : LogP} {ps : List PcS} {p : PcS} {sf : Int} (h : FSt lim s l ps p sf) (hst : s.steps < 4611686018427387904) : (s.room < sumL (fullImg ps) + (pieceD p).length ∧ syncF s (walName p.num) = (s, 42)) ∨ (¬ s.room < sumL (fullImg ps) + (pieceD p).length ∧ (syncF s (walName p.num)).2 = 0 ∧ (syncF s (walName p.num)).1.room = s.room ∧ FSt lim (syncF s (walName p.num)).1 l ps p (pieceD p).length) := by
  have hs := sum_last (fullImg ps) p sf
  rcases h.up.sync (nameOk_wal p.num) h.get with ⟨a, b⟩ | ⟨a, b, c⟩
  · left
    rw [hs] at a
    exact ⟨by simp only [] at a; omega, b⟩
  · right
    rw [hs] at a
    simp only [] at a
    refine ⟨by omega, by rw [b], by rw [b]; rfl, ?_, syncF_ok h.ok (walName p.num) hst, h.log, h.each, h.chain, h.lt, h.inc, ⟨by omega, by omega⟩, ?_⟩
    · have e : upd (walName p.num) (full (pieceD p)) (fullImg ps ++ [lastA p sf]) = fullImg ps ++ [lastA p (pieceD p).length] := upd_last h.others
      rw [← e]
      exact c
    · rw [sum_last, b]
      show _ ≤ s.room
      omega
theorem FSt.syncL {lim : Nat} {s : DS} {l : LogP} {ps : List PcS} {p : PcS} {sf : Int} (h : FSt lim s l ps p sf) : syncLF s l = ((syncF s (walName p.num)).1, metF l (syncF s (walName p.num)).2, (syncF s (walName p.num)).2) := by
  unfold syncLF
  rw [h.alive, if_neg (by simp), h.lastP]
/-- A record is laid behind the others. -/
theorem FSt.tail {lim : Nat} {s : DS} {l : LogP} {ps : List PcS} {p : PcS} {sf : Int} (h : FSt lim s l ps p sf) {d : List UInt8} (hd : d.length ≤ 8192) (hsz : (pieceD p).length + 8209 ≤ 4194304) (hst : s.steps < 4611686018427387904) : (appTail s l d).2.2 = (p.first + p.recs.length, 0) ∧ (appTail s l d).1.room = s.room ∧ FSt lim (appTail s l d).1 (appTail s l d).2.1 ps ⟨p.num, p.first, p.recs ++ [d]⟩ sf := by
  have hfl := frameL_le d
  have hpd : pieceD ⟨p.num, p.first, p.recs ++ [d]⟩ = pieceD p ++ frameL d := by
    unfold pieceD
    rw [frames_append, frames_cons, frames_nil, List.append_nil, List.append_assoc]
  have hg0 : get0 (walName p.num) (fullImg ps ++ [lastA p sf]) = ⟨pieceD p, sf⟩ := by unfold get0; rw [h.get]; rfl
  obtain ⟨a, u⟩ := h.up.append (d := frameL d) (nameOk_wal p.num) (Or.inl (by rw [h.get]; simp)) (by rw [hg0]; simp only []; omega)
  rw [hg0] at a u
  have hok := appendF_ok h.ok (walName p.num) (frameL d) hst
  have e0 : (appendF s (walName p.num) (frameL d)).2 = 0 := by rw [a]
  have er : (appendF s (walName p.num) (frameL d)).1.room = s.room := by rw [a]; rfl
  have hap : appTail s l d = ((appendF s (walName p.num) (frameL d)).1, { l with size := l.size + (frameL d).length, next := l.next + 1 }, l.next, 0) := by
    unfold appTail
    rw [h.lastP, e0, if_neg (by simp)]
  rw [hap]
  refine ⟨by rw [h.log], er, ?_, hok, ?_, ?_, ?_, h.lt, h.inc, ?_, ?_⟩
  · rw [ins_there h.up.sim.srt _ (mem_keys (by rw [h.get]; simp))] at u
    have e : upd (walName p.num) ⟨pieceD p ++ frameL d, sf⟩ (fullImg ps ++ [lastA p sf]) = fullImg ps ++ [lastA ⟨p.num, p.first, p.recs ++ [d]⟩ sf] := by
      unfold lastA
      rw [hpd]
      exact upd_last h.others
    rw [← e]
    exact u
  · rw [h.log, hpd]
    simp [heads]
    omega
  · intro x hx
    rcases List.mem_append.1 hx with hx | hx
    · exact h.each x (List.mem_append_left _ hx)
    · have hp := h.each p (by simp)
      rw [List.mem_singleton.1 hx]
      refine ⟨hp.num, hp.first, fun y hy => ?_⟩
      rcases List.mem_append.1 hy with hy | hy
      · exact hp.recs y hy
      · rw [List.mem_singleton.1 hy]; exact hd
  · have hc := (chain_append ps [p] 1).1 h.chain
    exact (chain_append ps _ 1).2 ⟨hc.1, hc.2.1, trivial⟩
  · rw [hpd, List.length_append]
    have := h.safe
    omega
  · rw [sum_last]
    have h1 := h.fits
    rw [sum_last] at h1
    rw [er]
    exact h1

end Go.Proofs.Ytigdhdclfdojgaa
