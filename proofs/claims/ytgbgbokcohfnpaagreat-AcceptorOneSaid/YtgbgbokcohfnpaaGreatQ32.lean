/-
  The texts KnowP in one: what the claim reaches of them.
-/
import Derived.Test.YtgbgbokcohfnpaaGreatQ27
import Derived.Test.YtgbgbokcohfnpaaGreatQ29
/-
  PLAIN: an acceptor stands by what it has sent; its votes could stand in one message.
-/
namespace Go.Proofs.YtgbgbokcohfnpaaGreat

/-- A vote or a promise that was sent (slot 0: a promise). -/
structure SentR where
  epoch : Int
  bal : BalR
  slot : Int
  val : ValR
def KnowV (a : AcS) (s : SentR) : Prop :=
  s.slot ≤ a.floor ∨ ∃ o ∈ a.votes, o.slot = s.slot ∧ belowB o.bal s.bal = false ∧ (o.bal = s.bal → o.val = s.val)
/-- The acceptor stands by what was sent. -/
def KnowA (a : AcS) (s : SentR) : Prop := s.epoch ≤ a.epoch ∧ (s.epoch = a.epoch → belowB a.prom s.bal = false ∧ KnowV a s)
theorem KnowA.rise {a : AcS} {s : SentR} (h : KnowA a s) {b : BalR} (hb : belowB b a.prom = false) : KnowA { a with prom := b } s :=
  ⟨h.1, fun e => ⟨belowB_ge hb (h.2 e).1, (h.2 e).2⟩⟩
theorem KnowA.put {a : AcS} {s : SentR} (h : KnowA a s) (ok : AOk a) {b : BalR} {sl : Int} {v : ValR} (hb : belowB b a.prom = false) (hn : ∀ o, getV sl a.votes = some o → o.bal ≠ b) :
    KnowA { a with prom := b, votes := putV ⟨sl, b, v⟩ a.votes } s := by
  refine ⟨h.1, fun e => ⟨belowB_ge hb (h.2 e).1, ?_⟩⟩
  rcases (h.2 e).2 with h1 | ⟨o, ho, h1, h2, h3⟩
  · exact Or.inl h1
  by_cases hs : o.slot = sl
  · have hob : belowB b o.bal = false := belowB_ge hb (ok.vs o ho).2.2.2.2.2
    refine Or.inr ⟨⟨sl, b, v⟩, self_putV _ _, by show sl = s.slot; omega, belowB_ge hob h2, fun e2 => ?_⟩
    have e3 : b = s.bal := e2
    rw [← e3] at h2
    exact (hn o (by rw [← hs]; exact getV_of ok.up ho) (belowB_none h2 hob)).elim
  · exact Or.inr ⟨o, (putV_iff ok.up).2 (Or.inr ⟨ho, hs⟩), h1, h2, h3⟩
theorem KnowA.raise {a : AcS} {s : SentR} (h : KnowA a s) (f : Int) : KnowA (raiseA a f) s := by
  refine ⟨h.1, fun e => ⟨(h.2 e).1, ?_⟩⟩
  rcases (h.2 e).2 with h1 | ⟨o, ho, h1, h2, h3⟩
  · exact Or.inl (by show s.slot ≤ max a.floor f; omega)
  by_cases hs : max a.floor f < o.slot
  · exact Or.inr ⟨o, List.mem_filter.2 ⟨ho, by simpa using hs⟩, h1, h2, h3⟩
  · exact Or.inl (by show s.slot ≤ max a.floor f; omega)
theorem KnowA.enter {a : AcS} {s : SentR} (h : KnowA a s) {e : Int} (he : a.epoch < e) (f : Int) : KnowA (enterA e f) s := by
  have h1 := h.1
  refine ⟨by show s.epoch ≤ e; omega, fun e2 => ?_⟩
  have e2 : s.epoch = e := e2
  omega
theorem cmdF_nn (c : CmdR) : 0 ≤ cmdF c := by
  unfold cmdF
  split
  · decide
  · split <;> decide
theorem cmdsF_nn : ∀ cs : List CmdR, 0 ≤ cmdsF cs
  | [] => Int.le_refl 0
  | c :: r => by
    unfold cmdsF
    split
    · exact cmdsF_nn r
    · exact cmdF_nn c
theorem setGo_nn : ∀ (ms : List Int) (l : Int), 0 ≤ setGo l ms
  | [], _ => Int.le_refl 0
  | m :: r, l => by
    unfold setGo
    split
    · decide
    · exact setGo_nn r m
theorem valF_nn (v : ValR) : 0 ≤ valF v := by
  unfold valF
  split
  · split <;> decide
  split
  · split
    · decide
    · unfold setF
      split
      · decide
      · exact setGo_nn _ _
  split
  · split
    · decide
    · exact cmdsF_nn _
  · decide
/-- What Accept answers. -/
theorem acc_out {a : AcS} (h : AOk a) (s : DS) (l : LogP) (b : BalR) (sl : Int) (v : ValR) :
    ((accA s l a b sl v).a = a ∧ (accA s l a b sl v).e ≠ 0) ∨
    ((accA s l a b sl v).a = a ∧ (accA s l a b sl v).e = 0 ∧ belowB b a.prom = false ∧ a.floor < sl ∧ valF v = 0 ∧ (accA s l a b sl v).m = votedM a b sl v ∧ ∃ o ∈ a.votes, o.slot = sl ∧ o.bal = b ∧ o.val = v) ∨
    (validB b = true ∧ belowB b a.prom = false ∧ a.floor < sl ∧ valF v = 0 ∧ (accA s l a b sl v).a = { a with prom := b, votes := putV ⟨sl, b, v⟩ a.votes } ∧ (∀ o, getV sl a.votes = some o → o.bal ≠ b) ∧ (accA s l a b sl v).e = 0 ∧ (accA s l a b sl v).m = votedM { a with prom := b, votes := putV ⟨sl, b, v⟩ a.votes } b sl v) := by
  unfold accA
  split
  · exact Or.inl ⟨rfl, by simp⟩
  split
  · rename_i h0
    have := valF_nn v
    exact Or.inl ⟨rfl, by simp only []; omega⟩
  split
  · exact Or.inl ⟨rfl, by simp⟩
  split
  · exact Or.inl ⟨rfl, by simp⟩
  rename_i h1 h2 h3 h4
  have h1 : validB b = true := by simpa using h1
  have h2 : valF v = 0 := Classical.byContradiction h2
  have h3 : belowB b a.prom = false := by simpa using h3
  have h5 : a.floor < sl := by omega
  have core : ∀ r, (∀ o, getV sl a.votes = some o → o.bal ≠ b) → ((accW a ⟨2, a.epoch, sl, b, v⟩ r).a = a ∧ (accW a ⟨2, a.epoch, sl, b, v⟩ r).e ≠ 0) ∨
      (validB b = true ∧ belowB b a.prom = false ∧ a.floor < sl ∧ valF v = 0 ∧ (accW a ⟨2, a.epoch, sl, b, v⟩ r).a = { a with prom := b, votes := putV ⟨sl, b, v⟩ a.votes } ∧ (∀ o, getV sl a.votes = some o → o.bal ≠ b) ∧ (accW a ⟨2, a.epoch, sl, b, v⟩ r).e = 0 ∧ (accW a ⟨2, a.epoch, sl, b, v⟩ r).m = votedM { a with prom := b, votes := putV ⟨sl, b, v⟩ a.votes } b sl v) := by
    intro r hn
    unfold accW
    split
    · rename_i hw
      exact Or.inl ⟨rfl, hw⟩
    · have hr := replay_vote (v := v) h3 h5 (h.old h3)
      exact Or.inr ⟨h1, h3, h5, h2, hr, hn, rfl, by simp only []; rw [hr]⟩
  cases hg : getV sl a.votes with
  | none =>
    rcases core (writeF [recL ⟨2, a.epoch, sl, b, v⟩] true 0 s l) (fun o ho => by rw [hg] at ho; cases ho) with c | c
    · exact Or.inl c
    · rw [hg] at c
      exact Or.inr (Or.inr c)
  | some o =>
    unfold accO
    simp only []
    split
    · rename_i e1
      split
      · rename_i e2
        obtain ⟨g1, g2⟩ := getV_some hg
        exact Or.inr (Or.inl ⟨rfl, rfl, h3, h5, h2, rfl, o, g1, g2, e1, e2⟩)
      · exact Or.inl ⟨rfl, by simp⟩
    · rename_i e1
      rcases core (writeF [recL ⟨2, a.epoch, sl, b, v⟩] true 0 s l) (fun x hx => by rw [hg] at hx; cases hx; exact e1) with c | c
      · exact Or.inl c
      · rw [hg] at c
        exact Or.inr (Or.inr c)

/-! ### What the steps of AcceptorOne keep -/

structure KnowI (a : AcS) (S : List SentR) : Prop where
  inv : AInv a
  bal : ∀ v ∈ a.votes, validB v.bal = true
  all : ∀ s ∈ S, KnowA a s
theorem KnowI.start : KnowI (enterA 0 0) [] := ⟨AInv.start, fun v hv => (by cases hv), fun s hs => by cases hs⟩
/-- A step: the state behind it. -/
structure KnowT (a : AcS) (S : List SentR) (a' : AcS) : Prop where
  know : KnowI a' S
  ep : a.epoch ≤ a'.epoch
  prom : a'.epoch = a.epoch → belowB a'.prom a.prom = false
theorem KnowI.same {a : AcS} {S : List SentR} (h : KnowI a S) : KnowT a S a := ⟨h, Int.le_refl _, fun _ => belowB_irr _⟩
theorem KnowI.prep {a : AcS} {S : List SentR} (h : KnowI a S) (s : DS) (l : LogP) (b : BalR) (f : Int) : KnowT a S (prepA s l a b f).a := by
  have hi := h.inv.prep s l b f
  rcases prep_state s l a b f with h1 | ⟨h1, h2, h3, -⟩
  · rw [h1]; exact h.same
  · rw [h3] at hi ⊢
    exact ⟨⟨hi, h.bal, fun x hx => (h.all x hx).rise h2⟩, Int.le_refl _, fun _ => h2⟩
theorem KnowI.raise {a : AcS} {S : List SentR} (h : KnowI a S) (s : DS) (l : LogP) (f : Int) : KnowT a S (raiseO s l a f).a := by
  have hi := h.inv.raise s l f
  rcases raiseO_state s l a f with h1 | ⟨h1, h2, h3⟩
  · rw [h1]; exact h.same
  · rw [h3] at hi ⊢
    exact ⟨⟨hi, fun v hv => h.bal v (List.mem_filter.1 hv).1, fun x hx => (h.all x hx).raise f⟩, Int.le_refl _, fun _ => belowB_irr _⟩
theorem KnowI.enter {a : AcS} {S : List SentR} (h : KnowI a S) (s : DS) (l : LogP) (e f : Int) : KnowT a S (enterO s l a e f).a := by
  have hi := h.inv.enter s l e f
  rcases enterO_state s l a e f with h1 | ⟨h1, h2, h3, h4, h5⟩
  · rw [h1]; exact h.same
  · rw [h5] at hi ⊢
    exact ⟨⟨hi, fun v hv => (by cases hv), fun x hx => (h.all x hx).enter h1 f⟩, by show a.epoch ≤ e; omega, fun c => by
      have c : e = a.epoch := c
      omega⟩
/-- What a vote that was answered says. -/
structure VoteT (a : AcS) (S : List SentR) (o : AO) (b : BalR) (sl : Int) (v : ValR) : Prop where
  below : belowB b a.prom = false
  m : o.m = votedM o.a b sl v
  ep : o.a.epoch = a.epoch
  val : valF v = 0
  clash : ∀ s ∈ S, s.epoch = a.epoch → s.bal = b → s.slot = sl → s.val = v
  know : KnowI o.a (S ++ [⟨a.epoch, b, sl, v⟩])
theorem clash_none {a : AcS} (ok : AOk a) {S : List SentR} {b : BalR} {sl : Int} {v : ValR} (h : KnowI a S) (hs : a.floor < sl) {o : VoteR} (ho : o ∈ a.votes) (h1 : o.slot = sl) (h2 : o.bal = b) (h3 : o.val = v) :
    ∀ s ∈ S, s.epoch = a.epoch → s.bal = b → s.slot = sl → s.val = v := by
  intro s hm e1 e2 e3
  rcases ((h.all s hm).2 e1).2 with c | ⟨x, hx, g1, -, g3⟩
  · omega
  · have hxo : x = o := up_slot ok.up hx ho (by omega)
    subst hxo
    rw [← g3 (by rw [h2, e2]), h3]
theorem KnowI.acc {a : AcS} {S : List SentR} (h : KnowI a S) (s : DS) (l : LogP) (b : BalR) (sl : Int) (v : ValR) :
    KnowT a S (accA s l a b sl v).a ∧ ((accA s l a b sl v).e = 0 → VoteT a S (accA s l a b sl v) b sl v) := by
  have hi := h.inv.acc s l b sl v
  have hout := acc_out h.inv.ok s l b sl v
  generalize accA s l a b sl v = o at *
  rcases hout with ⟨h1, h2⟩ | ⟨h1, h2, h3, h4, h8, h5, x, x1, x2, x3, x4⟩ | ⟨h1, h2, h3, h8, h4, h5, h6, h7⟩
  · rw [h1]; exact ⟨h.same, fun e => absurd e h2⟩
  · have hp : belowB a.prom b = false := by
      have := (h.inv.ok.vs x x1).2.2.2.2.2
      rwa [x3] at this
    rw [h1]
    refine ⟨h.same, fun _ => ⟨h3, by rw [h1]; exact h5, by rw [h1], h8, clash_none h.inv.ok h h4 x1 x2 x3 x4, ?_⟩⟩
    rw [h1]
    refine ⟨h.inv, h.bal, fun y hy => ?_⟩
    rcases List.mem_append.1 hy with hy | hy
    · exact h.all y hy
    · rw [List.mem_singleton.1 hy]
      exact ⟨Int.le_refl _, fun _ => ⟨hp, Or.inr ⟨x, x1, x2, by rw [x3]; exact belowB_irr _, fun _ => x4⟩⟩⟩
  · rw [h4] at hi ⊢
    have hk : KnowI { a with prom := b, votes := putV ⟨sl, b, v⟩ a.votes } S := ⟨hi, fun x hx => by
      rcases putV_mem hx with rfl | hx
      · exact h1
      · exact h.bal x hx, fun x hx => (h.all x hx).put h.inv.ok h2 h5⟩
    refine ⟨⟨hk, Int.le_refl _, fun _ => h2⟩, fun _ => ⟨h2, by rw [h4]; exact h7, by rw [h4], h8, ?_, ?_⟩⟩
    · exact clash_none hi.ok hk h3 (self_putV ⟨sl, b, v⟩ a.votes) rfl rfl rfl
    · rw [h4]
      refine ⟨hi, hk.bal, fun y hy => ?_⟩
      rcases List.mem_append.1 hy with hy | hy
      · exact hk.all y hy
      · rw [List.mem_singleton.1 hy]
        exact ⟨Int.le_refl _, fun _ => ⟨belowB_irr _, Or.inr ⟨⟨sl, b, v⟩, self_putV _ _, rfl, belowB_irr _, fun _ => rfl⟩⟩⟩
theorem checkGo_ok : ∀ (vs : List VoteR) (f : Int), Up9 vs → (∀ v ∈ vs, f ≤ v.slot ∧ v.slot ≤ 1099511627776 ∧ validB v.bal = true ∧ valF v.val = 0) → checkGo f vs = 0
  | [], _, _, _ => rfl
  | v :: r, f, hu, h => by
    obtain ⟨h1, h2, h3, h4⟩ := h v (List.mem_cons_self ..)
    obtain ⟨u1, u2⟩ := List.pairwise_cons.1 hu
    unfold checkGo
    rw [if_neg (by omega), if_neg (by rw [h3]; decide), if_neg (by simp [h4])]
    exact checkGo_ok r _ u2 (fun x hx => by
      have hx2 := h x (List.mem_cons_of_mem _ hx)
      have := u1 x hx
      exact ⟨by omega, hx2.2⟩)
theorem fromV_len (vs : List VoteR) (f : Int) : (fromV vs f).length ≤ vs.length := List.length_filter_le ..
theorem KnowI.sound {a : AcS} {S : List SentR} (h : KnowI a S) : checkVF (fromV a.votes 1) 1 = 0 := by
  have hl := fromV_len a.votes 1
  have hl2 := h.inv.ok.len h.inv.win
  unfold checkVF
  rw [if_neg (by omega)]
  refine checkGo_ok _ _ (up_filter h.inv.ok.up _) (fun v hv => ?_)
  obtain ⟨hm, hs⟩ := List.mem_filter.1 hv
  obtain ⟨g1, g2, g3, -⟩ := h.inv.ok.vs v hm
  exact ⟨by simpa using hs, g3, h.bal v hm, g1⟩

end Go.Proofs.YtgbgbokcohfnpaaGreat
