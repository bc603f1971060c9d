/- The lone run of the twin, step by step, with the call of F as one step: what comes next, wherever the answers are given; and that the company of leavers ends where the lone run does. -/
import Derived.Test.YtminoelijdpmeaaLg
namespace Go.Proofs.Ytminoelijdpmeaa
namespace Lift
open Go.Conc
set_option linter.unusedSimpArgs false

abbrev Tape := Nat → Question → Nat
def Agree (k : Nat) (τ : Tape) (d : Nat) (τ' : Tape) (d' : Nat) : Prop := ∀ j, j < k → τ (d + j) = τ' (d' + j)

/-- An ending that only a refusal of the code's own text brings about. -/
def Refused (o : Outcome) : Prop := ∃ s p, o = .unsupported (Unsupported.elab s) p
/-- A frame at which a return is refused, and a panic ends the run at once. -/
def wall : Frame := { fn := 0, tmps := #[], todo := [.code (.refuse "")], defers := [{ target := .nil, args := #[] }], mode := .run, kind := .normal, roundOf := none }

section
variable {P : Program} {F : FuncId} {f' : Func} {S : FuncId → Bool}

theorem goes1_re {P' : Program} {fr fr' fr'' : Frame} {cs cs' : List Frame} {w w' : World} {es : Array Event} {k : Nat} (h : Goes1 P P' fr cs w fr' fr'' cs' w' es k) {τ : Tape} {d : Nat} (ha : Agree k τ d w.tape w.drawn) : Goes1 P P' fr cs (re w τ d) fr' fr'' cs' (re w' τ (d + k)) es k :=
  ⟨fun tl τ' d' h' => h.own tl τ' d' fun j hj => (h' j hj).trans (ha j hj), fun tl τ' d' h' => h.twin tl τ' d' fun j hj => (h' j hj).trans (ha j hj), rfl, rfl, h.grow, h.evs⟩
theorem comm1_re {P' : Program} {fr : Frame} {cs : List Frame} {cases : Array CommCase} {w w' : World} {es : Array Event} {k : Nat} (h : Comm1 P P' fr cs w cases w' es k) {τ : Tape} {d : Nat} (ha : Agree k τ d w.tape w.drawn) : Comm1 P P' fr cs (re w τ d) cases (re w' τ (d + k)) es k :=
  ⟨fun tl τ' d' h' => h.own tl τ' d' fun j hj => (h' j hj).trans (ha j hj), fun tl τ' d' h' => h.twin tl τ' d' fun j hj => (h' j hj).trans (ha j hj), rfl, rfl, h.grow, h.evs⟩

/-- What the call of F does, told of the frame that the twin enters. -/
structure Macro (P : Program) (F : FuncId) (f' : Func) (FS : Array Value → World → Value → World → Prop) : Prop where
  tape : ∀ a w v w', FS a w v w' → w'.tape = w.tape ∧ w'.drawn = w.drawn ∧ ∀ τ d, FS a (re w τ d) v (re w' τ d)
  own : ∀ args w v w', FS args w v w' → ∀ c C, Reaches P (Gor (Frame.enter P F args .normal) (c :: C)) w fun g' w₁ => g' = Gor (c.finish v) C ∧ ∃ d, w₁ = w'.at d
  twin : ∀ args w v w', FS args w v w' → ∀ c C, Steps (twin P F f') (lone (Frame.enter (twin P F f') F args .normal) (c :: C) w) (lone (c.finish v) C w')
  total : ∀ args w, args.size = arity P F → (∃ v w', FS args w v w') ∨ ∀ C, ∃ n o w', runN (Lift.twin P F f') n (lone (Frame.enter (Lift.twin P F f') F args .normal) C w) = .ended o w' ∧ ¬ Refused o

/-- The next state of the lone run of the twin, k answers later. -/
inductive Nx (P : Program) (F : FuncId) (f' : Func) (S : FuncId → Bool) (FS : Array Value → World → Value → World → Prop) (fr : Frame) (cs : List Frame) (w : World) : Frame → List Frame → World → Nat → Prop
  | go {fr' : Frame} {cs' : List Frame} {w' : World} {es : Array Event} {k : Nat} (h : OkStack P F S fr' cs') (g : Goes1 P (twin P F f') fr cs w fr' fr' cs' w' es k) : Nx P F f' S FS fr cs w fr' cs' w' k
  | call {args : Array Value} {w₁ w' : World} {v : Value} {es : Array Event} {k : Nat} (g : Goes1 P (twin P F f') fr cs w (Frame.enter P F args .normal) (Frame.enter (twin P F f') F args .normal) (fr :: cs) w₁ es k)
      (h : FS args w₁ v w') : Nx P F f' S FS fr cs w (fr.finish v) cs w' k
  | sel {v z x : Value} {w₁ w' : World} {acts : Array MemAct} {es : Array Event} {k : Nat} (g : Comm1 P (twin P F f') fr cs w #[⟨v, none, z⟩] w₁ es k) (h : selRes w₁ v z = some (x, w', acts)) : Nx P F f' S FS fr cs w (fr.finish x) cs w' k

variable {FS : Array Value → World → Value → World → Prop}

theorem Nx.re (hM : Macro P F f' FS) {fr fr' : Frame} {cs cs' : List Frame} {w w' : World} {k : Nat} (h : Nx P F f' S FS fr cs w fr' cs' w' k) {τ : Tape} {d : Nat} (ha : Agree k τ d w.tape w.drawn) :
    Nx P F f' S FS fr cs (re w τ d) fr' cs' (Lift.re w' τ (d + k)) k := by
  cases h with
  | go h g => exact .go h (goes1_re g ha)
  | call g h => exact .call (goes1_re g ha) ((hM.tape _ _ _ _ h).2.2 τ (d + k))
  | @sel v z x w₁ w' acts es k g h => exact .sel (acts := acts) (comm1_re g ha) (by rw [selRes_re, h]; rfl)

theorem OkStack.next {fr fr' : Frame} {cs cs' : List Frame} {w w' : World} {k : Nat} (hs : OkStack P F S fr cs) (h : Nx P F f' S FS fr cs w fr' cs' w' k) : OkStack P F S fr' cs' := by
  cases h with
  | go h g => exact h
  | call g h => exact ⟨hs.top.finish _, hs.rest⟩
  | sel g h => exact ⟨hs.top.finish _, hs.rest⟩

theorem goes1_now {P' : Program} {fr fr' fr'' : Frame} {cs cs' : List Frame} {w w' : World} {es : Array Event} {k : Nat} (h : Goes1 P P' fr cs w fr' fr'' cs' w' es k) (tl : List Frame) : ∃ es', stepG P' true (Gor fr (cs ++ tl)) w = .go (Gor fr'' (cs' ++ tl)) w' es' := by
  obtain ⟨es', h'⟩ := h.twin tl w.tape w.drawn fun _ _ => rfl
  rw [re_self] at h'
  refine ⟨es', ?_⟩
  rw [h', ← h.tape, ← h.drawn, re_self]
theorem comm1_now {P' : Program} {fr : Frame} {cs : List Frame} {cases : Array CommCase} {w w' : World} {es : Array Event} {k : Nat} (h : Comm1 P P' fr cs w cases w' es k) (tl : List Frame) : ∃ es', stepG P' true (Gor fr (cs ++ tl)) w = .comm (Gor fr (cs ++ tl)) cases false .select w' es' := by
  obtain ⟨es', h'⟩ := h.twin tl w.tape w.drawn fun _ _ => rfl
  rw [re_self] at h'
  refine ⟨es', ?_⟩
  rw [h', ← h.tape, ← h.drawn, re_self]
theorem goes1_own {P' : Program} {fr fr' fr'' : Frame} {cs cs' : List Frame} {w w' : World} {es : Array Event} {k : Nat} (h : Goes1 P P' fr cs w fr' fr'' cs' w' es k) : stepG P true (Gor fr cs) w = .go (Gor fr' cs') w' es := by
  have h' := h.own [] w.tape w.drawn fun _ _ => rfl
  rw [re_self, ← h.tape, ← h.drawn, re_self, List.append_nil, List.append_nil] at h'
  exact h'
theorem comm1_own {P' : Program} {fr : Frame} {cs : List Frame} {cases : Array CommCase} {w w' : World} {es : Array Event} {k : Nat} (h : Comm1 P P' fr cs w cases w' es k) : stepG P true (Gor fr cs) w = .comm (Gor fr cs) cases false .select w' es := by
  have h' := h.own [] w.tape w.drawn fun _ _ => rfl
  rw [re_self, ← h.tape, ← h.drawn, re_self, List.append_nil] at h'
  exact h'

theorem lone_go {Q : Program} {fr fr' : Frame} {cs cs' : List Frame} {w w' : World} {es : Array Event} (h : stepG Q true (Gor fr cs) w = .go (Gor fr' cs') w' es) : step Q (lone fr cs w) = .next (lone fr' cs' w') :=
  step_lone_go (by show (stepG Q true (Gor fr cs) w).bare = _; rw [h]; rfl)
theorem lone_end {Q : Program} {fr : Frame} {cs : List Frame} {w w' : World} {o : Outcome} {es : Array Event} (h : stepG Q true (Gor fr cs) w = .ended o w' es) : step Q (lone fr cs w) = .ended o w' :=
  step_lone_ended (by show (stepG Q true (Gor fr cs) w).bare = _; rw [h]; rfl)

/-- The lone run of the twin makes at least one step of it. -/
theorem Nx.lone (hM : Macro P F f' FS) {fr fr' : Frame} {cs cs' : List Frame} {w w' : World} {k : Nat} (h : Nx P F f' S FS fr cs w fr' cs' w' k) (tl : List Frame) :
    ∃ n, runN (twin P F f') (n + 1) (Go.lone fr (cs ++ tl) w) = .next (Go.lone fr' (cs' ++ tl) w') := by
  cases h with
  | go h g =>
    obtain ⟨es', h'⟩ := goes1_now g tl
    exact ⟨0, by simp only [runN, lone_go h']⟩
  | @call args w₁ w' v es k g h =>
    obtain ⟨es', h'⟩ := goes1_now g tl
    obtain ⟨n, hn⟩ := hM.twin _ _ _ _ h fr (cs ++ tl)
    refine ⟨n, ?_⟩
    rw [Nat.add_comm, runN_add]
    have : runN (twin P F f') 1 (Go.lone fr (cs ++ tl) w) = .next (Go.lone (Frame.enter (twin P F f') F args .normal) (fr :: (cs ++ tl)) w₁) := by
      rw [List.cons_append] at h'
      simp only [runN, lone_go h']
    rw [this]
    exact hn
  | @sel v z x w₁ w' acts es k g h =>
    obtain ⟨es', h'⟩ := comm1_now g tl
    exact ⟨0, by simp only [runN, lone_sel h' h]⟩

/-! ### beside leavers -/
theorem ends_nx (hM : Macro P F f' FS) {Post : Value → World → Prop} {fr : Frame} {cs : List Frame} {w : World}
    (h : ∀ d, ∃ fr' cs' w' k, Nx P F f' S FS fr cs (w.at d) fr' cs' w' k ∧ ∀ d', Ends P Post (Gor fr' cs') (w'.at d')) : Ends P Post (Gor fr cs) w := by
  intro gs sl t q hA
  obtain ⟨N, gs', d, d', sl', sl'', t', q', hr, hst, hA'⟩ := picked0 (sl := sl) hA rfl
  have key : ∀ (gs₁ : Array Goroutine) (g₁ : Goroutine) (w₁ : World) (t₁ : Trace), runT P (crowd gs' (w.at d') sl'') 0 = (.next (crowd gs₁ w₁ sl''), t₁) → At P g₁ w₁ gs₁ (t' ++ t₁) q' → Ends P Post g₁ w₁ →
      ∃ N last o w' t', runNT P (N + 1) (crowd gs w sl) t = (.ended o w', t') ∧ runN P N (crowd gs w sl) = .next last ∧ step P last = .ended o w' ∧ Go.Conc.Good P Post last o w' t' := by
    intro gs₁ g₁ w₁ t₁ hrt hA₁ hE
    obtain ⟨M, last, o, w'', t'', h1, h2, h3, h4⟩ := hE gs₁ sl'' (t' ++ t₁) q' hA₁
    have hr' : runNT P (N + 1) (crowd gs w sl) t = (.next (crowd gs₁ w₁ sl''), t' ++ t₁) := by
      rw [runNT_add, hr]
      show runNT P 1 _ _ = _
      simp only [runNT, hst, hrt]
    refine ⟨N + 1 + M, last, o, w'', t'', by rw [Nat.add_assoc (N + 1), runNT_add, hr']; exact h1, ?_, h3, h4⟩
    have : runN P (N + 1) (crowd gs w sl) = .next (crowd gs₁ w₁ sl'') := by rw [← runNT_fst P (N + 1) _ t, hr']
    rw [runN_add, this]
    exact h2
  obtain ⟨fr', cs', w', k, hn, hE⟩ := h d'
  cases hn with
  | go o g =>
    obtain ⟨gs₁, t₁, h1, h2⟩ := go_now (sl := sl'') hA' (goes1_own g) g.grow g.evs
    exact key _ _ _ _ h1 h2 (hE w'.drawn)
  | @call args w₁ _ v es _ g x =>
    obtain ⟨gs₁, t₁, h1, h2⟩ := go_now (sl := sl'') hA' (goes1_own g) g.grow g.evs
    refine key _ _ _ _ h1 h2 (ends_of_reaches (hM.own _ _ _ _ x fr cs) ?_)
    rintro g' w₂ ⟨rfl, d₂, rfl⟩
    exact hE d₂
  | sel g x =>
    obtain ⟨gs₁, t₁, h1, h2⟩ := sel_now (sl := sl'') hA' (comm1_own g) g.grow g.evs x
    exact key _ _ _ _ h1 h2 (hE w'.drawn)

/-! ### the lone run that returns -/
theorem runN_ended {Q : Program} {m : Machine} {n : Nat} {o : Outcome} {w : World} (h : runN Q n m = .ended o w) (k : Nat) : runN Q (n + k) m = .ended o w := by
  rw [runN_add, h]
theorem ended_same {Q : Program} {m : Machine} {n n' : Nat} {o o' : Outcome} {w w' : World} (h : runN Q n m = .ended o w) (h' : runN Q n' m = .ended o' w') : o = o' := by
  have h1 := runN_ended h n'
  have h2 := runN_ended h' n
  rw [Nat.add_comm] at h2
  rw [h1] at h2
  cases h2; rfl

def Rets (Q : Program) (f : FuncId) (Post : Value → World → Prop) (m : Machine) : Prop :=
  ∃ n v fr w', runN Q n m = .next (lone fr [wall] w') ∧ fr.fn = f ∧ fr.leaving Q w' (.returned v) ∧ Post v w'

theorem wall_finish (Q : Program) (v : Value) (w : World) : ∃ o, step Q (lone (wall.finish v) [] w) = .ended o w ∧ Refused o :=
  ⟨_, lone_end (es := #[]) rfl, _, _, rfl⟩
theorem wall_raise (Q : Program) (ch : List PanicEntry) (w : World) : ∃ o w', step Q (lone (wall.raise ch) [] w) = .ended o w' :=
  ⟨_, _, lone_end (es := #[]) rfl⟩

theorem lone_inj {fr fr' : Frame} {cs cs' : List Frame} {w w' : World} (h : lone fr cs w = lone fr' cs' w') : fr = fr' ∧ cs = cs' ∧ w = w' := by
  unfold lone at h
  simp only [Machine.mk.injEq, and_true, Array.mk.injEq, List.cons.injEq, Goroutine.mk.injEq] at h
  exact ⟨h.2.1, h.2.2, h.1⟩

variable {Q : Program} {f : FuncId} {Post : Value → World → Prop}

theorem Rets.ended {m : Machine} (h : Rets Q f Post m) : ∃ n o w, runN Q n m = .ended o w ∧ Refused o := by
  obtain ⟨n, v, fr, w', hn, _, hl, _⟩ := h
  obtain ⟨o, ho, hr⟩ := wall_finish Q v w'
  refine ⟨n + 2, o, w', ?_, hr⟩
  rw [runN_add, hn]
  simp only [runN, step_leave_returned hl, ho]

theorem Rets.at {m : Machine} (h : Rets Q f Post m) {n : Nat} {fr : Frame} {cs : List Frame} {w : World} (hn : runN Q n m = .next (lone fr (cs ++ [wall]) w)) : Rets Q f Post (lone fr (cs ++ [wall]) w) := by
  obtain ⟨n₀, v, fr₀, w', h₀, hf, hl, hP⟩ := h
  rcases Nat.lt_or_ge n₀ n with hlt | hge
  · exfalso
    obtain ⟨k, rfl⟩ : ∃ k, n = n₀ + 1 + k := ⟨n - (n₀ + 1), by omega⟩
    have h1 : runN Q (n₀ + 1) m = .next (lone (wall.finish v) [] w') := by
      rw [runN_add, h₀]; simp only [runN, step_leave_returned hl]
    rw [runN_add, h1] at hn
    cases k with
    | zero =>
      simp only [runN, Stepped.next.injEq] at hn
      obtain ⟨_, hc, _⟩ := lone_inj hn
      simp at hc
    | succ k =>
      obtain ⟨o, ho, _⟩ := wall_finish Q v w'
      simp only [runN, ho] at hn
      cases hn
  · obtain ⟨k, rfl⟩ : ∃ k, n₀ = n + k := ⟨n₀ - n, by omega⟩
    rw [runN_add, hn] at h₀
    exact ⟨k, v, fr₀, w', h₀, hf, hl, hP⟩

theorem Rets.next {fr : Frame} {w : World} {m m' : Machine} (hm : m = lone fr [wall] w) (h : Rets Q f Post m) (hs : step Q m = .next m') :
    (fr.fn = f ∧ ∃ v, fr.leaving Q w (.returned v) ∧ Post v w) ∨ Rets Q f Post m' := by
  obtain ⟨n, v, fr₀, w', hn, hf, hl, hP⟩ := h
  cases n with
  | zero =>
    rw [hm] at hn
    simp only [runN, Stepped.next.injEq] at hn
    obtain ⟨rfl, _, rfl⟩ := lone_inj hn
    exact .inl ⟨hf, v, hl, hP⟩
  | succ n =>
    simp only [runN, hs] at hn
    exact .inr ⟨n, v, fr₀, w', hn, hf, hl, hP⟩

theorem Rets.not_ended {m : Machine} (h : Rets Q f Post m) {o : Outcome} {w : World} : step Q m ≠ .ended o w := by
  obtain ⟨n, v, fr₀, w', hn, hf, hl, hP⟩ := h
  intro hs
  cases n with
  | zero =>
    simp only [runN, Stepped.next.injEq] at hn
    subst hn
    rw [step_leave_returned hl] at hs
    cases hs
  | succ n => simp only [runN, hs] at hn; cases hn

theorem not_rets_of_no_callers {fr : Frame} {w w' : World} {o : Outcome} (hs : step Q (lone fr [] w) = .ended o w') : ¬ Rets Q f Post (lone fr [] w) := by
  rintro ⟨n, v, fr₀, w₀, hn, hf, hl, hP⟩
  cases n with
  | zero =>
    simp only [runN, Stepped.next.injEq] at hn
    obtain ⟨_, hc, _⟩ := lone_inj hn
    cases hc
  | succ n => simp only [runN, hs] at hn; cases hn

/-- What comes next where the lone run of the twin returns: a next state; or it is at its return. -/
theorem rets_nx (hW : Walkable P F f' S) (hM : Macro P F f' FS) {fr : Frame} {cs : List Frame} {w : World} (ho : OkStack P F S fr cs) (h : Rets (twin P F f') f Post (lone fr (cs ++ [wall]) w)) :
    (∃ fr' cs' w' k, Nx P F f' S FS fr cs w fr' cs' w' k) ∨ (cs = [] ∧ fr.fn = f ∧ ∃ v, fr.leaving (twin P F f') w (.returned v) ∧ Post v w) := by
  cases step_ok hW (w := w) ho with
  | go fr' cs' w' es k o g => exact .inl ⟨_, _, _, _, .go o g⟩
  | enters args w' es k a g =>
    rcases hM.total args w' a with ⟨v, w'', hx⟩ | hx
    · exact .inl ⟨_, _, _, _, .call g hx⟩
    · exfalso
      obtain ⟨es', h'⟩ := goes1_now g [wall]
      obtain ⟨n, o, w'', hn, hno⟩ := hx (fr :: cs ++ [wall])
      obtain ⟨m, o', w₂, hm, hr⟩ := h.ended
      have : runN (twin P F f') (n + 1) (lone fr (cs ++ [wall]) w) = .ended o w'' := by
        simp only [runN, lone_go h']; exact hn
      rw [ended_same this hm] at hno
      exact hno hr
  | comm v z w' es k t g =>
    obtain ⟨es', h'⟩ := comm1_now g [wall]
    cases hs : selRes w' v z with
    | some x => obtain ⟨x, w'', acts⟩ := x; exact .inl ⟨_, _, _, _, .sel g hs⟩
    | none =>
      obtain ⟨o, w₂, hx⟩ := lone_sel_none h' hs
      exact absurd hx h.not_ended
  | leaves hc g =>
    subst hc
    obtain ⟨c', w', es, hc', h'⟩ := g wall []
    rcases Rets.next rfl h (lone_go h') with hx | hx
    · exact .inr ⟨rfl, hx⟩
    · exfalso
      rcases hc' with ⟨v, rfl⟩ | ⟨ch, rfl⟩
      · obtain ⟨o, ho, _⟩ := wall_finish (twin P F f') v w'
        exact not_rets_of_no_callers ho hx
      · obtain ⟨o, w₂, ho⟩ := wall_raise (twin P F f') ch w'
        exact not_rets_of_no_callers ho hx
  | ends hx =>
    obtain ⟨o, w', es, h'⟩ := hx [wall]
    exact absurd (lone_end h') h.not_ended
end
end Lift
end Go.Proofs.Ytminoelijdpmeaa
