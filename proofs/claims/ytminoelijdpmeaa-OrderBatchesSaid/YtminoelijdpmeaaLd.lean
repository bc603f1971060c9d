/- One step of a goroutine whose frames are of the told code: alike in the program and in its twin, whoever waits below, wherever the answers are given. -/
import Derived.Test.YtminoelijdpmeaaLc
namespace Go.Proofs.Ytminoelijdpmeaa
namespace Lift
open Go.Conc
set_option linter.unusedSimpArgs false

theorem mem_seen {P : Program} {fn : FuncId} {es : Array Event} {e : Event} (h : e ∈ seen P fn es) : e ∈ es := by
  have key : ∀ (l : List Event) (x : Bool × Array Event) (g : Bool × Array Event → Event → Bool × Array Event), (∀ x e a, a ∈ (g x e).2 → a ∈ x.2 ∨ a = e) → ∀ a ∈ (l.foldl g x).2, a ∈ x.2 ∨ a ∈ l := by
    intro l
    induction l with
    | nil => intro x g hg a ha; exact .inl ha
    | cons y l ih =>
      intro x g hg a ha
      rw [List.foldl_cons] at ha
      rcases ih _ g hg a ha with h | h
      · rcases hg x y a h with h | h
        · exact .inl h
        · exact .inr (by simp [h])
      · exact .inr (by simp [h])
  dsimp only [seen] at h
  rw [← Array.foldl_toList] at h
  refine (key _ _ _ ?_ e h).elim (fun h => by simp at h) fun h => Array.mem_toList_iff.1 h
  intro x e a ha
  split at ha
  · exact .inl ha
  · dsimp only at ha
    split at ha
    · exact .inl ha
    · rcases Array.mem_push.1 ha with h | h
      · exact .inl h
      · exact .inr h

section
variable {P : Program} {F : FuncId} {f' : Func} {S : FuncId → Bool}

theorem enter_twin {f : FuncId} (h : f ≠ F) (args : Array Value) (k : CallKind) : Frame.enter (twin P F f') f args k = Frame.enter P f args k := by
  unfold Frame.enter
  rw [twin_funcs_ne h]

theorem apply_value {Q : Program} {fr : Frame} {C : List Frame} {s : Sem Next} {w w' : World} {es : Array Event} {v : Value} (hk : fr.kind = .normal) (hr : s.runT Q w #[] = (.ok (.value v) w', es)) :
    stepG.apply Q true fr C none s w = .go (Gor (fr.finish v) C) w' (seen Q fr.fn es ++ #[]) := by
  simp only [stepG.apply, if_true, hr, hk]; rfl
theorem apply_skip {Q : Program} {fr : Frame} {C : List Frame} {s : Sem Next} {w w' : World} {es : Array Event} (hk : fr.kind = .normal) (hr : s.runT Q w #[] = (.ok .skip w', es)) :
    stepG.apply Q true fr C none s w = .go (Gor (fr.finish undef) C) w' (seen Q fr.fn es ++ #[]) := by
  simp only [stepG.apply, if_true, hr, hk]; rfl
theorem apply_enter {Q : Program} {fr : Frame} {C : List Frame} {s : Sem Next} {w w' : World} {es : Array Event} {f : FuncId} {args : Array Value} (hk : fr.kind = .normal) (ht : ∃ ops l k, fr.todo = .inRegion ops l :: k) (hr : s.runT Q w #[] = (.ok (.enter f args) w', es)) :
    stepG.apply Q true fr C none s w = .go (Gor (Frame.enter Q f args .normal) (fr :: C)) w' (seen Q fr.fn es ++ #[]) := by
  obtain ⟨ops, l, k, ht⟩ := ht
  simp only [stepG.apply, if_true, hr, hk, ht]; rfl
theorem apply_comm {Q : Program} {fr : Frame} {C : List Frame} {s : Sem Next} {w w' : World} {es : Array Event} {cases : Array CommCase} {b : Bool} {sh : CommShape} (hk : fr.kind = .normal) (hr : s.runT Q w #[] = (.ok (.comm cases b sh) w', es)) :
    stepG.apply Q true fr C none s w = .comm (Gor fr C) cases b sh w' (seen Q fr.fn es ++ #[]) := by
  simp only [stepG.apply, if_true, hr, hk]; rfl
theorem apply_panic {Q : Program} {fr : Frame} {C : List Frame} {s : Sem Next} {w w' : World} {es : Array Event} {v : Value} (hk : fr.kind = .normal) (hr : s.runT Q w #[] = (.halt (.panic v) w', es)) :
    stepG.apply Q true fr C none s w = .go (Gor (fr.raise [{ v, recovered := false }]) C) w' (seen Q fr.fn es ++ #[]) := by
  simp only [stepG.apply, if_true, hr, hk]; rfl
theorem apply_stuck {Q : Program} {fr : Frame} {C : List Frame} {s : Sem Next} {w w' : World} {es : Array Event} {x : String} (hr : s.runT Q w #[] = (.halt (.stuck x) w', es)) :
    ∃ o w'' es'', stepG.apply Q true fr C none s w = .ended o w'' es'' := by
  simp only [stepG.apply, if_true, hr]; exact ⟨_, _, _, rfl⟩
theorem apply_unsupported {Q : Program} {fr : Frame} {C : List Frame} {s : Sem Next} {w w' : World} {es : Array Event} {x : Unsupported} (ha : Q.follows .staticDataAhead = true) (hs : ∀ g, Q.stepOf g = none) (hr : s.runT Q w #[] = (.halt (.unsupported x) w', es)) :
    ∃ o w'' es'', stepG.apply Q true fr C none s w = .ended o w'' es'' := by
  simp only [stepG.apply, if_true, hr]
  cases x
  case initOrder g =>
    simp only [early, ha, hs]
    exact ⟨_, _, _, rfl⟩
  all_goals exact ⟨_, _, _, rfl⟩

/-- A step that communicates without waiting. -/
structure Comm1 (P P' : Program) (fr : Frame) (cs : List Frame) (w : World) (cases : Array CommCase) (w' : World) (es : Array Event) (k : Nat) : Prop where
  own : ∀ tl τ d, (∀ j, j < k → τ (d + j) = w.tape (w.drawn + j)) → stepG P true (Gor fr (cs ++ tl)) (re w τ d) = .comm (Gor fr (cs ++ tl)) cases false .select (re w' τ (d + k)) es
  twin : ∀ tl τ d, (∀ j, j < k → τ (d + j) = w.tape (w.drawn + j)) → ∃ es', stepG P' true (Gor fr (cs ++ tl)) (re w τ d) = .comm (Gor fr (cs ++ tl)) cases false .select (re w' τ (d + k)) es'
  drawn : w'.drawn = w.drawn + k
  tape : w'.tape = w.tape
  grow : w.heap.size ≤ w'.heap.size
  evs : ∀ e ∈ es, Ev w'.heap.size e

/-- What one step is. -/
inductive Step1 (P : Program) (F : FuncId) (f' : Func) (S : FuncId → Bool) (fr : Frame) (cs : List Frame) (w : World) : Prop
  | go (fr' : Frame) (cs' : List Frame) (w' : World) (es : Array Event) (k : Nat) (h : OkStack P F S fr' cs') (g : Goes1 P (twin P F f') fr cs w fr' fr' cs' w' es k)
  | enters (args : Array Value) (w' : World) (es : Array Event) (k : Nat) (a : args.size = arity P F) (g : Goes1 P (twin P F f') fr cs w (Frame.enter P F args .normal) (Frame.enter (twin P F f') F args .normal) (fr :: cs) w' es k)
  | comm (v z : Value) (w' : World) (es : Array Event) (k : Nat) (t : ∃ ops i l r, fr.todo = .inRegion ops (i :: l) :: r) (g : Comm1 P (twin P F f') fr cs w #[⟨v, none, z⟩] w' es k)
  | leaves (h : cs = []) (g : ∀ c tl, ∃ c' w' es, ((∃ v, c' = c.finish v) ∨ ∃ ch, c' = c.raise ch) ∧ stepG (twin P F f') true (Gor fr (c :: tl)) w = .go (Gor c' tl) w' es)
  | ends (h : ∀ tl, ∃ o w' es, stepG (twin P F f') true (Gor fr (cs ++ tl)) w = .ended o w' es)

theorem step_oper (hW : Walkable P F f' S) {fr : Frame} {cs : List Frame} {w : World} (h : OkStack P F S fr cs) {ops : Array Oper} {i : Nat} {l : List Nat} {k : List Item} {o : Oper}
    (ht : fr.todo = .inRegion ops (i :: l) :: k) (hok : okOp P S o.op = true) (hs : ∀ (Q : Program) C w, stepG Q true (Gor fr C) w = stepG.apply Q true fr C none (execOp fr.eval o) w) : Step1 P F f' S fr cs w := by
  have hk := h.top.kind
  obtain ⟨n, hd, htp, hal, htw, hnx, hha, hgr, hev⟩ := tame_local _ (tame_exec (f' := f') hW.toCallable hok (ρ := fr.eval) fun _ => rfl) w #[]
  have alike : ∀ τ d, (∀ j, j < n → τ (d + j) = w.tape (w.drawn + j)) → (execOp fr.eval o).runT (twin P F f') (re w τ d) #[] = (execOp fr.eval o).runT P (re w τ d) #[] := fun τ d _ => by
    obtain ⟨_, x⟩ := tame_local _ (tame_exec (f' := f') hW.toCallable hok (ρ := fr.eval) fun _ => rfl) (re w τ d) #[]
    exact x.twin
  have hevs : ∀ {r : Result Next} {es : Array Event}, (execOp fr.eval o).runT P w #[] = (r, es) → ∀ e ∈ seen P fr.fn es ++ #[], Ev (rw r).heap.size e := by
    intro r es hr e he
    rw [hr] at hev
    rcases hev e (mem_seen (by simpa using he)) with x | x
    · simp at x
    · exact x
  cases hr : (execOp fr.eval o).runT P w #[] with
  | mk r es =>
    have hev' := hevs hr
    rw [hr] at hd htp hal hnx hha hgr htw
    cases r with
    | ok nx w' =>
      have hnx' := hnx nx w' rfl
      cases nx with
      | value v =>
        refine .go (fr.finish v) cs w' _ n ⟨h.top.finish v, h.rest⟩ ⟨fun tl τ d hag => ?_, fun tl τ d hag => ?_, hd, htp, hgr, hev'⟩
        · rw [hs]; exact apply_value hk (hal τ d hag)
        · rw [hs]; exact ⟨_, apply_value hk ((alike τ d hag).trans (hal τ d hag))⟩
      | skip =>
        refine .go (fr.finish undef) cs w' _ n ⟨h.top.finish undef, h.rest⟩ ⟨fun tl τ d hag => ?_, fun tl τ d hag => ?_, hd, htp, hgr, hev'⟩
        · rw [hs]; exact apply_skip hk (hal τ d hag)
        · rw [hs]; exact ⟨_, apply_skip hk ((alike τ d hag).trans (hal τ d hag))⟩
      | enter f args =>
        have ht' : ∃ ops l k, fr.todo = .inRegion ops l :: k := ⟨_, _, _, ht⟩
        by_cases hF : f = F
        · subst hF
          refine .enters args w' _ n hnx'.2 ⟨fun tl τ d hag => ?_, fun tl τ d hag => ?_, hd, htp, hgr, hev'⟩
          · rw [hs]; exact apply_enter hk ht' (hal τ d hag)
          · rw [hs]; exact ⟨_, apply_enter hk ht' ((alike τ d hag).trans (hal τ d hag))⟩
        · refine .go (Frame.enter P f args .normal) (fr :: cs) w' _ n ⟨OkFrame.enter hW hnx'.1 hF args, fun c hc => ?_⟩ ⟨fun tl τ d hag => ?_, fun tl τ d hag => ?_, hd, htp, hgr, hev'⟩
          · rcases List.mem_cons.1 hc with rfl | hc
            · exact h.top
            · exact h.rest c hc
          · rw [hs]; exact apply_enter hk ht' (hal τ d hag)
          · rw [hs, ← enter_twin (f' := f') hF]; exact ⟨_, apply_enter hk ht' ((alike τ d hag).trans (hal τ d hag))⟩
      | comm cases b sh =>
        obtain ⟨rfl, rfl, v, z, rfl⟩ := hnx'
        refine .comm v z w' _ n ⟨_, _, _, _, ht⟩ ⟨fun tl τ d hag => ?_, fun tl τ d hag => ?_, hd, htp, hgr, hev'⟩
        · rw [hs]; exact apply_comm hk (hal τ d hag)
        · rw [hs]; exact ⟨_, apply_comm hk ((alike τ d hag).trans (hal τ d hag))⟩
      | _ => exact hnx'.elim
    | halt x w' =>
      have hha' := hha x w' rfl
      cases x with
      | panic v =>
        refine .go (fr.raise [{ v, recovered := false }]) cs w' _ n ⟨h.top.raise _, h.rest⟩ ⟨fun tl τ d hag => ?_, fun tl τ d hag => ?_, hd, htp, hgr, hev'⟩
        · rw [hs]; exact apply_panic hk (hal τ d hag)
        · rw [hs]; exact ⟨_, apply_panic hk ((alike τ d hag).trans (hal τ d hag))⟩
      | stuck x => exact .ends fun tl => by rw [hs]; exact apply_stuck htw
      | unsupported x => exact .ends fun tl => by rw [hs]; exact apply_unsupported (show P.follows .staticDataAhead = true from hW.ahead) hW.still htw
      | _ => exact hha'.elim
end
end Lift
end Go.Proofs.Ytminoelijdpmeaa
