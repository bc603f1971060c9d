/- The operations that a lone walk may take over into the company of leavers: told by looking at the code; each is tame. -/
import Derived.Test.YtminoelijdpmeaaLb
namespace Go.Proofs.Ytminoelijdpmeaa
namespace Lift
open Go.Conc
set_option linter.unusedSimpArgs false

/-- How many arguments a function takes. -/
def arity (P : Program) (f : FuncId) : Nat := ((P.funcs[f]?).map (·.params.size)).getD 0
/-- What such an operation leads to. -/
def NextOk (P : Program) (S : FuncId → Bool) : Next → Prop
  | .value _ => True
  | .skip => True
  | .enter f args => S f = true ∧ args.size = arity P f
  | .comm cases b sh => b = false ∧ sh = .select ∧ ∃ v z, cases = #[⟨v, none, z⟩]
  | _ => False

def okBuiltin : Builtin → Bool
  | .len => true
  | .append => true
  | .min => true
  | .max => true
  | _ => false

def okOp (P : Program) (S : FuncId → Bool) : Op → Bool
  | .move _ => true
  | .assign _ => true
  | .pick _ _ _ => true
  | .extract _ _ => true
  | .binOp _ t _ _ _ => plainT (P.underlying t)
  | .unOp _ _ _ => true
  | .indexAddr _ _ _ => true
  | .load _ _ => true
  | .store _ _ _ => true
  | .makeSlice _ _ _ => true
  | .slice _ _ _ _ _ => true
  | .buildSlice _ _ _ => true
  | .alloc _ => true
  | .box _ _ => true
  | .convert s d _ => intT (P.underlying s) && intT (P.underlying d)
  | .call c => match c.callee with
    | .value (.func f) => S f && c.args.size == arity P f
    | .builtin b => okBuiltin b
    | _ => false
  | .select cs b => !b && match cs.toList with
    | [c] => c.send.isNone
    | _ => false
  | _ => false

section
variable {P : Program} {F : FuncId} {f' : Func} {S : FuncId → Bool}

theorem tame_listMapM {α β : Type} (g : α → Sem β) (hg : ∀ a, Tame P (twin P F f') Any (g a)) (l : List α) : Tame P (twin P F f') Any (l.mapM g) := by
  induction l with
  | nil => exact trivial
  | cons x l ih => rw [List.mapM_cons]; exact Tame.any (hg x) fun _ => Tame.any ih fun _ => trivial
theorem tame_mapM {α β : Type} (g : α → Sem β) (hg : ∀ a, Tame P (twin P F f') Any (g a)) (l : Array α) : Tame P (twin P F f') Any (l.mapM g) := by
  rw [Array.mapM_eq_mapM_toList, ← bind_pure_comp]
  exact Tame.any (tame_listMapM g hg _) fun _ => trivial

/-- The functions that may be called are there, with a body, in both programs. -/
structure Callable (P : Program) (F : FuncId) (f' : Func) (S : FuncId → Bool) : Prop where
  own : ∀ f, S f = true → ∃ fn, P.funcs[f]? = some fn ∧ fn.body.isNone = false ∧ (fn.name == "runtime.NumGoroutine") = false
  other : f'.body.isNone = false ∧ (f'.name == "runtime.NumGoroutine") = false

theorem twin_funcs_ne {f : FuncId} (h : f ≠ F) : (twin P F f').funcs[f]? = P.funcs[f]? := by
  unfold twin
  exact Array.getElem?_setIfInBounds_ne (Ne.symm h)
theorem twin_funcs_self {fn : Func} (h : P.funcs[F]? = some fn) : (twin P F f').funcs[F]? = some f' := by
  unfold twin
  exact Array.getElem?_setIfInBounds_self_of_lt (Array.getElem?_eq_some_iff.1 h).1

theorem tame_callFunc (hC : Callable P F f' S) {f : FuncId} (hf : S f = true) (args : Array Value) (ha : args.size = arity P f) : Tame P (twin P F f') (NextOk P S) (callFunc f args) := by
  obtain ⟨fn, h1, h2, h3⟩ := hC.own f hf
  have h4 : ∃ fn', (twin P F f').funcs[f]? = some fn' ∧ fn'.body.isNone = false ∧ (fn'.name == "runtime.NumGoroutine") = false := by
    by_cases hF : f = F
    · subst hF; exact ⟨f', twin_funcs_self h1, hC.other.1, hC.other.2⟩
    · exact ⟨fn, (twin_funcs_ne hF).trans h1, h2, h3⟩
  obtain ⟨fn', k1, k2, k3⟩ := h4
  unfold callFunc
  refine tame_program ?_ ?_
  · simp only [h1, k1, h2, k2, h3, k3, Bool.false_eq_true, if_false]
  · simp only [h1, h2, h3, Bool.false_eq_true, if_false]
    exact ⟨hf, ha⟩

theorem tame_exec (hC : Callable P F f' S) {o : Oper} (ho : okOp P S o.op = true) {ρ : Operand → Value} (hρ : ∀ f, ρ (.func f) = .func (.func f) #[] #[]) : Tame P (twin P F f') (NextOk P S) (execOp ρ o) := by
  obtain ⟨dst, op, type, pos, after, guard⟩ := o
  have hv : ∀ s : Sem Value, Tame P (twin P F f') Any s → Tame P (twin P F f') (NextOk P S) (do pure (.value (← s))) := fun s hs => Tame.any hs fun _ => trivial
  have hu : ∀ s : Sem Unit, Tame P (twin P F f') Any s → Tame P (twin P F f') (NextOk P S) (do s; pure .skip) := fun s hs => Tame.any hs fun _ => trivial
  cases op <;> first | (exact absurd ho Bool.false_ne_true) | skip
  case move x => exact trivial
  case assign x => exact trivial
  case pick c a b => exact Tame.any (tame_asBool _) fun _ => trivial
  case alloc t => exact hv _ (tame_alloc _ _ _)
  case box t x => exact hv _ (tame_box _ _)
  case buildSlice t n ps => exact hv _ (tame_buildSlice _ _ _)
  case load t a => exact hv _ (tame_loadAt _ _)
  case store t a x => exact hu _ (tame_storeAt _ _ _)
  case binOp op t x y u => exact hv _ (Tame.any (tame_eqGuard _ _ _ _ _ _ ho) fun _ => tame_binOp _ _ _ _ ho)
  case unOp op t x => exact hv _ (tame_unary _ _)
  case convert s d x =>
    rw [okOp, Bool.and_eq_true] at ho
    exact hv _ (tame_convert _ _ _ ho.1 ho.2)
  case makeSlice t l c => exact hv _ (tame_makeSlice _ _ _)
  case slice t x lo hi mx => exact hv _ (tame_sliceAt _ _ _ _ _)
  case indexAddr t x i => exact hv _ (tame_indexAt _ _ _)
  case extract t i => exact hv _ (tame_extract _ _)
  case call c =>
    obtain ⟨callee, args, argTypes⟩ := c
    cases callee with
    | value f =>
      cases f with
      | func f =>
        have ho' : (S f && args.size == arity P f) = true := ho
        rw [Bool.and_eq_true, beq_iff_eq] at ho'
        have h := tame_callFunc (args := (#[] ++ args.map ρ) ++ #[]) hC (f := f) ho'.1 (by simpa using ho'.2)
        have e : execOp ρ ⟨dst, .call ⟨.value (.func f), args, argTypes⟩, type, pos, after, guard⟩ = callFunc f ((#[] ++ args.map ρ) ++ #[]) := by
          show (Deferred.ofValue (ρ (.func f)) (args.map ρ) >>= fun d => invoke d.target d.args) = _
          rw [hρ]; rfl
        rw [e]; exact h
      | _ => exact absurd ho Bool.false_ne_true
    | invoke r n => exact absurd ho Bool.false_ne_true
    | builtin b =>
      cases b <;> first | (exact absurd ho Bool.false_ne_true) | skip
      · exact hv _ (tame_append _ _ _)
      · exact hv _ (tame_len _ _ _)
      · exact hv _ (tame_max _ _ _)
      · exact hv _ (tame_min _ _ _)
  case select cs b =>
    obtain ⟨cs⟩ := cs
    cases b with
    | true => exact absurd ho Bool.false_ne_true
    | false =>
      cases cs with
      | nil => exact absurd ho Bool.false_ne_true
      | cons c cs =>
        cases cs with
        | cons c' cs => exact absurd ho Bool.false_ne_true
        | nil =>
          obtain ⟨ch, snd, el⟩ := c
          cases snd with
          | some x => exact absurd ho Bool.false_ne_true
          | none =>
            have e : execOp ρ ⟨dst, .select #[⟨ch, none, el⟩] false, type, pos, after, guard⟩ = (zeroValue el >>= fun z => pure (.comm #[⟨ρ ch, none, z⟩] false .select)) := by
              simp [execOp]
            rw [e]
            exact Tame.any (tame_zeroValue _) fun z => ⟨rfl, rfl, _, _, rfl⟩

/-! ### the code and the frames -/
def okCode (P : Program) (S : FuncId → Bool) : Code → Bool
  | .skip => true
  | .region _ ops _ => ops.all fun o => okOp P S o.op
  | .seq a b => okCode P S a && okCode P S b
  | .cond _ a b => okCode P S a && okCode P S b
  | .block _ c => okCode P S c
  | .loop c => okCode P S c
  | .exit _ => true
  | .ret => true
  | _ => false
def okItem (P : Program) (S : FuncId → Bool) : Item → Bool
  | .code c => okCode P S c
  | .inBlock _ => true
  | .inLoop c => okCode P S c
  | .inRegion ops _ => ops.all fun o => okOp P S o.op
  | _ => false

/-- The functions that a walk may enter: all but F have bodies of such code, and results that are read without a touch of the outside. -/
structure Walkable (P : Program) (F : FuncId) (f' : Func) (S : FuncId → Bool) : Prop extends Callable P F f' S where
  body : ∀ f, S f = true → f ≠ F → ∃ fn c, P.funcs[f]? = some fn ∧ fn.body = some c ∧ okCode P S c = true
  ahead : P.follows .staticDataAhead = true
  still : ∀ g, (twin P F f').stepOf g = none

structure OkFrame (P : Program) (F : FuncId) (S : FuncId → Bool) (fr : Frame) : Prop where
  items : ∀ x ∈ fr.todo, okItem P S x = true
  defers : fr.defers = []
  kind : fr.kind = .normal
  round : fr.roundOf = none
  fn : S fr.fn = true
  other : fr.fn ≠ F

structure OkStack (P : Program) (F : FuncId) (S : FuncId → Bool) (fr : Frame) (cs : List Frame) : Prop where
  top : OkFrame P F S fr
  rest : ∀ c ∈ cs, OkFrame P F S c

def Gor (fr : Frame) (cs : List Frame) : Goroutine := { frame := fr, callers := cs, status := .running, dying := none }

theorem OkFrame.finish {fr : Frame} (h : OkFrame P F S fr) (v : Value) : OkFrame P F S (fr.finish v) := by
  obtain ⟨fn, tmps, todo, defers, mode, kind, round⟩ := fr
  obtain ⟨h1, h2, h3, h4, h5, h6⟩ := h
  unfold Frame.finish
  cases todo with
  | nil => exact ⟨h1, h2, h3, h4, h5, h6⟩
  | cons x k =>
    have hx := h1 x (by simp)
    cases x with
    | inRegion ops l =>
      cases l with
      | nil => exact ⟨h1, h2, h3, h4, h5, h6⟩
      | cons i l =>
        refine ⟨fun y hy => ?_, h2, h3, h4, h5, h6⟩
        rcases List.mem_cons.1 hy with rfl | hy
        · exact hx
        · exact h1 y (by simp [hy])
    | inRangeFunc l => exact absurd hx Bool.false_ne_true
    | beginRound => exact absurd hx Bool.false_ne_true
    | call d w r sv => exact absurd hx Bool.false_ne_true
    | extern r as => exact absurd hx Bool.false_ne_true
    | _ => exact ⟨h1, h2, h3, h4, h5, h6⟩
theorem OkFrame.raise {fr : Frame} (h : OkFrame P F S fr) (ch : List PanicEntry) : OkFrame P F S (fr.raise ch) := by
  unfold Frame.raise
  split <;> exact ⟨h.1, h.2, h.3, h.4, h.5, h.6⟩
theorem OkFrame.enter (hW : Walkable P F f' S) {f : FuncId} (hf : S f = true) (hF : f ≠ F) (args : Array Value) : OkFrame P F S (Frame.enter P f args .normal) := by
  obtain ⟨fn, c, h1, h2, h3⟩ := hW.body f hf hF
  refine ⟨fun x hx => ?_, rfl, rfl, rfl, hf, hF⟩
  simp only [Frame.enter, h1, Option.bind_some, h2, Option.getD_some, List.mem_singleton] at hx
  subst hx
  exact h3
theorem OkFrame.todo {fr : Frame} (h : OkFrame P F S fr) {k : List Item} (hk : ∀ x ∈ k, okItem P S x = true) : OkFrame P F S { fr with todo := k } := ⟨hk, h.2, h.3, h.4, h.5, h.6⟩

/-- One step, alike in both programs, whoever waits below, wherever the answers are given. -/
structure Goes1 (P P' : Program) (fr : Frame) (cs : List Frame) (w : World) (fr' fr'' : Frame) (cs' : List Frame) (w' : World) (es : Array Event) (k : Nat) : Prop where
  own : ∀ tl τ d, (∀ j, j < k → τ (d + j) = w.tape (w.drawn + j)) → stepG P true (Gor fr (cs ++ tl)) (re w τ d) = .go (Gor fr' (cs' ++ tl)) (re w' τ (d + k)) es
  twin : ∀ tl τ d, (∀ j, j < k → τ (d + j) = w.tape (w.drawn + j)) → ∃ es', stepG P' true (Gor fr (cs ++ tl)) (re w τ d) = .go (Gor fr'' (cs' ++ tl)) (re w' τ (d + k)) es'
  drawn : w'.drawn = w.drawn + k
  tape : w'.tape = w.tape
  grow : w.heap.size ≤ w'.heap.size
  evs : ∀ e ∈ es, Ev w'.heap.size e

theorem goes1_plain {P' : Program} {fr fr' : Frame} {cs cs' : List Frame} {w : World} (h : ∀ (Q : Program) tl w, Q = P ∨ Q = P' → stepG Q true (Gor fr (cs ++ tl)) w = .go (Gor fr' (cs' ++ tl)) w #[]) : Goes1 P P' fr cs w fr' fr' cs' w #[] 0 :=
  ⟨fun tl τ d _ => h P tl _ (.inl rfl), fun tl τ d _ => ⟨_, h P' tl _ (.inr rfl)⟩, rfl, rfl, Nat.le_refl _, by simp⟩
end
end Lift
end Go.Proofs.Ytminoelijdpmeaa
