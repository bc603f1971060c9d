/- A region that draws its order, walked in a round of a range over a function by the lone laws with a held condition. No condition. -/
import Derived.Test.YthllilkafdgheaaBia
import Derived.Deep.QuietTactic
import Derived.BigQuiet
import Derived.OrdersHeld
namespace Go.Proofs.Ythllilkafdgheaa
open Go.RowKit Go.Shelf
set_option linter.unusedVariables false

/-- No operation defers. -/
def noDefer (ops : Array Oper) : Bool := ops.all (fun o => match o.op with | .defer _ => false | _ => true)

theorem rowsIn_round {l n : Nat} {P : Program} {row : String} {args : Array Value} {w : World} {R : Value → World → Prop} (h : Rows P row args w R) : RowsIn (Fence.wide.inRound l) n P row args w R := fun c cs _ => by
  obtain ⟨v, w', r, s⟩ := h c cs
  exact ⟨v, w', r, stepsIn_wide.2 s⟩

theorem wpOpsIn_of_wpOps {l n : Nat} {P : Program} {ops : Array Oper} {Q : Exit → Act → World → Prop} (hd : noDefer ops = true) (hQ : ¬ LetsOut Q) :
    ∀ (s : List Nat) (a : Act) (w : World), wpOps P ops Q s a w → wpOpsIn (Fence.wide.inRound l) n P ops Q s a w
  | [], a, w, h => h
  | i :: rest, a, w, h => by
    unfold wpOps at h
    unfold wpOpsIn
    cases ho : ops[i]? with
    | none => rw [ho] at h; exact wpOpsIn_of_wpOps hd hQ rest a w h
    | some o =>
      rw [ho] at h
      simp only at h ⊢
      have hno : ∀ c, o.op ≠ .defer c := fun c e => by
        obtain ⟨hi, rfl⟩ := Array.getElem?_eq_some_iff.1 ho
        unfold noDefer at hd
        have := Array.all_eq_true.1 hd i hi
        rw [e] at this
        cases this
      by_cases hw : Region.wanted o (yielded ops a.tmps) = true
      · rw [if_pos hw] at h ⊢
        refine ⟨fun _ _ => trivial, ?_⟩
        rw [Oper.semAt_eq _ _ _ hno]
        rcases h with h | h
        · unfold Oper.wp at h
          generalize (execOp a.eval o).run P w = r at h ⊢
          cases r with
          | ok nx w' =>
            cases nx <;> simp only [Oper.upon, Oper.uponIn] at h ⊢
            case value v => exact wpOpsIn_of_wpOps hd hQ rest _ _ h
            case skip => exact wpOpsIn_of_wpOps hd hQ rest _ _ h
            case defer d => exact wpOpsIn_of_wpOps hd hQ rest _ _ h
            case enter f args =>
              refine ⟨fun e => (by cases e), CallsIn.inRound l (callsIn_wide.2 (h.mono fun e w'' he => ?_))⟩
              cases e with
              | returned v => exact wpOpsIn_of_wpOps hd hQ rest _ _ he
              | panicked chain => exact he
              | outgrown => exact he
            case row row args => exact ⟨fun e => (by cases e), rowsIn_round (h.mono fun v w'' he => wpOpsIn_of_wpOps hd hQ rest _ _ he)⟩
          | halt x w' => cases x <;> simp only [Oper.upon, Oper.uponIn] at h ⊢ <;> first | exact h | exact h.elim
        · exact absurd h.2 hQ
      · rw [if_neg hw] at h ⊢
        exact ⟨fun _ _ => trivial, wpOpsIn_of_wpOps hd hQ rest _ _ h⟩

theorem wpIn_normal {F : Fence} {n : Nat} {P : Program} {c : Code} {K : Act → World → Prop} {Q : Exit → Act → World → Prop} {a : Act} {w : World} (h : c.wpIn F n P (Exit.then K (fun _ _ _ => False)) a w) : c.wpIn F n P (Exit.then K Q) a w :=
  wpIn_mono h (fun e a w h => by cases e <;> first | exact h | exact h.elim)

/-- A region that draws its order, in a round, with a held condition. -/
theorem wpIn_region_held {l n id : Nat} {P : Program} {ops : Array Oper} {K : Act → World → Prop} {Q : Exit → Act → World → Prop} (S : World → Prop) {a : Act} {w : World} (hd : noDefer ops = true) (hm : P.follows .mixedOrders = true)
    (h : wpAnyH P .any ops (Exit.then K (fun _ _ _ => False)) S ops.size (Array.replicate ops.size false) a w.drew) : (Code.region id ops true).wpIn (Fence.wide.inRound l) n P (Exit.then K Q) a w := by
  refine wpIn_normal (wpIn_region_draw fun t => ?_)
  simp only [Region.schedule, hm, Bool.true_or, if_true]
  exact wpOpsIn_of_wpOps hd (fun ⟨_, _, h⟩ => h) _ _ _ (wpAny_sound ops.size t _ a _ (wpAny_of_held _ _ _ _ h))

/-- A region that draws its order and only reads, in a round. -/
theorem wpIn_region_quiet_round {l n id : Nat} {P : Program} {os : List Oper} {K : Act → World → Prop} {Q : Exit → Act → World → Prop} {a : Act} {w : World} (hd : noDefer os.toArray = true) (hm : P.follows .mixedOrders = true) (hB : Region.lexB .any os.toArray = true)
    (h : wpQuiet P os.toArray (fun w' => ∃ n, w' = w.drewN n) (fun a' => ∀ w', (∃ n, w' = w.drewN n) → K a' w') os a) : (Code.region id os.toArray true).wpIn (Fence.wide.inRound l) n P (Exit.then K Q) a w := by
  refine wpIn_normal (wpIn_region_draw fun t => ?_)
  simp only [Region.schedule, hm, Bool.true_or, if_true]
  simp only [Region.lexB, Bool.and_eq_true] at hB
  have h2 := wpAnyQ_lex (P := P) (C := fun w' => ∃ n, w' = w.drewN n) (Q := fun a' => ∀ w', (∃ n, w' = w.drewN n) → K a' w') (md := .any) hB.1 os 0 (Array.replicate os.toArray.size false) a (by simp) (by simpa using hB.2) h
  refine wpOpsIn_of_wpOps hd (fun ⟨_, _, h⟩ => h) _ _ _ (wpAny_sound os.toArray.size t _ a _ (wpAny_of_quiet (C := fun w' => ∃ n, w' = w.drewN n) (Q := fun a' => ∀ w', (∃ n, w' = w.drewN n) → K a' w') (fun a w' hw' h => h w' hw') _ _ _ _ ⟨1, rfl⟩ (by simpa using h2)))
end Go.Proofs.Ythllilkafdgheaa
