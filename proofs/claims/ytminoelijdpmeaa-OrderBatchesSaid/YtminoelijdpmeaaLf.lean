/- Goroutine 0 beside leavers: what it reaches, and that the run ends: step by step, whatever the leavers do between. -/
import Derived.Test.YtminoelijdpmeaaLe
import Derived.Conc.Token
import Derived.DuoClaim
namespace Go.Proofs.Ytminoelijdpmeaa
namespace Lift
open Go.Conc
set_option linter.unusedSimpArgs false

/-- Goroutine 0 stands at g in w; all others only leave; the trace names nothing that is not there. -/
structure At (P : Program) (g : Goroutine) (w : World) (gs : Array Goroutine) (t : Trace) (q : Nat → Nat) : Prop where
  zero : gs[0]? = some g
  lv : Leavers P t gs q
  past : Past (fun _ => False) w.heap.size t

def Reaches (P : Program) (g : Goroutine) (w : World) (Q : Goroutine → World → Prop) : Prop :=
  ∀ gs sl t q, At P g w gs t q → ∃ (N : Nat) (gs' : Array Goroutine) (g' : Goroutine) (w' : World) (sl' : Option (Nat × Nat)) (t' : Trace) (q' : Nat → Nat),
    runNT P N (crowd gs w sl) t = (.next (crowd gs' w' sl'), t') ∧ At P g' w' gs' t' q' ∧ Q g' w'

def Ends (P : Program) (Post : Value → World → Prop) (g : Goroutine) (w : World) : Prop :=
  ∀ gs sl t q, At P g w gs t q → ∃ N last o w' t', runNT P (N + 1) (crowd gs w sl) t = (.ended o w', t') ∧ runN P N (crowd gs w sl) = .next last ∧ step P last = .ended o w' ∧ Go.Conc.Good P Post last o w' t'

section
variable {P : Program} {g : Goroutine} {w : World} {Q : Goroutine → World → Prop} {Post : Value → World → Prop}

theorem picked0 {gs : Array Goroutine} {sl : Option (Nat × Nat)} {t : Trace} {q : Nat → Nat} (hA : At P g w gs t q) (hrun : g.status = .running) :
    ∃ (N : Nat) (gs' : Array Goroutine) (d d' : Nat) (sl' sl'' : Option (Nat × Nat)) (t' : Trace) (q' : Nat → Nat), runNT P N (crowd gs w sl) t = (.next (crowd gs' (w.at d) sl'), t') ∧
      stepT P (crowd gs' (w.at d) sl') = runT P (crowd gs' (w.at d') sl'') 0 ∧ At P g (w.at d') gs' t' q' := by
  obtain ⟨N, gs', d, d', sl', sl'', t', q', hr, hst, _, ha, C⟩ := picked (P := P) (K := fun _ => True) (Still := fun _ => False) (sl := sl) (fun _ _ _ => trivial) hA.zero hrun (ring_begin (fun _ x => x.elim) hA.lv hA.past trivial)
  obtain ⟨hl, hp⟩ := ring_end C rfl fun _ _ => rfl
  exact ⟨N, gs', d, d', sl', sl'', t', q', hr, hst, ha, hl, hp⟩

theorem Reaches.trans {R : Goroutine → World → Prop} (h : Reaches P g w Q) (hq : ∀ g' w', Q g' w' → Reaches P g' w' R) : Reaches P g w R := by
  intro gs sl t q hA
  obtain ⟨N, gs', g', w', sl', t', q', hr, hA', hQ⟩ := h gs sl t q hA
  obtain ⟨M, gs'', g'', w'', sl'', t'', q'', hr', hA'', hR⟩ := hq g' w' hQ gs' sl' t' q' hA'
  exact ⟨N + M, gs'', g'', w'', sl'', t'', q'', by rw [runNT_add, hr]; exact hr', hA'', hR⟩
theorem Reaches.here (h : Q g w) : Reaches P g w Q := fun gs sl t q hA => ⟨0, gs, g, w, sl, t, q, rfl, hA, h⟩

/-- One step of goroutine 0's own, once it is picked. -/
theorem go_now {gs : Array Goroutine} {sl : Option (Nat × Nat)} {t : Trace} {q : Nat → Nat} (hA : At P g w gs t q) {g' : Goroutine} {w' : World} {es : Array Event} (hgo : stepG P true g w = .go g' w' es) (hgr : w.heap.size ≤ w'.heap.size) (hev : ∀ e ∈ es, Ev w'.heap.size e) :
    ∃ (gs' : Array Goroutine) (t' : Trace), runT P (crowd gs w sl) 0 = (.next (crowd gs' w' sl), t') ∧ At P g' w' gs' (t ++ t') q := by
  have hrunT := runT_crowd_go (P := P) (sl := sl) (i := 0) hA.zero (show stepG P (0 == 0) g w = _ from hgo)
  have hlt : 0 < gs.size := (Array.getElem?_eq_some_iff.1 hA.zero).1
  refine ⟨(gs.map (woken P g g' w')).setIfInBounds 0 g', MemOp.ofEvents 0 g.frame.fn g.frame.place es, hrunT, ⟨by simp [hlt], ⟨fun j x hj hx => ?_, fun j hj => ?_⟩, ?_⟩⟩
  · have hne : 0 ≠ j := by omega
    rw [Array.getElem?_setIfInBounds_ne hne, Array.getElem?_map] at hx
    obtain ⟨y, hy, rfl⟩ := Option.map_eq_some_iff.1 hx
    have hq := hA.lv.old j y hj hy
    rw [woken_quitsD hq, Deaf_other t (by omega) _ (fun op hop => by obtain ⟨e, _, rfl⟩ := Go.Conc.mem_ofEvents hop; rfl)]
    exact hq
  · rw [Deaf_other t (g' := 0) (by simp at hj; omega) _ (fun op hop => by obtain ⟨e, _, rfl⟩ := Go.Conc.mem_ofEvents hop; rfl)]
    exact hA.lv.above j (by simpa using hj)
  · exact (hA.past.mono hgr).own hev

theorem ends_of_reaches (h : Reaches P g w Q) (hq : ∀ g' w', Q g' w' → Ends P Post g' w') : Ends P Post g w := by
  intro gs sl t q hA
  obtain ⟨N, gs', g', w', sl', t', q', hr, hA', hQ⟩ := h gs sl t q hA
  obtain ⟨M, last, o, w'', t'', h1, h2, h3, h4⟩ := hq g' w' hQ gs' sl' t' q' hA'
  refine ⟨N + M, last, o, w'', t'', by rw [Nat.add_assoc, runNT_add, hr]; exact h1, ?_, h3, h4⟩
  have : runN P N (crowd gs w sl) = .next (crowd gs' w' sl') := by rw [← runNT_fst P N _ t, hr]
  rw [runN_add, this]
  exact h2

theorem ends_done (hrun : g.status = .running) (hs : ∀ d, ∃ v es, stepG P true g (w.at d) = .ended (.done v) (w.at d) es ∧ (∀ e ∈ es, Ev w.heap.size e) ∧ Post v (w.at d)) : Ends P Post g w := by
  intro gs sl t q hA
  refine beside_ends (n := 0) (D := fun _ _ _ => False) (fun _ _ _ h => h.elim) hA.zero hA.lv hA.past ?_
  intro w₁ hw
  obtain ⟨d, rfl⟩ := hw
  obtain ⟨v, es, h1, h2, h3⟩ := hs d
  exact ⟨hrun, v, es, h1, h2, h3⟩
end
end Lift
end Go.Proofs.Ytminoelijdpmeaa
