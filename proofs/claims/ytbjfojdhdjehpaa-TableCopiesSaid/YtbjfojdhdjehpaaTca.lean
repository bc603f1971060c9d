/- Plain facts on sorted lists of entries: what a table holds after Set. No condition. -/
import Derived.Test.YtbjfojdhdjehpaaTc
namespace Go.Proofs.Ytbjfojdhdjehpaa
open Go.RowKit
set_option linter.unusedVariables false

section
variable {α : Type} {kv : Int → Value} {vv : α → Value}
/-- The value of a key, or z. -/
def getK (z : α) (k : Int) (L : List (Int × α)) : α := if hasK k L then (match L[idx k L]? with | some p => p.2 | none => z) else z
theorem getK_no {z : α} {k : Int} {L : List (Int × α)} (h : hasK k L = false) : getK z k L = z := by unfold getK; rw [h]; rfl
theorem hasK_at {k : Int} {L : List (Int × α)} (h : hasK k L = true) : ∃ v, L[idx k L]? = some (k, v) := by
  unfold hasK at h
  cases hq : L[idx k L]? with
  | none => rw [hq] at h; simp at h
  | some p =>
    rw [hq] at h
    obtain ⟨a, b⟩ := p
    simp at h
    subst h
    exact ⟨b, rfl⟩
theorem getK_at {z : α} {k : Int} {v : α} {L : List (Int × α)} (h : L[idx k L]? = some (k, v)) : getK z k L = v := by
  have : hasK k L = true := by unfold hasK; rw [h]; simp
  unfold getK; rw [this, h]; rfl

/-- The entries after Set. -/
def putK (k : Int) (v : α) (L : List (Int × α)) : List (Int × α) := if hasK k L then L.set (idx k L) (k, v) else L.take (idx k L) ++ (k, v) :: L.drop (idx k L)

theorem ecs_set : ∀ (L : List (Int × α)) (i : Nat) (k : Int) (v v' : α), L[i]? = some (k, v) → (ecs kv vv L).set (i * 2 + 1) (vv v') = ecs kv vv (L.set i (k, v'))
  | (k', u) :: r, 0, k, v, v', h => by simp at h; simp [ecs, h.1]
  | (k', u) :: r, i + 1, k, v, v', h => by
    rw [show (i + 1) * 2 + 1 = i * 2 + 1 + 2 by omega]
    simp only [ecs, List.set_cons_succ]
    rw [ecs_set r i k v v' (by simpa using h)]
end

theorem Row.set {e : TypeId} {z g n cap : Nat} {xs : List Value} {w : World} (h : Row e z g n cap xs w) (j : Nat) (u : Value) : Row e z g n cap (xs.set j u) (w.setCell ⟨g, j, none⟩ u) := by
  obtain ⟨cur, hh, h1, h2, h3, h4, h5⟩ := h
  refine ⟨cur.setIfInBounds j u, by simp [World.setCell, Array.getElem?_modify, hh], h1, h2, by simpa using h3, by simpa using h4, fun i hi => ?_⟩
  rw [Array.getElem?_setIfInBounds, List.getElem?_set]
  have := h5 i hi
  by_cases e : j = i
  · subst e
    have hc : j < cur.size := by rw [h3]; exact Nat.lt_of_lt_of_le hi (Nat.mul_le_mul_right _ h1)
    simp [hc, h4, hi]
  · simp [e, this]
theorem Row.other {e : TypeId} {z g n cap : Nat} {xs : List Value} {w : World} (h : Row e z g n cap xs w) {a : Addr} (ha : g ≠ a.block) (u : Value) : Row e z g n cap xs (w.setCell a u) := by
  obtain ⟨cur, hh, r⟩ := h
  exact ⟨cur, by rw [Below.heap_setCell _ _ _ _ ha]; exact hh, r⟩
theorem two_set0 {w : World} {p : Nat} {x y u : Value} {t : TypeId} (h : w.heap[p]? = some (.cells #[x, y] t (0, 0))) : (w.setCell ⟨p, 0, none⟩ u).heap[p]? = some (.cells #[u, y] t (0, 0)) := by
  simp [World.setCell, Array.getElem?_modify, h]
theorem two_set1 {w : World} {p : Nat} {x y u : Value} {t : TypeId} (h : w.heap[p]? = some (.cells #[x, y] t (0, 0))) : (w.setCell ⟨p, 1, none⟩ u).heap[p]? = some (.cells #[x, u] t (0, 0)) := by
  simp [World.setCell, Array.getElem?_modify, h]
theorem one_set0 {w : World} {p : Nat} {x u : Value} {t : TypeId} (h : w.heap[p]? = some (.cells #[x] t (0, 0))) : (w.setCell ⟨p, 0, none⟩ u).heap[p]? = some (.cells #[u] t (0, 0)) := by
  simp [World.setCell, Array.getElem?_modify, h]
theorem heap_other {w : World} {p : Nat} {o : Obj} {a : Addr} (h : w.heap[p]? = some o) (ha : p ≠ a.block) (u : Value) : (w.setCell a u).heap[p]? = some o := by
  rw [Below.heap_setCell _ _ _ _ ha]; exact h
end Go.Proofs.Ytbjfojdhdjehpaa
