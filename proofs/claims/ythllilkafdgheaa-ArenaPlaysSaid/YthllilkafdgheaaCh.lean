/- The walk of step. Condition: the arena and the reference are in one state. -/
import Derived.Test.YthllilkafdgheaaCg
namespace Go.Proofs.Ythllilkafdgheaa
open Go.RowKit
set_option linter.unusedVariables false
set_option linter.unusedSimpArgs false

/-- The arena and the reference in one state, side by side. -/
structure Both (K : Nat → Obj → Prop) (w : World) (p : Nat) (s : St) (v : Value) (W : World) : Prop where
  fr : Fresh w p s W
  kp : ∀ k ob, K k ob → Bes p s W k ∧ W.heap[k]? = some ob
  rf : ∃ B R, RdR B v R W ∧ (blks R).Perm s.L ∧ ∀ b, b ∈ B → Bes p s W b ∧ ∀ ob, ¬ K b ob

theorem Both.quiet {K : Nat → Obj → Prop} {w : World} {p : Nat} {s : St} {v : Value} {W W' : World} (h : Both K w p s v W) (ho : Oth [] W W') : Both K w p s v W' := by
  obtain ⟨B, R, h1, h2, h3⟩ := h.rf
  exact ⟨h.fr.quiet ho, fun k ob hk => ⟨(h.kp k ob hk).1.oth h.fr ho, ho.heap (h.kp k ob hk).2 (by simp)⟩, B, R, h1.quiet ho, h2, fun b hb => ⟨(h3 b hb).1.oth h.fr ho, (h3 b hb).2⟩⟩
theorem split_at {α : Type} {M : List α} {k : Nat} {y : α} (hk : M[k]? = some y) : M = M.take k ++ y :: M.drop (k + 1) := by
  obtain ⟨h1, h2⟩ := List.getElem?_eq_some_iff.1 hk
  have := List.drop_eq_getElem_cons h1
  rw [h2] at this
  rw [← this, List.take_append_drop]
theorem perm_del {M N : List Blk} {k j : Nat} {y : Blk} (h : M.Perm N) (hk : M[k]? = some y) (hj : N[j]? = some y) : (M.take k ++ M.drop (k + 1)).Perm (N.take j ++ N.drop (j + 1)) := by
  have h1 : M.Perm (y :: (M.take k ++ M.drop (k + 1))) := by
    have := List.perm_middle (a := y) (l₁ := M.take k) (l₂ := M.drop (k + 1))
    rw [← split_at hk] at this; exact this
  have h2 : N.Perm (y :: (N.take j ++ N.drop (j + 1))) := by
    have := List.perm_middle (a := y) (l₁ := N.take j) (l₂ := N.drop (j + 1))
    rw [← split_at hj] at this; exact this
  exact ((h1.symm.trans h).trans h2).cons_inv
theorem set_split {α : Type} {M : List α} {k : Nat} {y' : α} (hk : k < M.length) : M.set k y' = M.take k ++ y' :: M.drop (k + 1) := by
  apply List.ext_getElem?
  intro i
  have hl : (M.take k).length = k := by rw [List.length_take]; omega
  rw [List.getElem?_set]
  by_cases h1 : k = i
  · subst h1
    rw [if_pos rfl, if_pos hk, List.getElem?_append_right (by omega), hl]; simp
  · rw [if_neg h1]
    rcases Nat.lt_or_ge i k with h2 | h2
    · rw [List.getElem?_append_left (by omega), List.getElem?_take, if_pos h2]
    · rw [List.getElem?_append_right (by omega), hl]
      obtain ⟨m, rfl⟩ : ∃ m, i = k + 1 + m := ⟨i - (k + 1), by omega⟩
      rw [show k + 1 + m - k = m + 1 by omega]
      simp [List.getElem?_drop]
theorem perm_set {M N : List Blk} {k j : Nat} {y y' : Blk} (h : M.Perm N) (hk : M[k]? = some y) (hj : N[j]? = some y) : (M.set k y').Perm (N.set j y') := by
  rw [set_split (List.getElem?_eq_some_iff.1 hk).1, set_split (List.getElem?_eq_some_iff.1 hj).1]
  exact (List.perm_middle.trans ((perm_del h hk hj).cons y')).trans List.perm_middle.symm
/-- Two blocks of one handle are one. -/
theorem Good.one {s : St} (hg : Good s) {x y : Blk} (hx : x ∈ s.L) (hy : y ∈ s.L) (h : x.h = y.h) : x = y := by
  obtain ⟨i, hi⟩ := List.mem_iff_getElem?.1 hx
  obtain ⟨j, hj⟩ := List.mem_iff_getElem?.1 hy
  obtain ⟨h1, h2⟩ := List.getElem?_eq_some_iff.1 hi
  obtain ⟨h3, h4⟩ := List.getElem?_eq_some_iff.1 hj
  rcases Nat.lt_trichotomy i j with h5 | h5 | h5
  · have := List.pairwise_iff_getElem.1 hg.hnd i j h1 h3 h5
    rw [h2, h4] at this; exact absurd h this
  · subst h5; rw [hi] at hj; cases hj; rfl
  · have := List.pairwise_iff_getElem.1 hg.hnd j i h3 h1 h5
    rw [h2, h4] at this; exact absurd h.symm this
end Go.Proofs.Ythllilkafdgheaa
