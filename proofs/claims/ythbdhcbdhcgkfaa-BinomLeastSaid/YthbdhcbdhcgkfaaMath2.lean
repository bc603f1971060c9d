/- Plain arithmetic of Pascal's triangle: no program in sight. -/
import Derived.Test.YthbdhcbdhcgkfaaMath
namespace Go.Proofs.Ythbdhcbdhcgkfaa
namespace BM

/-- n over k, by Pascal's rule. -/
def pa : Nat → Nat → Nat
  | _, 0 => 1
  | 0, _ + 1 => 0
  | n + 1, k + 1 => pa n k + pa n (k + 1)

theorem pa_zero (n : Nat) : pa n 0 = 1 := by cases n <;> simp [pa]
theorem pa_succ (n k : Nat) : pa (n + 1) (k + 1) = pa n k + pa n (k + 1) := by simp [pa]
theorem pa_over (n d : Nat) : pa n (n + 1 + d) = 0 := by
  induction n generalizing d with
  | zero => rw [show 0 + 1 + d = d + 1 by omega]; simp [pa]
  | succ n ih =>
    rw [show n + 1 + 1 + d = (n + 1 + d) + 1 by omega, pa_succ, ih d]
    have := ih (d + 1)
    rw [show n + 1 + (d + 1) = n + 1 + d + 1 by omega] at this
    omega
theorem pa_self (n : Nat) : pa n n = 1 := by
  induction n with
  | zero => simp [pa]
  | succ n ih => rw [pa_succ, ih]; have := pa_over n 0; simp at this; omega

theorem pa_abs (n k : Nat) : pa (n + 1) (k + 1) * (k + 1) = pa n k * (n + 1) := by
  induction n generalizing k with
  | zero =>
    cases k with
    | zero => simp [pa]
    | succ k => simp [pa]
  | succ n ih =>
    cases k with
    | zero =>
      rw [pa_succ, pa_zero]
      have := ih 0
      simp [pa_zero] at this ⊢
      omega
    | succ k =>
      have a := ih k
      have b := ih (k + 1)
      rw [pa_succ (n + 1) (k + 1), Nat.add_mul, b, Nat.mul_add, show pa (n + 1) (k + 1) * (k + 1) + pa (n + 1) (k + 1) * 1 + pa n (k + 1) * (n + 1) = (pa (n + 1) (k + 1) * (k + 1) + pa n (k + 1) * (n + 1)) + pa (n + 1) (k + 1) by omega, a, ← Nat.add_mul, ← pa_succ]
      exact (Nat.mul_succ _ _).symm

theorem pa_sym (a b : Nat) : pa (a + b) a = pa (a + b) b := by
  induction a generalizing b with
  | zero => simp [pa_zero, pa_self]
  | succ a ih =>
    induction b with
    | zero => simp [pa_zero, pa_self]
    | succ b ih2 =>
      have h1 := ih (b + 1)
      rw [show a + 1 + (b + 1) = (a + (b + 1)) + 1 by omega, pa_succ, pa_succ, h1]
      rw [show a + 1 + b = a + (b + 1) by omega] at ih2
      rw [ih2, Nat.add_comm]

/-- Along a diagonal it rises. -/
theorem pa_diag (m i : Nat) : pa (m + i) i ≤ pa (m + (i + 1)) (i + 1) := by
  rw [show m + (i + 1) = (m + i) + 1 by omega, pa_succ]; omega
theorem pa_diag_mono (m : Nat) {i j : Nat} (h : i ≤ j) : pa (m + i) i ≤ pa (m + j) j := by
  induction j with
  | zero => obtain rfl : i = 0 := by omega
            exact Nat.le_refl _
  | succ j ih =>
    by_cases e : i = j + 1
    · subst e; exact Nat.le_refl _
    · have := ih (by omega); have := pa_diag m j; omega

theorem pa_next (m i : Nat) : pa (m + (i + 1)) (i + 1) * (i + 1) = pa (m + i) i * (m + i + 1) := by
  rw [show m + (i + 1) = (m + i) + 1 by omega]; exact pa_abs (m + i) i

/-- What the rule's minimum is taken of. -/
def fk (l s k : Nat) : Nat := k + T (l - k) (s - 1) + T k s

/-- The least k from k on at which the rule's minimum is attained. -/
def spGo (l s : Nat) : Nat → Nat → Nat
  | 0, k => k
  | f + 1, k => if fk l s k = T l s then k else spGo l s f (k + 1)
/-- The first mark. -/
def spl (l s : Nat) : Nat := if s = 0 then l - 1 else spGo l s l 1

theorem spGo_eq {l s k : Nat} (hk : fk l s k = T l s) (f j : Nat) (hj : j ≤ k) (hf : k < j + f) (hm : ∀ i, j ≤ i → i < k → fk l s i ≠ T l s) : spGo l s f j = k := by
  induction f generalizing j with
  | zero => omega
  | succ f ih =>
    unfold spGo
    by_cases e : j = k
    · subst e; rw [if_pos hk]
    · rw [if_neg (hm j (Nat.le_refl _) (by omega))]
      exact ih (j + 1) (by omega) (by omega) (fun i h1 h2 => hm i (by omega) h2)

/-- The first k that is least among all is the first mark. -/
theorem spl_eq {l s k : Nat} (hs : 1 ≤ s) (hl : 2 ≤ l) (h1 : 1 ≤ k) (h2 : k < l) (hle : ∀ j, 1 ≤ j → j < l → fk l s k ≤ fk l s j) (hlt : ∀ j, 1 ≤ j → j < k → fk l s k < fk l s j) : spl l s = k ∧ fk l s k = T l s := by
  obtain ⟨s, rfl⟩ : ∃ t, s = t + 1 := ⟨s - 1, by omega⟩
  obtain ⟨j, j1, j2, hj⟩ := T_attained l s hl
  have a := hle j j1 j2
  have b := T_split l s k h1 h2
  have hk : fk l (s + 1) k = T l (s + 1) := by unfold fk at a ⊢; simp only [Nat.add_sub_cancel] at a ⊢; omega
  refine ⟨?_, hk⟩
  unfold spl
  rw [if_neg (by omega)]
  exact spGo_eq hk l 1 h1 (by omega) fun i h3 h4 => by have := hlt i h3 h4; omega

theorem spl_range {l s : Nat} (hl : 2 ≤ l) : 1 ≤ spl l s ∧ spl l s < l := by
  by_cases hs : s = 0
  · unfold spl; rw [if_pos hs]; omega
  · -- the first that attains it
    obtain ⟨t, rfl⟩ : ∃ t, s = t + 1 := ⟨s - 1, by omega⟩
    obtain ⟨j, j1, j2, hj⟩ := T_attained l t hl
    have hfj : fk l (t + 1) j = T l (t + 1) := by unfold fk; simp only [Nat.add_sub_cancel]; omega
    unfold spl; rw [if_neg hs]
    have : ∀ f k, 1 ≤ k → k ≤ j → j < k + f → 1 ≤ spGo l (t + 1) f k ∧ spGo l (t + 1) f k < l := by
      intro f
      induction f with
      | zero => intro k _ _ _; omega
      | succ f ih =>
        intro k h1 h2 h3
        unfold spGo
        by_cases e : fk l (t + 1) k = T l (t + 1)
        · rw [if_pos e]; omega
        · rw [if_neg e]
          have : k ≠ j := fun h => e (h ▸ hfj)
          exact ih (k + 1) (by omega) (by omega) (by omega)
    exact this l 1 (Nat.le_refl _) j1 (by omega)

theorem spl_attains {l s : Nat} (hs : 1 ≤ s) (hl : 2 ≤ l) : fk l s (spl l s) = T l s := by
  obtain ⟨t, rfl⟩ : ∃ t, s = t + 1 := ⟨s - 1, by omega⟩
  obtain ⟨j, j1, j2, hj⟩ := T_attained l t hl
  have hfj : fk l (t + 1) j = T l (t + 1) := by unfold fk; simp only [Nat.add_sub_cancel]; omega
  unfold spl; rw [if_neg (by omega)]
  have : ∀ f k, 1 ≤ k → k ≤ j → j < k + f → fk l (t + 1) (spGo l (t + 1) f k) = T l (t + 1) := by
    intro f
    induction f with
    | zero => intro k _ _ _; omega
    | succ f ih =>
      intro k h1 h2 h3
      unfold spGo
      by_cases e : fk l (t + 1) k = T l (t + 1)
      · rw [if_pos e]; exact e
      · rw [if_neg e]
        have : k ≠ j := fun h => e (h ▸ hfj)
        exact ih (k + 1) (by omega) (by omega) (by omega)
  exact this l 1 (Nat.le_refl _) j1 (by omega)

theorem T_bound {l s : Nat} (h : l ≤ 512) : T l s ≤ 130816 := by
  have a := T_anti (l := l) (Nat.zero_le s)
  have b := T_zero l
  have : l * (l - 1) ≤ 512 * 511 := Nat.mul_le_mul h (by omega)
  omega

end BM
end Go.Proofs.Ythbdhcbdhcgkfaa
