/- Plain: whatever acts are allowed and reverse all steps have at least the least number of Gos. A lower bound on what is still to be paid is carried through every act: it is taken over all sets of positions that one might hold. -/
import Derived.Test.YthbdhcbdhcgkfaaMath3
namespace Go.Proofs.Ythbdhcbdhcgkfaa
namespace LB

/-- The greatest position of S up to n (0 counts as one). -/
def ms (S : Nat → Bool) : Nat → Nat
  | 0 => 0
  | n + 1 => if S (n + 1) then n + 1 else ms S n
theorem ms_le (S : Nat → Bool) (n : Nat) : ms S n ≤ n := by
  induction n with
  | zero => exact Nat.le_refl _
  | succ n ih => unfold ms; split <;> omega
theorem ms_up (S : Nat → Bool) {n m : Nat} (h : n ≤ m) : ms S n ≤ ms S m := by
  induction m with
  | zero => obtain rfl : n = 0 := by omega
            exact Nat.le_refl _
  | succ m ih =>
    by_cases e : n = m + 1
    · subst e; exact Nat.le_refl _
    · have := ih (by omega)
      have h2 := ms_le S m
      conv => rhs; unfold ms
      split <;> omega
theorem ms_ge {S : Nat → Bool} {z n : Nat} (hz : S z = true) (h : z ≤ n) : z ≤ ms S n := by
  induction n with
  | zero => omega
  | succ n ih =>
    unfold ms
    split
    · exact h
    · rename_i hn
      have : z ≠ n + 1 := fun e => hn (e ▸ hz)
      exact ih (by omega)
theorem ms_in {S : Nat → Bool} {n : Nat} (h : 0 < ms S n) : S (ms S n) = true := by
  induction n with
  | zero => simp [ms] at h
  | succ n ih =>
    unfold ms at h ⊢
    split
    · assumption
    · rename_i hn; rw [if_neg hn] at h; exact ih h
theorem ms_sub {S S' : Nat → Bool} (h : ∀ z, S' z = true → S z = true) (n : Nat) : ms S' n ≤ ms S n := by
  rcases Nat.eq_zero_or_pos (ms S' n) with e | e
  · omega
  · exact ms_ge (h _ (ms_in e)) (ms_le _ _)
theorem ms_step {S S' : Nat → Bool} {p : Nat} (h : ∀ z, S' z = true → S z = true ∨ z = p + 1) (n : Nat) : ms S' n ≤ max (ms S n) (p + 1) ∧ (n ≤ p → ms S' n ≤ ms S n) := by
  rcases Nat.eq_zero_or_pos (ms S' n) with e | e
  · omega
  · have hl := ms_le S' n
    rcases h _ (ms_in e) with h1 | h1
    · have := ms_ge h1 hl; omega
    · omega

/-- What it costs to come to hold the positions Q, behind p. -/
def cost (m : Nat → Nat) : Nat → List Nat → Nat
  | _, [] => 0
  | p, q :: qs => (q - max p (m q)) + cost m q qs
def valL (a : Nat) : List Nat → Nat → Nat → Nat
  | [], b, p => BM.T (a - p) (b - 1)
  | q :: qs, b, p => match b with
    | 0 => 0
    | b + 1 => BM.T (q - p) b + valL a qs b q
/-- What is to be paid from there on, up to position a. -/
def val (a b p : Nat) (Q : List Nat) : Nat := valL a Q b p
def ValidL (a : Nat) : List Nat → Nat → Nat → Prop
  | [], b, p => (p < a ∨ (p = 0 ∧ a = 0)) ∧ (b = 0 → a ≤ p + 1)
  | q :: qs, b, p => match b with
    | 0 => False
    | b + 1 => p < q ∧ ValidL a qs b q
def Valid (a b p : Nat) (Q : List Nat) : Prop := ValidL a Q b p

theorem cost_mono {m m' : Nat → Nat} (h : ∀ n, m' n ≤ m n) (p : Nat) (Q : List Nat) : cost m p Q ≤ cost m' p Q := by
  induction Q generalizing p with
  | nil => exact Nat.le_refl _
  | cons q qs ih => have := ih q; have := h q; simp only [cost]; omega

/-- One step forward lowers the cost by one at most. -/
theorem cost_step {m m' : Nat → Nat} {x : Nat} (h : ∀ n, m' n ≤ max (m n) (x + 1) ∧ (n ≤ x → m' n ≤ m n)) (hx : ∀ n, x ≤ n → x ≤ m n) {a : Nat} (b p : Nat) (Q : List Nat) (hv : Valid a b p Q) :
    cost m p Q ≤ cost m' p Q + (if p ≤ x then 1 else 0) := by
  induction Q generalizing b p with
  | nil => simp [cost]
  | cons q qs ih =>
    cases b with
    | zero => exact hv.elim
    | succ b =>
      have hpq : p < q := hv.1
      have hi := ih b q hv.2
      have h1 := h q
      have h2 := hx q
      simp only [cost]
      by_cases c1 : q ≤ x
      · rw [if_pos c1] at hi
        rw [if_pos (show p ≤ x by omega)]
        have := h1.2 c1
        omega
      · rw [if_neg c1] at hi
        split <;> omega

theorem val_mono {a : Nat} (b p : Nat) (Q : List Nat) (hv : Valid a b p Q) : val a (b + 1) p Q ≤ val a b p Q := by
  induction Q generalizing b p with
  | nil => exact BM.T_anti (by omega)
  | cons q qs ih =>
    cases b with
    | zero => exact hv.elim
    | succ b =>
      have h1 := ih b q hv.2
      have h2 := BM.T_down (q - p) b
      show BM.T (q - p) (b + 1) + val a (b + 1) q qs ≤ BM.T (q - p) b + val a b q qs
      omega

theorem T_join (p q r b : Nat) (h1 : p < q) (h2 : q < r) (hb : b = 0 → r ≤ q + 1) : BM.T (r - p) b ≤ (q - p) + BM.T (q - p) b + BM.T (r - q) (b - 1) := by
  cases b with
  | zero =>
    have := hb rfl
    obtain rfl : r = q + 1 := by omega
    have e := T_zero_succ (q - p)
    rw [show q + 1 - p = q - p + 1 by omega, e]; omega
  | succ b =>
    have := BM.T_split (r - p) b (q - p) (by omega) (by omega)
    rw [show r - p - (q - p) = r - q by omega] at this
    simp only [Nat.add_sub_cancel]; omega

/-- To give one position up costs no more than the way to it. -/
theorem val_drop {a : Nat} (b p q : Nat) (qs : List Nat) (hv : Valid a (b + 1) p (q :: qs)) : val a (b + 1) p qs ≤ (q - p) + val a (b + 1) p (q :: qs) := by
  obtain ⟨hpq, hv⟩ := hv
  cases qs with
  | nil =>
    show BM.T (a - p) b ≤ (q - p) + (BM.T (q - p) b + BM.T (a - q) (b - 1))
    obtain ⟨h1, h2⟩ := hv
    have := T_join p q a b hpq (by omega) h2
    omega
  | cons r rs =>
    cases b with
    | zero => exact hv.elim
    | succ b =>
      obtain ⟨hqr, hv⟩ := hv
      show BM.T (r - p) (b + 1) + val a (b + 1) r rs ≤ (q - p) + (BM.T (q - p) (b + 1) + (BM.T (r - q) b + val a b r rs))
      have h1 := T_join p q r (b + 1) hpq hqr (by omega)
      have h2 := val_mono b r rs hv
      simp only [Nat.add_sub_cancel] at h1
      omega

theorem valid_more {a : Nat} (b p : Nat) (Q : List Nat) (hv : Valid a b p Q) : Valid a (b + 1) p Q := by
  induction Q generalizing b p with
  | nil => exact ⟨hv.1, by omega⟩
  | cons q qs ih =>
    cases b with
    | zero => exact hv.elim
    | succ b => exact ⟨hv.1, ih b q hv.2⟩
theorem valid_from {a : Nat} (b p p' : Nat) (Q : List Nat) (hp : p' ≤ p) (hv : Valid a b p Q) (hb : 0 < b) : Valid a b p' Q := by
  cases Q with
  | nil => exact ⟨by have := hv.1; omega, by omega⟩
  | cons q qs =>
    cases b with
    | zero => exact hv.elim
    | succ b => exact ⟨by have := hv.1; omega, hv.2⟩

/-- How many positions of S lie in 1 .. n. -/
def cn (S : Nat → Bool) : Nat → Nat
  | 0 => 0
  | n + 1 => cn S n + (if S (n + 1) then 1 else 0)
theorem cn_up (S : Nat → Bool) {n m : Nat} (h : n ≤ m) : cn S n ≤ cn S m := by
  induction m with
  | zero => obtain rfl : n = 0 := by omega
            exact Nat.le_refl _
  | succ m ih =>
    by_cases e : n = m + 1
    · subst e; exact Nat.le_refl _
    · have := ih (by omega); simp only [cn]; omega
theorem cn_gap (S : Nat → Bool) {p q : Nat} (h : p < ms S q) : cn S p + 1 ≤ cn S q := by
  have h1 := ms_in (S := S) (n := q) (by omega)
  have h2 := ms_le S q
  obtain ⟨z, hz⟩ : ∃ z, ms S q = z + 1 := ⟨ms S q - 1, by omega⟩
  rw [hz] at h1 h h2
  have h3 := cn_up S (show p ≤ z by omega)
  have h4 := cn_up S h2
  simp only [cn, h1, if_true] at h4
  omega

/-- Each position of Q has one of S between it and the one before. -/
def Full (m : Nat → Nat) : Nat → List Nat → Prop
  | _, [] => True
  | p, q :: qs => p < m q ∧ Full m q qs
theorem full_or (m : Nat → Nat) (p : Nat) (Q : List Nat) : Full m p Q ∨ ¬ Full m p Q := Classical.em _

theorem full_len {S : Nat → Bool} {a : Nat} (b p : Nat) (Q : List Nat) (hv : Valid a b p Q) (hf : Full (ms S) p Q) : Q.length + cn S p ≤ cn S (a - 1) ∨ Q = [] := by
  induction Q generalizing b p with
  | nil => exact .inr rfl
  | cons q qs ih =>
    left
    cases b with
    | zero => exact hv.elim
    | succ b =>
      have h1 := cn_gap S hf.1
      rcases ih b q hv.2 hf.2 with h | rfl
      · simp only [List.length_cons]; omega
      · have := hv.2.1
        have hpq := hv.1
        have := cn_up S (show q ≤ a - 1 by omega)
        simp only [List.length_cons, List.length_nil]; omega

/-- If one is too many, one can be given up. -/
theorem reduce {m : Nat → Nat} {a : Nat} (b p : Nat) (Q : List Nat) (hv : Valid a b p Q) (hf : ¬ Full m p Q) :
    ∃ Q', Q'.length + 1 = Q.length ∧ Valid a b p Q' ∧ cost m p Q' + val a b p Q' ≤ cost m p Q + val a b p Q := by
  induction Q generalizing b p with
  | nil => exact absurd trivial hf
  | cons q qs ih =>
    cases b with
    | zero => exact hv.elim
    | succ b =>
      by_cases hfull : Full m q qs
      · -- the gap ahead of q is empty
        have hgap : ¬ p < m q := fun h => hf ⟨h, hfull⟩
        refine ⟨qs, rfl, valid_from (b + 1) q p qs (by have := hv.1; omega) (valid_more b q qs hv.2) (by omega), ?_⟩
        have h1 := val_drop b p q qs hv
        have hpq := hv.1
        have h2 : cost m p qs ≤ cost m q qs := by
          cases qs with
          | nil => exact Nat.le_refl _
          | cons r rs => have := hfull.1; simp only [cost]; omega
        simp only [cost]
        omega
      · obtain ⟨Q', l1, v1, c1⟩ := ih b q hv.2 hfull
        refine ⟨q :: Q', by simp [← l1], ⟨hv.1, v1⟩, ?_⟩
        show (q - max p (m q)) + cost m q Q' + (BM.T (q - p) b + val a b q Q') ≤ (q - max p (m q)) + cost m q qs + (BM.T (q - p) b + val a b q qs)
        omega

/-- From the start: whatever one comes to hold, at least the least is to be paid. -/
theorem start (l s : Nat) (Q : List Nat) (hv : Valid l (s + 1) 0 Q) (m : Nat → Nat) (hm : ∀ n, m n = 0) : BM.T l s ≤ cost m 0 Q + val l (s + 1) 0 Q := by
  generalize hn : Q.length = n
  induction n generalizing Q with
  | zero =>
    obtain rfl : Q = [] := List.eq_nil_of_length_eq_zero hn
    simp [cost, val, valL]
  | succ n ih =>
    have hf : ¬ Full m 0 Q := by
      cases Q with
      | nil => simp at hn
      | cons q qs => intro h; have := h.1; rw [hm] at this; omega
    obtain ⟨Q', l1, v1, c1⟩ := reduce (s + 1) 0 Q hv hf
    have := ih Q' v1 (by omega)
    omega

theorem valid_snoc {a : Nat} (b p : Nat) (Q : List Nat) (hv : Valid a b p Q) (ha : p < a ∨ Q ≠ []) (hb : Q.length < b) : Valid (a + 1) b p (Q ++ [a]) ∧ val (a + 1) b p (Q ++ [a]) = val a b p Q := by
  induction Q generalizing b p with
  | nil =>
    cases b with
    | zero => simp at hb
    | succ b =>
      obtain ⟨h1, h2⟩ := hv
      refine ⟨⟨by rcases ha with h | h; exact h; exact absurd rfl h, ⟨.inl (by omega), fun _ => Nat.le_refl _⟩⟩, ?_⟩
      show BM.T (a - p) b + BM.T (a + 1 - a) (b - 1) = BM.T (a - p) b
      rw [show a + 1 - a = 1 by omega, BM.T_one]; rfl
  | cons q qs ih =>
    cases b with
    | zero => exact hv.elim
    | succ b =>
      obtain ⟨hpq, hv⟩ := hv
      have hqa : q < a ∨ qs ≠ [] := by
        cases qs with
        | nil => left; have := hv.1; omega
        | cons r rs => right; simp
      obtain ⟨v1, e1⟩ := ih b q hv hqa (by simpa using hb)
      exact ⟨⟨hpq, v1⟩, by show BM.T (q - p) b + val (a + 1) b q (qs ++ [a]) = BM.T (q - p) b + val a b q qs; rw [e1]⟩

theorem cost_snoc {m : Nat → Nat} {a : Nat} (ha : m a = a) (p : Nat) (Q : List Nat) : cost m p (Q ++ [a]) = cost m p Q := by
  induction Q generalizing p with
  | nil => simp only [List.nil_append, cost, ha]; omega
  | cons q qs ih => simp only [List.cons_append, cost, ih]

theorem valid_len {a : Nat} (b p : Nat) (Q : List Nat) (hv : Valid a b p Q) : Q.length ≤ b := by
  induction Q generalizing b p with
  | nil => simp
  | cons q qs ih =>
    cases b with
    | zero => exact hv.elim
    | succ b => have := ih b q hv.2; simp only [List.length_cons]; omega

end LB
end Go.Proofs.Ythbdhcbdhcgkfaa
