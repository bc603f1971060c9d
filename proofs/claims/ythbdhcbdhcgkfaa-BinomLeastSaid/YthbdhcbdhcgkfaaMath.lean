/- Plain arithmetic of the binomial numbers and of the least number of forward steps: no program in sight. -/
namespace Go.Proofs.Ythbdhcbdhcgkfaa
namespace BM

/-- The sum of f over 0 .. n - 1. -/
def su (f : Nat → Nat) : Nat → Nat
  | 0 => 0
  | n + 1 => su f n + f n

/-- be s i: the binomial coefficient s + 1 + i over i. -/
def be : Nat → Nat → Nat
  | 0, i => i + 1
  | s + 1, i => su (be s) (i + 1)

theorem be_zero (s : Nat) : be s 0 = 1 := by
  induction s with
  | zero => rfl
  | succ s ih => show su (be s) 0 + be s 0 = 1; rw [ih]; rfl
theorem be_succ (s i : Nat) : be (s + 1) (i + 1) = be (s + 1) i + be s (i + 1) := rfl
theorem be0 (i : Nat) : be 0 i = i + 1 := rfl

theorem be_AB (s : Nat) : (∀ i, be s (i + 1) * (i + 1) = be s i * (s + i + 2)) ∧ (∀ i, be (s + 1) i * (s + 2) = be s i * (s + i + 2)) := by
  induction s with
  | zero =>
    have hA : ∀ i, be 0 (i + 1) * (i + 1) = be 0 i * (0 + i + 2) := by
      intro i; simp only [be0]; rw [Nat.mul_comm]; congr 1; omega
    refine ⟨hA, ?_⟩
    intro i
    induction i with
    | zero => simp [be_zero]
    | succ i ih =>
      have a := hA i
      rw [be_succ, Nat.add_mul, ih, ← a, ← Nat.mul_add]
      congr 1; omega
  | succ s ih =>
    obtain ⟨hA, hB⟩ := ih
    have hA' : ∀ i, be (s + 1) (i + 1) * (i + 1) = be (s + 1) i * (s + 1 + i + 2) := by
      intro i
      rw [be_succ, Nat.add_mul, hA i, ← hB i, ← Nat.mul_add]
      congr 1; omega
    refine ⟨hA', ?_⟩
    intro i
    induction i with
    | zero => simp [be_zero]
    | succ i ih =>
      have a := hA' i
      rw [be_succ, Nat.add_mul, ih, ← a, ← Nat.mul_add]
      congr 1; omega

theorem be_A (s i : Nat) : be s (i + 1) * (i + 1) = be s i * (s + i + 2) := (be_AB s).1 i

theorem be_pos (s i : Nat) : 1 ≤ be s i := by
  induction s generalizing i with
  | zero => simp [be0]
  | succ s ih =>
    induction i with
    | zero => simp [be_zero]
    | succ i ih2 => rw [be_succ]; omega

theorem be_lt_succ (s i : Nat) : be s i < be s (i + 1) := by
  cases s with
  | zero => simp [be0]
  | succ s => rw [be_succ]; have := be_pos s (i + 1); omega

theorem be_ge (s i : Nat) : i + 1 ≤ be s i := by
  induction i with
  | zero => exact be_pos s 0
  | succ i ih => have := be_lt_succ s i; omega

theorem be_mono {s i j : Nat} (h : i ≤ j) : be s i ≤ be s j := by
  induction j with
  | zero => obtain rfl : i = 0 := by omega
            exact Nat.le_refl _
  | succ j ih =>
    by_cases e : i = j + 1
    · subst e; exact Nat.le_refl _
    · have := ih (by omega); have := be_lt_succ s j; omega

theorem be_up (s i : Nat) : be s i ≤ be (s + 1) i := by
  cases i with
  | zero => simp [be_zero]
  | succ i => rw [be_succ]; omega

theorem be_one (s : Nat) : be s 1 = s + 2 := by
  have := be_A s 0; simp [be_zero] at this; omega

theorem be_le {s t i : Nat} (h : s ≤ t) : be s i ≤ be t i := by
  induction t with
  | zero => obtain rfl : s = 0 := by omega
            exact Nat.le_refl _
  | succ t ih =>
    by_cases e : s = t + 1
    · subst e; exact Nat.le_refl _
    · have := ih (by omega); have := be_up t i; omega

theorem su_le {f g : Nat → Nat} {n : Nat} (h : ∀ i, i < n → f i ≤ g i) : su f n ≤ su g n := by
  induction n with
  | zero => exact Nat.le_refl _
  | succ n ih => have := ih (fun i hi => h i (by omega)); have := h n (by omega); simp only [su]; omega

theorem su_congr {f g : Nat → Nat} {n : Nat} (h : ∀ i, i < n → f i = g i) : su f n = su g n :=
  Nat.le_antisymm (su_le fun i hi => Nat.le_of_eq (h i hi)) (su_le fun i hi => Nat.le_of_eq (h i hi).symm)

theorem su_zero {f : Nat → Nat} {n : Nat} (h : ∀ i, i < n → f i = 0) : su f n = 0 := by
  induction n with
  | zero => rfl
  | succ n ih => simp only [su]; rw [ih (fun i hi => h i (by omega)), h n (by omega)]

theorem su_more {f : Nat → Nat} {n m : Nat} (hnm : n ≤ m) (h : ∀ i, n ≤ i → i < m → f i = 0) : su f m = su f n := by
  induction m with
  | zero => obtain rfl : n = 0 := by omega
            rfl
  | succ m ih =>
    by_cases e : n = m + 1
    · subst e; rfl
    · simp only [su]; rw [h m (by omega) (by omega), ih (by omega) (fun i h1 h2 => h i h1 (by omega))]; rfl

theorem su_add (f g : Nat → Nat) (n : Nat) : su (fun i => f i + g i) n = su f n + su g n := by
  induction n with
  | zero => rfl
  | succ n ih => simp only [su, ih]; omega

theorem su_shift (f : Nat → Nat) (n : Nat) : su f (n + 1) = f 0 + su (fun i => f (i + 1)) n := by
  induction n with
  | zero => simp [su]
  | succ n ih => rw [su, ih]; simp only [su]; omega

/-- The least number of forward steps. -/
def T (l s : Nat) : Nat := su (fun i => l - be s i) l

theorem T_at (l s n : Nat) (h : l ≤ be s n) : T l s = su (fun i => l - be s i) n := by
  unfold T
  by_cases e : l ≤ n
  · refine (su_more e fun i h1 _ => ?_).symm
    have := be_ge s i; omega
  · refine su_more (by omega) fun i h1 _ => ?_
    have := be_mono (s := s) h1; omega

theorem sb_mul (s r : Nat) : su (be s) r * (s + 2) = be s r * r := by
  induction r with
  | zero => simp [su]
  | succ r ih =>
    rw [su, Nat.add_mul, ih, be_A, ← Nat.mul_add]; congr 1; omega

theorem T_closed (l s r : Nat) (h1 : l ≤ be s r) (h2 : ∀ i, i < r → be s i < l) : T l s + su (be s) r = r * l := by
  rw [T_at l s r h1, ← su_add]
  have : ∀ n, n ≤ r → su (fun i => l - be s i + be s i) n = n * l := by
    intro n
    induction n with
    | zero => simp [su]
    | succ n ih =>
      intro hn
      have := h2 n (by omega)
      simp only [su]; rw [ih (by omega), Nat.add_mul]; omega
  exact this r (Nat.le_refl _)

theorem T_down (l s : Nat) : T l (s + 1) ≤ T l s := su_le fun i _ => by have := be_up s i; omega
theorem T_anti {l s t : Nat} (h : s ≤ t) : T l t ≤ T l s := su_le fun i _ => by have := be_le (i := i) h; omega
theorem T_up (l s : Nat) : T l s ≤ T (l + 1) s := by
  unfold T
  simp only [su]
  have := su_le (f := fun i => l - be s i) (g := fun i => l + 1 - be s i) (n := l) fun i _ => by omega
  omega
theorem T_one (s : Nat) : T 1 s = 0 := by simp [T, su, be_zero]
theorem T_nought (s : Nat) : T 0 s = 0 := by simp [T, su]
theorem T_many {l s : Nat} (h : l ≤ s + 2) : T l s = l - 1 := by
  rw [T_at l s 1 (by rw [be_one]; exact h)]; simp [su, be_zero]
theorem T_ge (l s : Nat) : l - 1 ≤ T l s := by
  cases l with
  | zero => simp
  | succ l => unfold T; rw [su_shift, be_zero]; omega

theorem T_zero (l : Nat) : 2 * T l 0 = l * (l - 1) := by
  have h := T_closed l 0 (l - 1) (by rw [be0]; omega) (fun i hi => by rw [be0]; omega)
  have h2 := sb_mul 0 (l - 1)
  rw [be0] at h2
  cases l with
  | zero => simp [T, su]
  | succ l =>
    simp only [Nat.add_sub_cancel] at h h2 ⊢
    have e : l * (l + 1) = (l + 1) * l := Nat.mul_comm _ _
    omega

theorem T_split (l s k : Nat) (h1 : 1 ≤ k) (h2 : k < l) : T l (s + 1) ≤ k + T (l - k) s + T k (s + 1) := by
  obtain ⟨m, rfl⟩ : ∃ m, l = m + 1 := ⟨l - 1, by omega⟩
  have e1 : T (m + 1) (s + 1) = m + su (fun i => m + 1 - be (s + 1) (i + 1)) m := by
    unfold T; rw [su_shift, be_zero]; omega
  have e2 : T (m + 1 - k) s = (m - k) + su (fun i => m + 1 - k - be s (i + 1)) m := by
    rw [T_at (m + 1 - k) s (m + 1) (by have := be_ge s (m + 1); omega), su_shift, be_zero]; omega
  have e3 : T k (s + 1) = su (fun i => k - be (s + 1) i) m := T_at k (s + 1) m (by have := be_ge (s + 1) m; omega)
  have h := su_le (f := fun i => m + 1 - be (s + 1) (i + 1)) (g := fun i => (m + 1 - k - be s (i + 1)) + (k - be (s + 1) i)) (n := m)
    fun i _ => by rw [be_succ]; omega
  rw [su_add] at h
  omega

/-- Where the rule's least is attained. -/
theorem T_attained (l s : Nat) (hl : 2 ≤ l) : ∃ k, 1 ≤ k ∧ k < l ∧ T l (s + 1) = k + T (l - k) s + T k (s + 1) := by
  -- r: the least with l ≤ be (s + 1) r
  have hr : ∃ r, 1 ≤ r ∧ l ≤ be (s + 1) r ∧ be (s + 1) (r - 1) < l := by
    have : ∀ n, l ≤ be (s + 1) n → ∃ r, 1 ≤ r ∧ l ≤ be (s + 1) r ∧ be (s + 1) (r - 1) < l := by
      intro n
      induction n with
      | zero => intro h; rw [be_zero] at h; omega
      | succ n ih =>
        intro h
        by_cases e : l ≤ be (s + 1) n
        · exact ih e
        · exact ⟨n + 1, by omega, h, by simp; omega⟩
    exact this l (by have := be_ge (s + 1) l; omega)
  obtain ⟨r, hr1, hr2, hr3⟩ := hr
  obtain ⟨m, rfl⟩ : ∃ m, l = m + 1 := ⟨l - 1, by omega⟩
  obtain ⟨q, rfl⟩ : ∃ q, r = q + 1 := ⟨r - 1, by omega⟩
  simp only [Nat.add_sub_cancel] at hr3
  -- a (i + 1) = be (s + 1) i, b (i + 1) = be s (i + 1)
  have key : ∃ k, 1 ≤ k ∧ k < m + 1 ∧ k ≤ be (s + 1) q ∧ m + 1 - k ≤ be s (q + 1) ∧ (∀ i, i + 1 ≤ q → be (s + 1) i ≤ k ∧ be s (i + 1) ≤ m + 1 - k) := by
    rw [be_succ] at hr2
    cases q with
    | zero =>
      rw [be_zero] at hr2
      exact ⟨1, by omega, by omega, by rw [be_zero]; omega, by omega, fun i hi => by omega⟩
    | succ q =>
      have e : be (s + 1) (q + 1) = be (s + 1) q + be s (q + 1) := be_succ s q
      have p1 := be_pos (s + 1) q
      have p2 := be_pos s (q + 1)
      have p3 := be_lt_succ s (q + 1)
      refine ⟨max (be (s + 1) q) (m + 1 - be s (q + 1 + 1)), by omega, by omega, by omega, by omega, fun i hi => ?_⟩
      have m1 := be_mono (s := s + 1) (i := i) (j := q) (by omega)
      have m2 := be_mono (s := s) (i := i + 1) (j := q + 1) (by omega)
      omega
  obtain ⟨k, k1, k2, k3, k4, k5⟩ := key
  refine ⟨k, k1, k2, ?_⟩
  have e1 : T (m + 1) (s + 1) = m + su (fun i => m + 1 - be (s + 1) (i + 1)) m := by
    unfold T; rw [su_shift, be_zero]; omega
  have e2 : T (m + 1 - k) s = (m - k) + su (fun i => m + 1 - k - be s (i + 1)) m := by
    rw [T_at (m + 1 - k) s (m + 1) (by have := be_ge s (m + 1); omega), su_shift, be_zero]; omega
  have e3 : T k (s + 1) = su (fun i => k - be (s + 1) i) m := T_at k (s + 1) m (by have := be_ge (s + 1) m; omega)
  have h := su_congr (f := fun i => m + 1 - be (s + 1) (i + 1)) (g := fun i => (m + 1 - k - be s (i + 1)) + (k - be (s + 1) i)) (n := m) fun i _ => by
    rw [be_succ]
    by_cases hi : i + 1 ≤ q
    · have := k5 i hi; omega
    · have m1 := be_mono (s := s + 1) (i := q) (j := i) (by omega)
      have m2 := be_mono (s := s) (i := q + 1) (j := i + 1) (by omega)
      omega
  rw [su_add] at h
  omega

end BM
end Go.Proofs.Ythbdhcbdhcgkfaa
