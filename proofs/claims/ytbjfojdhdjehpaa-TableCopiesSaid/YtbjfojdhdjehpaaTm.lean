/- Plain facts: a sorted list of entries under Set; how often each key was set. No condition. -/
import Derived.Test.YtbjfojdhdjehpaaTca
namespace Go.Proofs.Ytbjfojdhdjehpaa
set_option linter.unusedVariables false

section
variable {α : Type}
theorem idx_lt {k : Int} {a : Int × α} {r : List (Int × α)} (h : a.1 < k) : idx k (a :: r) = idx k r + 1 := List.countP_cons_of_pos (by simpa using h)
theorem idx_ge {k : Int} {a : Int × α} {r : List (Int × α)} (hs : Srt (a :: r)) (h : k ≤ a.1) : idx k (a :: r) = 0 := by
  obtain ⟨hx, hr⟩ := List.pairwise_cons.1 hs
  unfold idx
  rw [List.countP_cons_of_neg (by simp; omega), List.countP_eq_zero]
  intro p hp
  have := hx p hp
  simp; omega
theorem hasK_lt {k : Int} {a : Int × α} {r : List (Int × α)} (h : a.1 < k) : hasK k (a :: r) = hasK k r := by
  unfold hasK; rw [idx_lt h]; simp
theorem hasK_ge {k : Int} {a : Int × α} {r : List (Int × α)} (hs : Srt (a :: r)) (h : k ≤ a.1) : hasK k (a :: r) = decide (a.1 = k) := by
  unfold hasK; rw [idx_ge hs h]; simp
theorem putK_lt {k : Int} {v : α} {a : Int × α} {r : List (Int × α)} (h : a.1 < k) : putK k v (a :: r) = a :: putK k v r := by
  unfold putK; rw [hasK_lt h, idx_lt h]; split <;> simp
theorem putK_eq {k : Int} {v : α} {a : Int × α} {r : List (Int × α)} (hs : Srt (a :: r)) (h : a.1 = k) : putK k v (a :: r) = (k, v) :: r := by
  unfold putK; rw [hasK_ge hs (by omega), idx_ge hs (by omega)]; simp [h]
theorem putK_gt {k : Int} {v : α} {a : Int × α} {r : List (Int × α)} (hs : Srt (a :: r)) (h : k < a.1) : putK k v (a :: r) = (k, v) :: a :: r := by
  have hne : ¬ a.1 = k := by omega
  unfold putK; rw [hasK_ge hs (by omega), idx_ge hs (by omega)]; simp [hne]
theorem putK_nil {k : Int} {v : α} : putK k v ([] : List (Int × α)) = [(k, v)] := by unfold putK hasK; simp

theorem mem_putK {k : Int} {v : α} {L : List (Int × α)} (hs : Srt L) (a : Int) (b : α) : (a, b) ∈ putK k v L ↔ (a = k ∧ b = v) ∨ (a ≠ k ∧ (a, b) ∈ L) := by
  induction L with
  | nil => rw [putK_nil]; simp
  | cons x r ih =>
    obtain ⟨hx, hr⟩ := List.pairwise_cons.1 hs
    rcases Int.lt_trichotomy x.1 k with h | h | h
    · rw [putK_lt h, List.mem_cons, ih hr, List.mem_cons]
      constructor
      · rintro (rfl | h1 | h1)
        · exact .inr ⟨by simp at h; omega, .inl rfl⟩
        · exact .inl h1
        · exact .inr ⟨h1.1, .inr h1.2⟩
      · rintro (h1 | ⟨h1, rfl | h2⟩)
        · exact .inr (.inl h1)
        · exact .inl rfl
        · exact .inr (.inr ⟨h1, h2⟩)
    · rw [putK_eq hs h, List.mem_cons, List.mem_cons]
      constructor
      · rintro (h1 | h1)
        · cases h1; exact .inl ⟨rfl, rfl⟩
        · have := hx _ h1; exact .inr ⟨by simp at this; omega, .inr h1⟩
      · rintro (⟨rfl, rfl⟩ | ⟨h1, rfl | h2⟩)
        · exact .inl rfl
        · exact absurd h h1
        · exact .inr h2
    · rw [putK_gt hs h, List.mem_cons]
      constructor
      · rintro (h1 | h1)
        · cases h1; exact .inl ⟨rfl, rfl⟩
        · refine .inr ⟨?_, h1⟩
          rcases List.mem_cons.1 h1 with h2 | h2
          · subst h2; simp at h; omega
          · have := hx _ h2; simp at this; omega
      · rintro (⟨rfl, rfl⟩ | ⟨h1, h2⟩)
        · exact .inl rfl
        · exact .inr h2
theorem srt_putK {k : Int} {v : α} {L : List (Int × α)} (hs : Srt L) : Srt (putK k v L) := by
  induction L with
  | nil => rw [putK_nil]; simp [Srt]
  | cons x r ih =>
    obtain ⟨hx, hr⟩ := List.pairwise_cons.1 hs
    rcases Int.lt_trichotomy x.1 k with h | h | h
    · rw [putK_lt h]
      refine List.pairwise_cons.2 ⟨fun p hp => ?_, ih hr⟩
      obtain ⟨a, b⟩ := p
      rcases (mem_putK hr a b).1 hp with ⟨rfl, rfl⟩ | ⟨_, h2⟩
      · exact h
      · exact hx _ h2
    · rw [putK_eq hs h]
      exact List.pairwise_cons.2 ⟨fun p hp => by have := hx p hp; simp; omega, hr⟩
    · rw [putK_gt hs h]
      refine List.pairwise_cons.2 ⟨fun p hp => ?_, hs⟩
      rcases List.mem_cons.1 hp with h2 | h2
      · subst h2; exact h
      · have := hx p h2; simp; omega
theorem len_putK (k : Int) (v : α) (L : List (Int × α)) : (putK k v L).length ≤ L.length + 1 := by
  unfold putK; split
  · simp
  · simp; have := idx_le k L; omega
theorem key_unique {L : List (Int × α)} (hs : Srt L) {k : Int} {a b : α} (h1 : (k, a) ∈ L) (h2 : (k, b) ∈ L) : a = b := by
  induction L with
  | nil => simp at h1
  | cons x r ih =>
    obtain ⟨hx, hr⟩ := List.pairwise_cons.1 hs
    rcases List.mem_cons.1 h1 with e1 | e1 <;> rcases List.mem_cons.1 h2 with e2 | e2
    · rw [← e2] at e1; cases e1; rfl
    · have := hx _ e2; rw [← e1] at this; simp at this
    · have := hx _ e1; rw [← e2] at this; simp at this
    · exact ih hr e1 e2
theorem getK_mem {z : α} {L : List (Int × α)} (hs : Srt L) {k : Int} {v : α} (h : (k, v) ∈ L) : hasK k L = true ∧ getK z k L = v := by
  have h1 : hasK k L = true := (hasK_iff hs).2 ⟨v, h⟩
  obtain ⟨u, hu⟩ := hasK_at h1
  refine ⟨h1, ?_⟩
  rw [getK_at hu]
  exact key_unique hs (List.mem_of_getElem? hu) h
theorem hasK_put {L : List (Int × α)} (hs : Srt L) (k a : Int) (v : α) : hasK a (putK k v L) = (decide (a = k) || hasK a L) := by
  have h := hasK_iff (srt_putK (k := k) (v := v) hs) (k := a)
  have h2 := hasK_iff hs (k := a)
  by_cases e : a = k
  · subst e
    have : hasK a (putK a v L) = true := h.2 ⟨v, (mem_putK hs a v).2 (.inl ⟨rfl, rfl⟩)⟩
    rw [this]; simp
  · rw [decide_eq_false e, Bool.false_or]
    cases hq : hasK a L with
    | true =>
      obtain ⟨u, hu⟩ := h2.1 hq
      exact h.2 ⟨u, (mem_putK hs a u).2 (.inr ⟨e, hu⟩)⟩
    | false =>
      cases hq2 : hasK a (putK k v L) with
      | false => rfl
      | true =>
        obtain ⟨u, hu⟩ := h.1 hq2
        rcases (mem_putK hs a u).1 hu with ⟨e1, _⟩ | ⟨_, h3⟩
        · exact absurd e1 e
        · rw [h2.2 ⟨u, h3⟩] at hq; simp at hq
theorem getK_put {z : α} {L : List (Int × α)} (hs : Srt L) (k a : Int) (v : α) : getK z a (putK k v L) = if a = k then v else getK z a L := by
  by_cases e : a = k
  · subst e
    rw [if_pos rfl]
    exact (getK_mem (srt_putK hs) ((mem_putK hs a v).2 (.inl ⟨rfl, rfl⟩))).2
  · rw [if_neg e]
    cases hq : hasK a L with
    | true =>
      obtain ⟨u, hu⟩ := (hasK_iff hs).1 hq
      rw [(getK_mem (z := z) hs hu).2]
      exact (getK_mem (srt_putK hs) ((mem_putK hs a u).2 (.inr ⟨e, hu⟩))).2
    | false =>
      rw [getK_no hq]
      exact getK_no (by rw [hasK_put hs, decide_eq_false e, hq]; rfl)
end

/-- What Count leaves. -/
def cnt (l : List Int) : List (Int × Int) := l.foldl (fun T k => putK k (getK 0 k T + 1) T) []
theorem cnt_snoc (l : List Int) (k : Int) : cnt (l ++ [k]) = putK k (getK 0 k (cnt l) + 1) (cnt l) := by unfold cnt; rw [List.foldl_append]; rfl
def sumV (L : List (Int × Int)) : Int := (L.map (·.2)).sum

theorem getK_lt {z : Int} {k : Int} {a : Int × Int} {r : List (Int × Int)} (h : a.1 < k) : getK z k (a :: r) = getK z k r := by
  unfold getK; rw [hasK_lt h, idx_lt h]; simp
theorem sum_put {L : List (Int × Int)} (hs : Srt L) (k : Int) : sumV (putK k (getK 0 k L + 1) L) = sumV L + 1 := by
  induction L with
  | nil => rw [putK_nil]; simp [sumV, getK, hasK]
  | cons x r ih =>
    obtain ⟨hx, hr⟩ := List.pairwise_cons.1 hs
    rcases Int.lt_trichotomy x.1 k with h | h | h
    · rw [getK_lt h, putK_lt h]
      have := ih hr
      simp only [sumV, List.map_cons, List.sum_cons] at this ⊢
      omega
    · have hm : getK 0 k (x :: r) = x.2 := (getK_mem hs (by rw [← h]; exact List.mem_cons_self ..)).2
      rw [hm, putK_eq hs h]
      simp only [sumV, List.map_cons, List.sum_cons]; omega
    · have hm : getK 0 k (x :: r) = 0 := getK_no (by rw [hasK_ge hs (by omega)]; simp; omega)
      rw [hm, putK_gt hs h]
      simp only [sumV, List.map_cons, List.sum_cons]; omega

structure CntOk (l : List Int) (T : List (Int × Int)) : Prop where
  srt : Srt T
  has : ∀ k, hasK k T = decide (k ∈ l)
  get : ∀ k, getK 0 k T = (l.count k : Int)
  sum : sumV T = l.length
  len : T.length ≤ l.length
  mem : ∀ p, p ∈ T → p.1 ∈ l

theorem cnt_ok (l : List Int) : CntOk l (cnt l) := by
  have key : ∀ (m : Nat) (l : List Int), l.length = m → CntOk l (cnt l) := by
    intro m
    induction m with
    | zero =>
      intro l hl
      obtain rfl := List.eq_nil_of_length_eq_zero hl
      exact ⟨by simp [cnt, Srt], fun k => by simp [cnt, hasK], fun k => by simp [cnt, getK, hasK], by simp [cnt, sumV], by simp [cnt], fun p hp => by simp [cnt] at hp⟩
    | succ m ih =>
      intro l hl
      obtain ⟨l', k, rfl⟩ : ∃ l' k, l = l' ++ [k] := ⟨l.dropLast, l.getLast (by intro e; simp [e] at hl), (List.dropLast_concat_getLast _).symm⟩
      have h := ih l' (by simp at hl; omega)
      rw [cnt_snoc]
      refine ⟨srt_putK h.srt, fun a => ?_, fun a => ?_, ?_, ?_, fun p hp => ?_⟩
      · rw [hasK_put h.srt, h.has]
        by_cases e : a = k <;> simp [e]
      · rw [getK_put h.srt, h.get, h.get]
        by_cases e : a = k
        · subst e; simp
        · rw [if_neg e, List.count_append]
          have : [k].count a = 0 := by rw [List.count_eq_zero]; simpa using e
          rw [this]; simp
      · rw [sum_put h.srt, h.sum]; simp
      · have := len_putK k (getK 0 k (cnt l') + 1) (cnt l'); have := h.len; simp; omega
      · obtain ⟨a, b⟩ := p
        rcases (mem_putK h.srt a b).1 hp with ⟨rfl, _⟩ | ⟨_, h2⟩
        · simp
        · have := h.mem _ h2; simp at this ⊢; exact .inl this
  exact key l.length l rfl
end Go.Proofs.Ytbjfojdhdjehpaa
