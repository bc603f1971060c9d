/- Plain: lists that are orders of 0 .. n - 1, and their inverses. -/
import Derived.Test.YtminoelijdpmeaaOb
namespace Go.Proofs.Ytminoelijdpmeaa
set_option linter.unusedVariables false

/-- How many places hold numbers from 0 to m - 1. -/
theorem countP_range (L : List Int) (m : Nat) : L.countP (fun x : Int => decide (0 ≤ x ∧ x < ((m + 1 : Nat) : Int))) = L.countP (fun x : Int => decide (0 ≤ x ∧ x < ((m : Nat) : Int))) + L.count (m : Int) := by
  induction L with
  | nil => rfl
  | cons y L ih =>
    rw [List.countP_cons, List.countP_cons, List.count_cons, ih]
    by_cases h1 : y = (m : Int)
    · have h2 : ¬ (0 ≤ y ∧ y < ((m : Nat) : Int)) := by omega
      have h3 : 0 ≤ y ∧ y < ((m + 1 : Nat) : Int) := by omega
      rw [decide_eq_true h3, decide_eq_false h2, beq_iff_eq.2 h1]
      simp; omega
    · have e : (y == (m : Int)) = false := by simp [h1]
      by_cases h2 : 0 ≤ y ∧ y < ((m : Nat) : Int)
      · have h3 : 0 ≤ y ∧ y < ((m + 1 : Nat) : Int) := by omega
        rw [decide_eq_true h3, decide_eq_true h2, e]
        simp only [if_true, Bool.false_eq_true, if_false]; omega
      · have h3 : ¬ (0 ≤ y ∧ y < ((m + 1 : Nat) : Int)) := by omega
        rw [decide_eq_false h3, decide_eq_false h2, e]
        simp
theorem countP_whole {L : List Int} {m : Nat} (h : wholeTo L m) : L.countP (fun x : Int => decide (0 ≤ x ∧ x < ((m : Nat) : Int))) = m := by
  induction m with
  | zero =>
    rw [List.countP_eq_zero]
    intro x _; simp; try omega
  | succ m ih =>
    rw [countP_range, ih (fun i hi => h i (by omega)), h m (by omega)]
/-- All are numbers of places, no two alike: so far. -/
def Fine (n : Nat) (L : List Int) : Prop := (∀ x ∈ L, 0 ≤ x ∧ x < (n : Int)) ∧ L.Nodup

theorem fine_of_whole {L : List Int} (h : wholeTo L L.length) : Fine L.length L := by
  have hc := countP_whole h
  have hall := List.countP_eq_length.1 hc
  have hr : ∀ x ∈ L, 0 ≤ x ∧ x < (L.length : Int) := fun x hx => by simpa using hall x hx
  refine ⟨hr, ?_⟩
  rw [List.nodup_iff_count]
  intro x
  by_cases hx : x ∈ L
  · obtain ⟨h0, h1⟩ := hr x hx
    have := h x.toNat (by omega)
    rw [Int.toNat_of_nonneg h0] at this
    omega
  · rw [List.count_eq_zero.2 hx]; omega

theorem whole_of_fine {L : List Int} (h : Fine L.length L) : wholeTo L L.length := by
  have hle : ∀ i : Nat, L.count (i : Int) ≤ 1 := fun i => List.nodup_iff_count.1 h.2 _
  have hall : L.countP (fun x : Int => decide (0 ≤ x ∧ x < ((L.length : Nat) : Int))) = L.length := List.countP_eq_length.2 (fun x hx => by simpa using h.1 x hx)
  have key : ∀ m, L.countP (fun x : Int => decide (0 ≤ x ∧ x < ((m : Nat) : Int))) ≤ m := by
    intro m
    induction m with
    | zero => rw [Nat.le_zero, List.countP_eq_zero]; intro x _; simp; try omega
    | succ m ih => rw [countP_range]; have := hle m; omega
  intro i hi
  have step : ∀ m, m ≤ L.length → L.countP (fun x : Int => decide (0 ≤ x ∧ x < ((m : Nat) : Int))) = m := by
    intro m
    generalize hd : L.length - m = d
    induction d generalizing m with
    | zero => intro hm; obtain rfl : m = L.length := by omega
              exact hall
    | succ d ih =>
      intro hm
      have := ih (m + 1) (by omega) (by omega)
      rw [countP_range] at this
      have h1 := hle m
      have h2 := key m
      omega
  have a := step i (by omega)
  have b := step (i + 1) (by omega)
  rw [countP_range, a] at b
  omega

/-- The inverse, from the first k places. -/
def invSt (n : Nat) (L : List Int) : Nat → List Int
  | 0 => List.replicate n 0
  | k + 1 => (invSt n L k).set (L.getD k 0).toNat (k : Int)
def seenSt (n : Nat) (L : List Int) : Nat → List Bool
  | 0 => List.replicate n false
  | k + 1 => (seenSt n L k).set (L.getD k 0).toNat true
def invL (L : List Int) : List Int := invSt L.length L L.length
theorem invSt_length (n : Nat) (L : List Int) (k : Nat) : (invSt n L k).length = n := by
  induction k with
  | zero => simp [invSt]
  | succ k ih => simp [invSt, ih]
theorem seenSt_length (n : Nat) (L : List Int) (k : Nat) : (seenSt n L k).length = n := by
  induction k with
  | zero => simp [seenSt]
  | succ k ih => simp [seenSt, ih]
theorem invL_length (L : List Int) : (invL L).length = L.length := invSt_length _ _ _

theorem seenSt_get {n : Nat} {L : List Int} {k t : Nat} (hk : k ≤ L.length) (ht : t < n) (hf : ∀ x ∈ L.take k, 0 ≤ x) : (seenSt n L k)[t]? = some (decide ((t : Int) ∈ L.take k)) := by
  induction k with
  | zero => simp [seenSt, ht]
  | succ k ih =>
    have hlt : k < L.length := by omega
    rw [List.take_succ_eq_append_getElem hlt] at hf ⊢
    have h0 : 0 ≤ L[k] := hf _ (List.mem_append.2 (.inr (List.mem_singleton.2 rfl)))
    have ih' := ih (by omega) (fun x hx => hf x (List.mem_append.2 (.inl hx)))
    have hmem : ∀ x, x ∈ L.take k ++ [L[k]] ↔ x ∈ L.take k ∨ x = L[k] := fun x => by rw [List.mem_append, List.mem_singleton]
    have e : L.getD k 0 = L[k] := by rw [List.getD_eq_getElem?_getD, List.getElem?_eq_getElem hlt]; rfl
    rw [seenSt, e, List.getElem?_set, seenSt_length]
    by_cases h : L[k].toNat = t
    · rw [if_pos h, if_pos (by omega)]
      have : (t : Int) = L[k] := by omega
      congr 1; symm; rw [decide_eq_true_iff, hmem]; exact .inr this
    · rw [if_neg h, ih']
      have : ¬ (t : Int) = L[k] := by omega
      congr 1; rw [decide_eq_decide, hmem]; simp [this]

theorem invSt_get {n : Nat} {L : List Int} (hf : Fine n L) {k : Nat} (hk : k ≤ L.length) : ∀ i, i < k → (invSt n L k)[(L.getD i 0).toNat]? = some (i : Int) := by
  have ge : ∀ i (h : i < L.length), L.getD i 0 = L[i] := fun i h => by rw [List.getD_eq_getElem?_getD, List.getElem?_eq_getElem h]; rfl
  induction k with
  | zero => intro i hi; omega
  | succ k ih =>
    intro i hi
    rw [invSt, List.getElem?_set, invSt_length, ge k (by omega), ge i (by omega)]
    obtain ⟨a0, a1⟩ := hf.1 L[k] (by simp)
    obtain ⟨b0, b1⟩ := hf.1 (L[i]'(by omega)) (by simp)
    by_cases e : i = k
    · subst e; rw [if_pos rfl, if_pos (by omega)]
    · have hne : L[k] ≠ L[i]'(by omega) := fun h => e ((List.getElem_inj hf.2).1 h).symm
      rw [if_neg (by omega)]
      have := ih (by omega) i (by omega)
      rw [ge i (by omega)] at this
      exact this

theorem invL_at {L : List Int} (hf : Fine L.length L) {i : Nat} {x : Int} (h : L[i]? = some x) : (invL L)[x.toNat]? = some (i : Int) := by
  obtain ⟨hlt, rfl⟩ := List.getElem?_eq_some_iff.1 h
  have := invSt_get hf (Nat.le_refl _) i hlt
  rwa [List.getD_eq_getElem?_getD, h] at this

/-- Every number of a place stands somewhere. -/
theorem whole_has {L : List Int} (h : wholeTo L L.length) {t : Nat} (ht : t < L.length) : ∃ i, i < L.length ∧ L[i]? = some (t : Int) := by
  have hc := h t ht
  have hm : (t : Int) ∈ L := List.count_pos_iff.1 (by omega)
  obtain ⟨i, hi, e⟩ := List.mem_iff_getElem.1 hm
  exact ⟨i, hi, by rw [List.getElem?_eq_getElem hi, e]⟩

theorem invL_fine {L : List Int} (h : wholeTo L L.length) : Fine (invL L).length (invL L) := by
  have hf := fine_of_whole h
  rw [invL_length]
  have get : ∀ t, t < L.length → ∃ i, i < L.length ∧ L[i]? = some (t : Int) ∧ (invL L)[t]? = some (i : Int) := by
    intro t ht
    obtain ⟨i, hi, he⟩ := whole_has h ht
    exact ⟨i, hi, he, by have := invL_at hf he; simpa using this⟩
  constructor
  · intro x hx
    obtain ⟨t, ht, e⟩ := List.mem_iff_getElem.1 hx
    rw [invL_length] at ht
    obtain ⟨i, hi, _, h2⟩ := get t ht
    rw [List.getElem?_eq_getElem (by rw [invL_length]; exact ht), e] at h2
    obtain rfl := Option.some.inj h2
    omega
  · rw [List.nodup_iff_pairwise_ne, List.pairwise_iff_getElem]
    intro s t hs ht hst
    rw [invL_length] at hs ht
    obtain ⟨i, hi, a1, a2⟩ := get s hs
    obtain ⟨j, hj, b1, b2⟩ := get t ht
    rw [List.getElem?_eq_getElem (by rw [invL_length]; exact hs)] at a2
    rw [List.getElem?_eq_getElem (by rw [invL_length]; exact ht)] at b2
    rw [Option.some.inj a2, Option.some.inj b2]
    intro e
    obtain rfl : i = j := by omega
    rw [a1] at b1
    have := Option.some.inj b1
    omega
theorem invL_whole {L : List Int} (h : wholeTo L L.length) : wholeTo (invL L) (invL L).length := whole_of_fine (invL_fine h)
theorem invL_invL {L : List Int} (h : wholeTo L L.length) : invL (invL L) = L := by
  have hf := fine_of_whole h
  apply List.ext_getElem?
  intro i
  by_cases hi : i < L.length
  · have e := List.getElem?_eq_getElem hi
    obtain ⟨b0, b1⟩ := hf.1 L[i] (by simp)
    have h1 := invL_at hf e
    have h2 := invL_at (invL_fine h) h1
    rw [e]
    simp only [Int.toNat_natCast] at h2
    rw [h2]
    congr 1; omega
  · rw [List.getElem?_eq_none (by rw [invL_length, invL_length]; omega), List.getElem?_eq_none (by omega)]
end Go.Proofs.Ytminoelijdpmeaa
