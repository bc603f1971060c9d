/- Plain facts: cells written over; blocks moved one directly after the other. No condition. -/
import Derived.Test.YthllilkafdgheaaAf
namespace Go.Proofs.Ythllilkafdgheaa
open Go.RowKit
set_option linter.unusedVariables false
set_option linter.unusedSimpArgs false

/-- The list xs with vs written from place o on. -/
def splice {α : Type} (xs : List α) (o : Nat) (vs : List α) : List α := xs.take o ++ vs ++ xs.drop (o + vs.length)
theorem splice_length {α : Type} (xs : List α) (o : Nat) (vs : List α) (h : o + vs.length ≤ xs.length) : (splice xs o vs).length = xs.length := by
  unfold splice; simp; omega
theorem splice_get {α : Type} (xs : List α) (o : Nat) (vs : List α) (h : o + vs.length ≤ xs.length) (j : Nat) : (splice xs o vs)[j]? = if o ≤ j ∧ j < o + vs.length then vs[j - o]? else xs[j]? := by
  unfold splice
  have h1 : (xs.take o).length = o := by simp; omega
  by_cases c1 : j < o
  · rw [if_neg (by omega), List.append_assoc, List.getElem?_append_left (by omega), List.getElem?_take, if_pos c1]
  · by_cases c2 : j < o + vs.length
    · rw [if_pos ⟨by omega, c2⟩, List.append_assoc, List.getElem?_append_right (by omega), h1, List.getElem?_append_left (by omega)]
    · rw [if_neg (by omega), List.getElem?_append_right (by simp; omega), List.getElem?_drop]
      congr 1; simp; omega
theorem splice_map {α β : Type} (f : α → β) (xs : List α) (o : Nat) (vs : List α) : (splice xs o vs).map f = splice (xs.map f) o (vs.map f) := by
  unfold splice; simp [List.map_take, List.map_drop]
/-- What lies apart from the place is as it was. -/
theorem splice_apart {α : Type} {xs : List α} {o : Nat} {vs : List α} (h : o + vs.length ≤ xs.length) {f n : Nat} (ha : f + n ≤ o ∨ o + vs.length ≤ f) : ((splice xs o vs).drop f).take n = (xs.drop f).take n := by
  apply List.ext_getElem?
  intro j
  rw [List.getElem?_take, List.getElem?_take, List.getElem?_drop, List.getElem?_drop]
  by_cases c : j < n
  · rw [if_pos c, if_pos c, splice_get _ _ _ h, if_neg (by omega)]
  · rw [if_neg c, if_neg c]
theorem splice_here {α : Type} {xs : List α} {o : Nat} {vs : List α} (h : o + vs.length ≤ xs.length) : ((splice xs o vs).drop o).take vs.length = vs := by
  apply List.ext_getElem?
  intro j
  rw [List.getElem?_take, List.getElem?_drop]
  by_cases c : j < vs.length
  · rw [if_pos c, splice_get _ _ _ h, if_pos (by omega), show o + j - o = j by omega]
  · rw [if_neg c, List.getElem?_eq_none (by omega)]
theorem row_splice {e : TypeId} {g n cap o : Nat} {xs vs : List Value} {w : World} (h : Row e 1 g n cap xs w) (ho : o + vs.length ≤ n) : Row e 1 g n cap (splice xs o vs) (w.setCells g o vs) := by
  have hl := h.len
  obtain ⟨cur, hh, h1, h2, h3, h4, h5⟩ := h
  refine ⟨_, heap_setCells g _ _ _ _ e hh, h1, h2, by rw [wr_size]; exact h3, by rw [splice_length _ _ _ (by omega)]; exact h4, fun j hj => ?_⟩
  rw [splice_get _ _ _ (by omega), wr_get _ _ _ _ (by omega)]
  by_cases c : o ≤ j ∧ j < o + vs.length
  · rw [if_pos c, if_pos c]
  · rw [if_neg c, if_neg c]; exact h5 j hj

/-- How many words. -/
def sumN (L : List Blk) : Nat := (L.map Blk.n).sum
theorem sumN_nil : sumN [] = 0 := rfl
theorem sumN_cons (b : Blk) (r : List Blk) : sumN (b :: r) = b.n + sumN r := by simp [sumN]
theorem sumN_append (l m : List Blk) : sumN (l ++ m) = sumN l + sumN m := by simp [sumN]
theorem sumN_take_succ {L : List Blk} {i : Nat} {x : Blk} (h : L[i]? = some x) : sumN (L.take (i + 1)) = sumN (L.take i) + x.n := by
  rw [List.take_add_one, h, sumN_append]; simp [sumN]

/-- All one directly after the other, from t on. -/
def comp : Nat → List Blk → List Blk
  | _, [] => []
  | t, b :: r => { b with f := t } :: comp (t + b.n) r
theorem comp_length (L : List Blk) : ∀ t, (comp t L).length = L.length := by
  induction L with
  | nil => intro t; rfl
  | cons b r ih => intro t; simp [comp, ih]
theorem comp_append (l m : List Blk) : ∀ t, comp t (l ++ m) = comp t l ++ comp (t + sumN l) m := by
  induction l with
  | nil => intro t; simp [comp, sumN]
  | cons b r ih => intro t; simp [comp, ih, sumN_cons, Nat.add_assoc]
theorem comp_mem : ∀ (L : List Blk) (t : Nat) (b : Blk), b ∈ comp t L → t ≤ b.f ∧ b.f + b.n ≤ t + sumN L ∧ ∃ b', b' ∈ L ∧ b'.h = b.h ∧ b'.n = b.n ∧ b'.d = b.d
  | b :: r, t, x, h => by
    simp only [comp, List.mem_cons] at h
    rcases h with rfl | h
    · exact ⟨Nat.le_refl _, by rw [sumN_cons]; simp only; omega, b, by simp, rfl, rfl, rfl⟩
    · obtain ⟨h1, h2, b', h3, h4⟩ := comp_mem r _ x h
      exact ⟨by omega, by rw [sumN_cons]; omega, b', by simp [h3], h4⟩
theorem comp_get (L : List Blk) (i : Nat) (x : Blk) (h : L[i]? = some x) : ∀ t, (comp t L)[i]? = some { x with f := t + sumN (L.take i) } := by
  induction L generalizing i with
  | nil => simp at h
  | cons b r ih =>
    intro t
    cases i with
    | zero => simp at h; subst h; simp [comp, sumN]
    | succ j =>
      simp only [comp, List.getElem?_cons_succ, List.take_succ_cons]
      rw [ih j (by simpa using h), sumN_cons, Nat.add_assoc]

/-- The first i moved. -/
def mid (L : List Blk) (i : Nat) : List Blk := comp 0 (L.take i) ++ L.drop i
theorem mid_length (L : List Blk) (i : Nat) : (mid L i).length = L.length := by unfold mid; simp [comp_length]; omega
theorem mid_zero (L : List Blk) : mid L 0 = L := by simp [mid, comp]
theorem mid_all (L : List Blk) : mid L L.length = comp 0 L := by simp [mid]
theorem mid_at {L : List Blk} {i : Nat} {x : Blk} (h : L[i]? = some x) : (mid L i)[i]? = some x := by
  have hi := (List.getElem?_eq_some_iff.1 h).1
  unfold mid
  rw [List.getElem?_append_right (by simp [comp_length]; omega), List.getElem?_drop]
  simp [comp_length, Nat.min_eq_left (Nat.le_of_lt hi), h]
theorem mid_step {L : List Blk} {i : Nat} {x : Blk} (h : L[i]? = some x) : mid L (i + 1) = (mid L i).set i { x with f := sumN (L.take i) } := by
  have hi := (List.getElem?_eq_some_iff.1 h).1
  have hl : (comp 0 (L.take i)).length = i := by simp [comp_length]; omega
  unfold mid
  rw [List.take_add_one, h, comp_append, List.set_append_right _ _ (by omega), hl, Nat.sub_self]
  have hd : L.drop i = x :: L.drop (i + 1) := by rw [List.drop_eq_getElem_cons hi]; congr 1; exact (List.getElem?_eq_some_iff.1 h).2
  rw [hd]
  simp [comp]

theorem comp_h (L : List Blk) : ∀ t, (comp t L).map Blk.h = L.map Blk.h := by
  induction L with
  | nil => intro t; rfl
  | cons b r ih => intro t; simp [comp, ih]
theorem mid_h (L : List Blk) (i : Nat) : (mid L i).map Blk.h = L.map Blk.h := by
  unfold mid
  rw [List.map_append, comp_h, ← List.map_append, List.take_append_drop]
/-- Distinct handles: one place alone has a handle. -/
theorem hnd_ne {L : List Blk} (h : L.Pairwise (fun a b => a.h ≠ b.h)) {i j : Nat} {x y : Blk} (hi : L[i]? = some x) (hj : L[j]? = some y) (hne : i ≠ j) : x.h ≠ y.h := by
  obtain ⟨h1, rfl⟩ := List.getElem?_eq_some_iff.1 hi
  obtain ⟨h2, rfl⟩ := List.getElem?_eq_some_iff.1 hj
  rcases Nat.lt_or_ge i j with h3 | h3
  · exact List.pairwise_iff_getElem.1 h i j h1 h2 h3
  · exact Ne.symm (List.pairwise_iff_getElem.1 h j i h2 h1 (by omega))
theorem hnd_of_map {L M : List Blk} (h : L.Pairwise (fun a b => a.h ≠ b.h)) (he : M.map Blk.h = L.map Blk.h) : M.Pairwise (fun a b => a.h ≠ b.h) := by
  have h1 : (L.map Blk.h).Pairwise (fun a b => a ≠ b) := List.pairwise_map.2 h
  rw [← he] at h1
  exact List.pairwise_map.1 h1

/-- Blocks one behind the other. -/
def Srt (L : List Blk) : Prop := L.Pairwise (fun a b => a.f + a.n ≤ b.f)
theorem sum_le_from : ∀ (L : List Blk) (t : Nat), Srt L → (∀ b, b ∈ L → t ≤ b.f) → ∀ (i : Nat) (x : Blk), L[i]? = some x → t + sumN (L.take i) ≤ x.f
  | b :: r, t, hs, ht, 0, x, h => by simp at h; subst h; simpa [sumN] using ht b (by simp)
  | b :: r, t, hs, ht, i + 1, x, h => by
    obtain ⟨h1, h2⟩ := List.pairwise_cons.1 hs
    have hb := ht b (by simp)
    have := sum_le_from r (t + b.n) h2 (fun y hy => by have := h1 y hy; omega) i x (by simpa using h)
    rw [List.take_succ_cons, sumN_cons]; omega
theorem wf63 {a : Int} (h1 : -9223372036854775808 ≤ a) (h2 : a ≤ 9223372036854775807) : (Lit.int .i64 a).wf = true := by
  exact WalkArith.wf_i64 (by omega)
/-- The map when one block's position is set. -/
theorem MD.move {D : DataW Unit} {M : List Blk} {i : Nat} {x : Blk} (h : MD D M) (hd : M.Pairwise (fun a b => a.h ≠ b.h)) (hx : M[i]? = some x) (f' : Nat) : MD (D.put (.int .i64 (x.h : Int)) (.lit (.int .i64 (f' : Int)))) (M.set i { x with f := f' }) := by
  have hi := (List.getElem?_eq_some_iff.1 hx).1
  refine h.put x.h f' (by rw [if_pos ⟨x, List.mem_of_getElem? hx, rfl⟩]; simp) (fun b hb => ?_) ⟨{ x with f := f' }, ?_, rfl⟩ (fun b hb hne => ?_)
  · obtain ⟨j, hj⟩ := List.mem_iff_getElem?.1 hb
    rw [List.getElem?_set] at hj
    by_cases e : i = j
    · subst e; rw [if_pos rfl, if_pos hi] at hj; cases hj; exact .inl ⟨rfl, rfl⟩
    · rw [if_neg e] at hj
      exact .inr ⟨Ne.symm (hnd_ne hd hx hj e), List.mem_of_getElem? hj⟩
  · exact List.mem_of_getElem? (i := i) (by rw [List.getElem?_set, if_pos rfl, if_pos hi])
  · obtain ⟨j, hj⟩ := List.mem_iff_getElem?.1 hb
    have e : i ≠ j := by rintro rfl; rw [hx] at hj; cases hj; exact hne rfl
    exact ⟨b, List.mem_of_getElem? (i := j) (by rw [List.getElem?_set, if_neg e]; exact hj), rfl⟩
end Go.Proofs.Ythllilkafdgheaa
