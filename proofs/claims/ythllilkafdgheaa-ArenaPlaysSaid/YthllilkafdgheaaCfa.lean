/- A row of the reference's blocks whose positions are set one after the other. No condition. -/
import Derived.Test.YthllilkafdgheaaCe
namespace Go.Proofs.Ythllilkafdgheaa
open Go.RowKit
set_option linter.unusedVariables false
set_option linter.unusedSimpArgs false

/-- A block at another position. -/
def RB.at (x : RB) (f : Nat) : RB := { x with b := { x.b with f := f } }
/-- All blocks one directly after the other, from t on. -/
def compR : Nat → List RB → List RB
  | _, [] => []
  | t, x :: r => x.at t :: compR (t + x.b.n) r
theorem compR_length : ∀ (T : List RB) (t : Nat), (compR t T).length = T.length
  | [], _ => rfl
  | x :: r, t => by simp [compR, compR_length r]
theorem blks_compR : ∀ (T : List RB) (t : Nat), blks (compR t T) = comp t (blks T)
  | [], _ => rfl
  | x :: r, t => by
    have := blks_compR r (t + x.b.n)
    unfold blks at this ⊢
    simp only [compR, List.map_cons, comp]
    rw [this]; rfl
theorem compR_append : ∀ (T U : List RB) (t : Nat), compR t (T ++ U) = compR t T ++ compR (t + sumN (blks T)) U
  | [], U, t => by simp [compR, blks, sumN]
  | x :: r, U, t => by
    have := compR_append r U (t + x.b.n)
    simp only [List.cons_append, compR]
    rw [this]
    have h : t + x.b.n + sumN (blks r) = t + sumN (blks (x :: r)) := by simp [blks, sumN]; omega
    rw [h]
theorem compR_rc {B : List Nat} {W : World} : ∀ (T : List RB) (t : Nat), (∀ x, x ∈ T → RdC B x W) → ∀ x, x ∈ compR t T → RdC B x W
  | x :: r, t, h, y, hy => by
    simp only [compR, List.mem_cons] at hy
    rcases hy with rfl | hy
    · exact h x (by simp)
    · exact compR_rc r _ (fun z hz => h z (by simp [hz])) y hy
/-- The first i are placed. -/
def midR (T : List RB) (i : Nat) : List RB := compR 0 (T.take i) ++ T.drop i
theorem midR_zero (T : List RB) : midR T 0 = T := by simp [midR, compR]
theorem midR_all (T : List RB) : midR T T.length = compR 0 T := by simp [midR]
theorem midR_length (T : List RB) (i : Nat) : (midR T i).length = T.length := by unfold midR; simp [compR_length]; omega
theorem midR_get {T : List RB} {i : Nat} {x : RB} (h : T[i]? = some x) : (midR T i)[i]? = some x := by
  have hl := (List.getElem?_eq_some_iff.1 h).1
  have hc : (compR 0 (T.take i)).length = i := by rw [compR_length, List.length_take]; omega
  unfold midR
  rw [List.getElem?_append_right (by omega), hc, List.getElem?_drop]
  simpa using h
/-- One more is placed. -/
theorem rcs_mid {T : List RB} {i : Nat} {x : RB} (h : T[i]? = some x) : rcs (midR T (i + 1)) = (rcs (midR T i)).set (i * 4 + 1) (.int .i64 (sumN ((blks T).take i) : Nat)) := by
  have hl := (List.getElem?_eq_some_iff.1 h).1
  have hc : (compR 0 (T.take i)).length = i := by rw [compR_length, List.length_take]; omega
  have hd : T.drop i = x :: T.drop (i + 1) := by
    rw [List.drop_eq_getElem_cons hl]; congr 1
    have := List.getElem?_eq_getElem hl
    rw [h] at this; injection this with e; exact e.symm
  have ht : T.take (i + 1) = T.take i ++ [x] := by rw [List.take_add_one, h]; rfl
  have hb : blks (T.take i) = (blks T).take i := by unfold blks; rw [List.map_take]
  unfold midR
  rw [ht, compR_append, hd, Nat.zero_add, hb, rcs_append, rcs_append, rcs_append, List.append_assoc]
  have hlen : (rcs (compR 0 (T.take i))).length = i * 4 := by rw [rcs_length, hc]
  rw [List.set_append, if_neg (by omega), hlen, show i * 4 + 1 - i * 4 = 1 by omega]
  simp [compR, rcs, RB.at]
/-- A cell of a row of one's own set. -/
theorem owns_set {w : World} {B : Nat} {e : TypeId} {z g n cap : Nat} {xs : List Value} (h : w.ownsRow B e z (.slice (some ⟨g, 0, none⟩) n cap) n xs) (k : Nat) (u : Value) (hk : k < n * z) : (w.setCell ⟨g, k, none⟩ u).ownsRow B e z (.slice (some ⟨g, 0, none⟩) n cap) n (xs.set k u) := by
  obtain ⟨hl, ⟨h1, h2⟩ | ⟨g', cap', cur, he, hg, hcur, hcap, hmx, hsc, htk⟩⟩ := h
  · cases h1
  · injection he with e1 e2 e3
    injection e1 with e1
    injection e1 with e1
    subst e1; subst e3
    refine ⟨by simpa using hl, .inr ⟨g, cap, cur.setIfInBounds k u, rfl, hg, ?_, hcap, hmx, by simpa using hsc, ?_⟩⟩
    · simp [World.setCell, Array.getElem?_modify, hcur]
    · apply List.ext_getElem?
      intro j
      rw [List.getElem?_take, List.getElem?_set, ← htk]
      by_cases hj : j < n * z
      · rw [if_pos hj, Array.getElem?_toList]
        by_cases hkj : k = j
        · subst hkj
          rw [if_pos rfl]
          have hks : k < cur.size := by rw [hsc]; exact Nat.lt_of_lt_of_le hk (Nat.mul_le_mul_right _ hcap)
          rw [Array.getElem?_setIfInBounds_self_of_lt hks, if_pos (by simp; omega)]
        · rw [if_neg hkj, Array.getElem?_setIfInBounds_ne hkj, List.getElem?_take, if_pos hj, Array.getElem?_toList]
      · rw [if_neg hj, if_neg (by omega), List.getElem?_take, if_neg hj]
end Go.Proofs.Ythllilkafdgheaa
