/- The reference's place is the arena's first gap; its sorted list is the arena's. No condition. -/
import Derived.Test.YthllilkafdgheaaCb
import Derived.Test.YthllilkafdgheaaCd
namespace Go.Proofs.Ythllilkafdgheaa
open Go.RowKit
set_option linter.unusedVariables false
set_option linter.unusedSimpArgs false

theorem blocked {L : List Blk} {words fr : Nat} : ∀ (i : Nat), i ≤ L.length → (∀ j x, j < i → L[j]? = some x → x.f < E L j + words) → fr < E L i → ∃ x, x ∈ L ∧ x.f < fr + words ∧ fr < x.f + x.n
  | 0, _, _, h => by simp [E] at h
  | m + 1, hi, hs, h => by
    obtain ⟨x, hx⟩ : ∃ x, L[m]? = some x := ⟨_, List.getElem?_eq_getElem (by omega)⟩
    rcases Nat.lt_or_ge fr (E L m) with h1 | h1
    · exact blocked m (by omega) (fun j y hj hy => hs j y (by omega) hy) h1
    · rw [E_succ hx] at h
      have := hs m x (by omega) hx
      exact ⟨x, List.mem_of_getElem? hx, by omega, h⟩
theorem FreeAt.congr {M N : List Blk} (h : ∀ x, x ∈ M ↔ x ∈ N) {cap fr words : Nat} : FreeAt M cap fr words ↔ FreeAt N cap fr words := by
  unfold FreeAt
  constructor
  · rintro ⟨h1, h2⟩; exact ⟨fun x hx => h1 x ((h x).2 hx), h2⟩
  · rintro ⟨h1, h2⟩; exact ⟨fun x hx => h1 x ((h x).1 hx), h2⟩
/-- The list in the order of L. -/
theorem lift_perm : ∀ (L : List Blk) (R : List RB), (blks R).Perm L → ∃ T, T.Perm R ∧ blks T = L
  | [], R, h => by
    have : blks R = [] := h.eq_nil
    have hR : R = [] := by cases R with | nil => rfl | cons x r => simp [blks] at this
    subst hR
    exact ⟨[], List.Perm.refl _, rfl⟩
  | b :: L, R, h => by
    have hb : b ∈ blks R := h.symm.subset (by simp)
    obtain ⟨x, hx, rfl⟩ := List.mem_map.1 hb
    obtain ⟨R1, R2, rfl⟩ := List.append_of_mem hx
    have h2 : (blks (R1 ++ R2)).Perm L := by
      have h3 : (blks (R1 ++ x :: R2)).Perm (x.b :: blks (R1 ++ R2)) := by
        unfold blks
        rw [List.map_append, List.map_append, List.map_cons]
        exact List.perm_middle
      exact (h3.symm.trans h).cons_inv
    obtain ⟨T, h4, h5⟩ := lift_perm L _ h2
    refine ⟨x :: T, (h4.cons x).trans List.perm_middle.symm, by simp only [blks, List.map_cons] at h5 ⊢; rw [h5]⟩
theorem Good.incr {s : St} (hg : Good s) (i j : Nat) (x y : Blk) (hij : i < j) (hx : s.L[i]? = some x) (hy : s.L[j]? = some y) : x.f < y.f := by
  obtain ⟨h1, h2⟩ := List.getElem?_eq_some_iff.1 hx
  obtain ⟨h3, h4⟩ := List.getElem?_eq_some_iff.1 hy
  have := List.pairwise_iff_getElem.1 hg.srt i j h1 h3 hij
  rw [h2, h4] at this
  have := (hg.blk x (List.mem_of_getElem? hx)).1
  omega
theorem srtOf {s : St} (hg : Good s) {R : List RB} (h : (blks R).Perm s.L) : ∃ T, SrtOf R T ∧ blks T = s.L ∧ T.Perm R := by
  obtain ⟨T, h1, h2⟩ := lift_perm s.L R h
  refine ⟨T, ⟨h1.length_eq, fun x => ⟨fun hx => h1.symm.subset hx, fun hx => h1.subset hx⟩, fun i j x y hij hx hy => ?_⟩, h2, h1⟩
  refine hg.incr i j x.b y.b hij ?_ ?_
  · rw [← h2]; exact blks_get hx
  · rw [← h2]; exact blks_get hy
/-- Where the reference places. -/
theorem place_at {s s' : St} {words : Nat} (hg : Good s) (hgv : Given s words s') (h1 : 1 ≤ words) (h2 : s.live + words ≤ s.cap) {R : List RB} (hp : (blks R).Perm s.L) {e : Ending} (he : PlaceRes (blks R) s.cap words e) :
    (∃ i pk, e = .returned (.int .i64 (E s.L i : Nat)) ∧ i ≤ s.L.length ∧ E s.L i + words ≤ s.cap ∧ s' = placed s s.L i words pk s.moves) ∨ (e = .returned (.int .i64 (-1)) ∧ s' = placed s (comp 0 s.L) s.L.length words s.L.length (s.moves + 1)) := by
  have hc : ∀ x, x ∈ blks R ↔ x ∈ s.L := fun x => ⟨fun h => hp.subset h, fun h => hp.symm.subset h⟩
  rcases hgv with ⟨k, i, hgap, rfl⟩ | ⟨k, hgap, rfl⟩
  · have hgvn : Given s words (placed s s.L i words k s.moves) := .inl ⟨k, i, hgap, rfl⟩
    have hfit := fit_gap hg hgap h2
    have hle := hfit.le
    have hsm : ∀ j x, j < i → s.L[j]? = some x → x.f < E s.L j + words := fun j x hj hx => by
      rcases Nat.lt_or_ge j k with h5 | h5
      · have := (Good.pack hg hgap).tight j x h5 hx
        simp only at this; omega
      · have := hgap.small j x h5 hj hx; omega
    have hfree : FreeAt s.L s.cap (E s.L i) words := by
      refine ⟨fun x hx => ?_, hfit.fit⟩
      obtain ⟨j, hj⟩ := List.mem_iff_getElem?.1 hx
      rcases Nat.lt_or_ge j i with h5 | h5
      · have := hfit.before j x h5 hj; omega
      · have := hfit.after j x h5 hj; omega
    have hno : ∀ f', f' < E s.L i → ¬ FreeAt s.L s.cap f' words := fun f' hf hfr => by
      obtain ⟨x, hx, h5, h6⟩ := blocked i hle hsm hf
      exact hfr.1 x hx ⟨h5, h6⟩
    left
    refine ⟨i, k, ?_, hle, hfit.fit, rfl⟩
    rcases he with ⟨fr, rfl, h5, h6⟩ | ⟨_, h6⟩
    · rw [FreeAt.congr hc] at h5
      rcases Nat.lt_trichotomy fr (E s.L i) with h7 | h7 | h7
      · exact absurd h5 (hno fr h7)
      · rw [h7]
      · exact absurd ((FreeAt.congr hc).2 hfree) (h6 _ h7)
    · exact absurd ((FreeAt.congr hc).2 hfree) (h6 _)
  · right
    have hgv : Given s words (placed s (comp 0 s.L) s.L.length words s.L.length (s.moves + 1)) := .inr ⟨k, hgap, rfl⟩
    have hsm : ∀ j x, j < s.L.length → s.L[j]? = some x → x.f < E s.L j + words := fun j x hj hx => by
      rcases Nat.lt_or_ge j k with h5 | h5
      · have := (Good.pack hg hgap).tight j x h5 hx
        simp only at this; omega
      · have := hgap.small j x h5 hj hx; omega
    have hlast : s.cap < E s.L s.L.length + words := by
      have := hgap.last rfl
      simp only [Bool.false_eq_true, false_iff] at this
      omega
    refine ⟨?_, rfl⟩
    rcases he with ⟨fr, rfl, h5, h6⟩ | ⟨rfl, h6⟩
    · exfalso
      rw [FreeAt.congr hc] at h5
      have h7 := h5.2
      obtain ⟨x, hx, h8, h9⟩ := blocked (fr := fr) s.L.length (Nat.le_refl _) hsm (by omega)
      exact h5.1 x hx ⟨h8, h9⟩
    · rfl
end Go.Proofs.Ythllilkafdgheaa
