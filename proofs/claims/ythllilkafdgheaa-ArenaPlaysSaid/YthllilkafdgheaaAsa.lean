/- The invariant behind Put; where Give places a block. No condition. -/
import Derived.Test.YthllilkafdgheaaAra
import Derived.Test.YthllilkafdgheaaAk
namespace Go.Proofs.Ythllilkafdgheaa
open Go.RowKit
set_option linter.unusedVariables false
set_option linter.unusedSimpArgs false

theorem wrote_f {L : List Blk} {j : Nat} {x : Blk} {ds : List Int} (hx : L[j]? = some x) {i : Nat} {y : Blk} (h : (L.set j { x with d := ds })[i]? = some y) : ∃ y', L[i]? = some y' ∧ y'.h = y.h ∧ y'.f = y.f ∧ y'.n = y.n := by
  rw [List.getElem?_set] at h
  split at h
  · rename_i hij; subst hij
    split at h
    · cases h; exact ⟨x, hx, rfl, rfl, rfl⟩
    · cases h
  · exact ⟨y, h, rfl, rfl, rfl⟩
theorem pairwise_wrote {R : Blk → Blk → Prop} (hR : ∀ a b a' b' : Blk, a.h = a'.h → a.f = a'.f → a.n = a'.n → b.h = b'.h → b.f = b'.f → b.n = b'.n → R a b → R a' b') {L : List Blk} {j : Nat} {x : Blk} {ds : List Int} (hx : L[j]? = some x) (h : L.Pairwise R) : (L.set j { x with d := ds }).Pairwise R := by
  rw [List.pairwise_iff_getElem] at h ⊢
  intro a b ha hb hab
  obtain ⟨y, h1, h2, h3, h4⟩ := wrote_f (ds := ds) hx (List.getElem?_eq_getElem ha)
  obtain ⟨z, k1, k2, k3, k4⟩ := wrote_f (ds := ds) hx (List.getElem?_eq_getElem hb)
  obtain ⟨e1, e2⟩ := List.getElem?_eq_some_iff.1 h1
  obtain ⟨e3, e4⟩ := List.getElem?_eq_some_iff.1 k1
  have := h a b e1 e3 hab
  rw [e2, e4] at this
  exact hR _ _ _ _ h2 h3 h4 k2 k3 k4 this
theorem E_wrote {L : List Blk} {j : Nat} {x : Blk} {ds : List Int} (hx : L[j]? = some x) (i : Nat) : E (L.set j { x with d := ds }) i = E L i := by
  cases i with
  | zero => rfl
  | succ m =>
    simp only [E]
    by_cases hij : j = m
    · subst hij
      rw [List.getElem?_set, if_pos rfl, if_pos (List.getElem?_eq_some_iff.1 hx).1, hx]
    · rw [List.getElem?_set, if_neg hij]
theorem sumN_wrote {L : List Blk} {j : Nat} {x : Blk} {ds : List Int} (hx : L[j]? = some x) : sumN (L.set j { x with d := ds }) = sumN L := by
  unfold sumN
  rw [List.map_set, list_set_same (by rw [List.getElem?_map, hx]; rfl)]
theorem wrote_good {s : St} {j : Nat} {x : Blk} {ds : List Int} (hg : Good s) (hx : s.L[j]? = some x) (hd : ds.length = x.n) : Good (wrote s j x ds) := by
  have hxb := hg.blk x (List.mem_of_getElem? hx)
  refine ⟨pairwise_wrote (fun a b a' b' h1 h2 h3 h4 h5 h6 h => by rw [← h2, ← h3, ← h5]; exact h) hx hg.srt, fun b hb => ?_, pairwise_wrote (fun a b a' b' h1 h2 h3 h4 h5 h6 h => by rw [← h1, ← h4]; exact h) hx hg.hnd, hg.high, hg.cap, ?_, hg.nxt, ?_, ?_, hg.peak, fun i y hi hy => ?_, hg.mv⟩
  · rcases mem_wrote hb with rfl | hb
    · exact ⟨hxb.1, hxb.2.1, hd, hxb.2.2.2⟩
    · exact hg.blk b hb
  · have := hg.cntn; simpa [wrote] using this
  · have := hg.packed; simpa [wrote] using this
  · show s.live = sumN (s.L.set j { x with d := ds })
    rw [sumN_wrote hx]; exact hg.live
  · obtain ⟨y', h1, h2, h3, h4⟩ := wrote_f hx hy
    show y.f = E (s.L.set j { x with d := ds }) i
    rw [E_wrote hx, ← h3]
    exact hg.tight i y' hi h1

/-- Where Give places a block: the first gap, or behind all when they are packed. -/
theorem Given.where {s s' : St} {words : Nat} (hg : Good s) (h : Given s words s') (hw : 1 ≤ words) : ∃ i pk,
    (s' = placed s s.L i words pk s.moves ∧ i ≤ s.L.length ∧ (∀ j x, j < i → s.L[j]? = some x → x.f < E s.L j + words) ∧ (∀ x, s.L[i]? = some x → E s.L i + words ≤ x.f) ∧ (i = s.L.length → E s.L i + words ≤ s.cap)) ∨
    (s' = placed s (comp 0 s.L) s.L.length words s.L.length (s.moves + 1) ∧ (∀ j x, s.L[j]? = some x → x.f < E s.L j + words) ∧ s.cap < E s.L s.L.length + words) := by
  rcases h with ⟨k, i, h, rfl⟩ | ⟨k, h, rfl⟩
  · refine ⟨i, k, .inl ⟨rfl, h.le3, fun j x hj hx => ?_, fun x hx => ?_, fun hi => ?_⟩⟩
    · rcases Nat.lt_or_ge j k with h1 | h1
      · have := (Good.pack hg h).tight j x h1 hx
        simp only at this; omega
      · have := h.small j x h1 hj hx; omega
    · have := (h.here x hx).2; omega
    · have := (h.last hi).1 rfl; omega
  · refine ⟨0, 0, .inr ⟨rfl, fun j x hx => ?_, ?_⟩⟩
    · have hjl := (List.getElem?_eq_some_iff.1 hx).1
      rcases Nat.lt_or_ge j k with h1 | h1
      · have := (Good.pack hg h).tight j x h1 hx
        simp only at this; omega
      · have := h.small j x h1 hjl hx; omega
    · have := h.last rfl
      simp only [Bool.false_eq_true, false_iff] at this
      omega
end Go.Proofs.Ythllilkafdgheaa
