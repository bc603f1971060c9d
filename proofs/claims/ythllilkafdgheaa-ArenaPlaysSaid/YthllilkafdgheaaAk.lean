/- The invariant behind Give. No condition. -/
import Derived.Test.YthllilkafdgheaaAi
namespace Go.Proofs.Ythllilkafdgheaa
open Go.RowKit
set_option linter.unusedVariables false
set_option linter.unusedSimpArgs false

theorem pairwise_ins {α : Type} {R : α → α → Prop} {M : List α} {j : Nat} {b : α} (h : M.Pairwise R) (h1 : ∀ i x, i < j → M[i]? = some x → R x b) (h2 : ∀ i x, j ≤ i → M[i]? = some x → R b x) : (M.take j ++ b :: M.drop j).Pairwise R := by
  have h0 := h
  rw [← List.take_append_drop j M, List.pairwise_append] at h0
  obtain ⟨h3, h4, h5⟩ := h0
  refine List.pairwise_append.2 ⟨h3, List.pairwise_cons.2 ⟨fun x hx => ?_, h4⟩, fun x hx y hy => ?_⟩
  · obtain ⟨i, hi⟩ := List.mem_iff_getElem?.1 hx
    rw [List.getElem?_drop] at hi
    exact h2 _ x (by omega) hi
  · rcases List.mem_cons.1 hy with rfl | hy
    · obtain ⟨i, hi⟩ := List.mem_iff_getElem?.1 hx
      rw [List.getElem?_take] at hi
      split at hi
      · exact h1 i x (by assumption) hi
      · cases hi
    · exact h5 x hx y hy
theorem ins_get_lt {α : Type} {M : List α} {j i : Nat} {b : α} (hj : j ≤ M.length) (h : i < j) : (M.take j ++ b :: M.drop j)[i]? = M[i]? := by
  rw [List.getElem?_append_left (by simp; omega), List.getElem?_take, if_pos h]
theorem E_ins {M : List Blk} {j i : Nat} {b : Blk} (hj : j ≤ M.length) (h : i ≤ j) : E (M.take j ++ b :: M.drop j) i = E M i := by
  cases i with
  | zero => rfl
  | succ m => simp only [E]; rw [ins_get_lt hj (by omega)]
theorem sumN_ins {M : List Blk} {j : Nat} {b : Blk} : sumN (M.take j ++ b :: M.drop j) = sumN M + b.n := by
  have : sumN M = sumN (M.take j) + sumN (M.drop j) := by rw [← sumN_append, List.take_append_drop]
  rw [sumN_append, sumN_cons, this]; omega

theorem placed_good {s : St} {M : List Blk} {j words pk mv : Nat} (hg : Good s) (hf : Fit s words M j pk mv) (hd : ∀ b, b ∈ M → b.d.length = b.n ∧ 1 ≤ b.h) (hnd : M.Pairwise (fun a b => a.h ≠ b.h)) (hsum : sumN M = s.live) (hw : 1 ≤ words) (hcap : s.live + words ≤ s.cap) (hnx : s.next < 1000) (ht : ∀ i x, i < pk → M[i]? = some x → x.f = E M i) (hpj : pk ≤ j) (hmv : mv ≤ s.next + 1) : Good (placed s M j words pk mv) := by
  have hj := hf.le
  refine ⟨?_, ?_, ?_, ?_, hg.cap, ?_, ?_, ?_, ?_, ?_, ?_, hmv⟩
  · exact pairwise_ins hf.srt (fun i x hi hx => hf.before i x hi hx) (fun i x hi hx => hf.after i x hi hx)
  · intro b hb
    simp only [placed] at hb ⊢
    rw [List.mem_append, List.mem_cons] at hb
    have key : ∀ b, b ∈ M → 1 ≤ b.n ∧ b.f + b.n ≤ max s.high (E M j + words) ∧ b.d.length = b.n ∧ 1 ≤ b.h ∧ b.h ≤ s.next + 1 := fun b hb => by
      have h1 := hf.blk b hb
      have h2 := hd b hb
      exact ⟨h1.1, by omega, h2.1, h2.2, by omega⟩
    rcases hb with hb | rfl | hb
    · exact key b (List.mem_of_mem_take hb)
    · refine ⟨hw, Nat.le_max_right _ _, by simp, ?_, ?_⟩ <;> simp
    · exact key b (List.mem_of_mem_drop hb)
  · exact pairwise_ins hnd (fun i x hi hx => by have := (hf.blk x (List.mem_of_getElem? hx)).2.2; simp only; omega) (fun i x hi hx => by have := (hf.blk x (List.mem_of_getElem? hx)).2.2; simp only; omega)
  · have := hf.fit; have := hg.high; simp only [placed]; omega
  · have h1 := hf.len; have := hg.cntn
    simp only [placed, List.length_append, List.length_cons, List.length_take, List.length_drop]; omega
  · simp only [placed]; omega
  · simp only [placed, List.length_append, List.length_cons, List.length_take, List.length_drop]; omega
  · simp only [placed]; rw [sumN_ins, hsum]
  · have := hg.peak; simp only [placed]; omega
  · intro i x hi hx
    simp only [placed] at hi hx ⊢
    rw [ins_get_lt hj (by omega)] at hx
    rw [E_ins hj (by omega)]
    exact ht i x hi hx

theorem Given.good {s s' : St} {words : Nat} (hg : Good s) (h : Given s words s') (hw : 1 ≤ words) (hcap : s.live + words ≤ s.cap) (hnx : s.next < 1000) : Good s' := by
  rcases h with ⟨k, i, h, rfl⟩ | ⟨k, h, rfl⟩
  · refine placed_good hg (fit_gap hg h hcap) (fun b hb => ?_) hg.hnd hg.live.symm hw hcap hnx (Good.pack hg h).tight h.le2 (by have := hg.mv; omega)
    have := hg.blk b hb; exact ⟨this.2.2.1, this.2.2.2.1⟩
  · refine placed_good hg (fit_comp hg h hcap) (fun b hb => ?_) (hnd_of_map hg.hnd (comp_h _ _)) ?_ hw hcap hnx (fun i x hi hx => ?_) (Nat.le_refl _) (by have := hg.mv; omega)
    · obtain ⟨_, _, b', h1, h2, h3, h4⟩ := comp_mem _ _ _ hb
      have := hg.blk b' h1
      rw [← h4, ← h3, ← h2]; exact ⟨this.2.2.1, this.2.2.2.1⟩
    · rw [hg.live]
      have : ∀ (L : List Blk) t, sumN (comp t L) = sumN L := by
        intro L
        induction L with
        | nil => intro t; rfl
        | cons b r ih => intro t; simp only [comp, sumN_cons, ih]
      exact this _ _
    · have hil : i < s.L.length := hi
      obtain ⟨y, hy⟩ : ∃ y, s.L[i]? = some y := ⟨_, List.getElem?_eq_getElem hil⟩
      rw [comp_get _ _ _ hy] at hx
      cases hx
      simp only
      cases i with
      | zero => simp [E, sumN]
      | succ m =>
        obtain ⟨z, hz⟩ : ∃ z, s.L[m]? = some z := ⟨_, List.getElem?_eq_getElem (by omega)⟩
        simp only [E]
        rw [comp_get _ _ _ hz]
        simp only
        rw [sumN_take_succ hz]; omega
end Go.Proofs.Ythllilkafdgheaa
