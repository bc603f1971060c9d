/- The walk of athanorlaw19.awake: it returns true and writes nothing that was there. -/
import Derived.Test.YthbdhcbdhcgkfaaWi
namespace Go.Proofs.Ythbdhcbdhcgkfaa
open Go.RowKit

theorem actCells_get (l : List (Int × Int)) (i : Nat) (k a : Int) (h : l[i]? = some (k, a)) : (actCells l)[i * 2]? = some (.int .i64 k) ∧ (actCells l)[i * 2 + 1]? = some (.int .i64 a) := by
  induction l generalizing i with
  | nil => simp at h
  | cons x r ih =>
    obtain ⟨k', a'⟩ := x
    cases i with
    | zero => simp at h; obtain ⟨rfl, rfl⟩ := h; simp [actCells]
    | succ i =>
      have := ih i (by simpa using h)
      rw [show (i + 1) * 2 = i * 2 + 2 by omega]
      simpa [actCells] using this

theorem ActsAt.reads {B : Nat} {v : Value} {acts : List (Int × Int)} {w : World} (h : ActsAt B v acts w) : ReadsActs v acts w := by
  rcases h.2 with ⟨rfl, h0⟩ | ⟨g, cap, cur, rfl, hB, hg, hn, hc, hs, ht⟩
  · exact .inl ⟨List.eq_nil_of_length_eq_zero h0, none, 0, rfl⟩
  · refine .inr ⟨g, 0, cap, rfl, lt_of_block hg, fun i k a hi => ?_⟩
    obtain ⟨h1, h2⟩ := actCells_get acts i k a hi
    have hlt : i < acts.length := by
      rcases Nat.lt_or_ge i acts.length with h | h
      · exact h
      · rw [List.getElem?_eq_none h] at hi; cases hi
    have key : ∀ j, j < acts.length * 2 → w.cell? ⟨g, 0 + j, none⟩ = (actCells acts)[j]? := by
      intro j hj
      rw [← ht, List.getElem?_take, if_pos hj]
      simp [World.cell?, hg]
    refine ⟨by rw [key _ (by omega)]; exact h1, ?_⟩
    rw [show 0 + i * 2 + 1 = 0 + (i * 2 + 1) by omega, key _ (by omega)]; exact h2

theorem ReadsActs.below {v : Value} {acts : List (Int × Int)} {w w' : World} (h : ReadsActs v acts w) {B : Nat} (hB : w.heap.size ≤ B) (hb : Below B w w') : ReadsActs v acts w' := by
  rcases h with h | ⟨g, off, cap, rfl, hg, hc⟩
  · exact .inl h
  · refine .inr ⟨g, off, cap, rfl, Nat.lt_of_lt_of_le hg hb.size, fun i k a hi => ?_⟩
    obtain ⟨h1, h2⟩ := hc i k a hi
    exact ⟨by rw [hb.cell (show g < B by omega)]; exact h1, by rw [hb.cell (show g < B by omega)]; exact h2⟩

theorem v1 : BM.T 3 1 = 2 := by decide +kernel
theorem v2 : BM.T 3 0 = 3 := by decide +kernel
theorem v3 : choW 5 2 = .tuple #[.int .i64 10, .int .i64 0] := by
  have h : BM.pa 5 2 = 10 := by decide +kernel
  unfold choW; rw [h]; rfl
theorem v4 : walkR 3 1 (planL 3 1) = some 2 := by decide +kernel
theorem v5 : walkR 3 0 (planL 3 1) = none := by decide +kernel
theorem v6 : (planL 3 1).length ≤ 100 := by decide +kernel

set_option maxHeartbeats 800000 in
theorem awake_any (w : World) : Calls Try.prog 9 #[] w fun e w' => e = .returned (.bool true) ∧ Below w.heap.size w w' := by
  go_enter Try.func9, Try.ntmps9
  go_wp2_with fail
  refine (Least_yes 3 1 _ (by decide)).mono ?_
  rw [show BM.T (3 : Int).toNat (1 : Int).toNat = 2 from v1]
  rintro e w' ⟨rfl, rfl⟩
  go_wp2_with fail
  refine (Least_yes 3 0 _ (by decide)).mono ?_
  rw [show BM.T (3 : Int).toNat (0 : Int).toNat = 3 from v2]
  rintro e w' ⟨rfl, rfl⟩
  go_wp2_with fail
  refine (choose_yes 5 2 _ _ _ rfl rfl (by omega) (by omega)).mono ?_
  rw [v3]
  rintro e w' ⟨rfl, rfl⟩
  go_wp2_with fail
  refine (Plan_yes 3 1 _ _ _ rfl rfl (by omega) (by omega) (by omega)).mono ?_
  rintro e w1 ⟨v, rfl, hacts, hb1⟩
  have hr1 := hacts.reads
  go_wp2_with fail
  refine (Walk_yes 3 1 _ _ v _ _ rfl rfl (by omega) (by omega) (by omega) hr1 (by have := v6; omega)).mono ?_
  rw [v4]
  rintro e w2 ⟨rfl, hb2⟩
  have hr2 := hr1.below (Nat.le_refl _) hb2
  simp only [walkV]
  go_wp2_with fail
  refine (Walk_yes 3 0 _ _ v _ _ rfl rfl (by omega) (by omega) (by omega) hr2 (by have := v6; omega)).mono ?_
  rw [v5]
  rintro e w3 ⟨rfl, hb3⟩
  simp only [walkV]
  have hb := (hb1.trans (hb2.mono hb1.size)).trans (hb3.mono (Nat.le_trans hb1.size hb2.size))
  go_wp2_with fail
  go_ret
  exact ⟨rfl, hb⟩

end Go.Proofs.Ythbdhcbdhcgkfaa
