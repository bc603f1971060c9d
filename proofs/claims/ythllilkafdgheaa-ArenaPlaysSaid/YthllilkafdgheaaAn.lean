/- The walk of New. No condition. -/
import Derived.Test.YthllilkafdgheaaAm
namespace Go.Proofs.Ythllilkafdgheaa
open Go.RowKit
set_option linter.unusedVariables false
set_option linter.unusedSimpArgs false

theorem New_range (cap : Int) (w : World) (h : cap < 0 ∨ 16777216 < cap) : Calls Try.prog 10 #[.int .i64 cap] w fun e w' => e = .returned (.tuple #[.pointer none, .int .i64 11]) ∧ w = w' := by
  rcases h with h | h
  · go_enter Try.func10, Try.ntmps10
    go_wp2_with fail
    go_ret2
    exact ⟨rfl, rfl⟩
  · have h2 : ¬ cap < 0 := by omega
    go_enter Try.func10, Try.ntmps10
    go_wp2_with fail
    go_ret2
    exact ⟨rfl, rfl⟩

/-- An arena without blocks. -/
def st0 (cap : Nat) : St := ⟨cap, [], 0, 0, 0, 0, 0, 0⟩
theorem good0 {cap : Nat} (h : cap ≤ 16777216) : Good (st0 cap) := by
  refine ⟨List.Pairwise.nil, fun b hb => (by cases hb), List.Pairwise.nil, Nat.zero_le _, h, Nat.le_refl _, Nat.zero_le _, Nat.le_refl _, rfl, ⟨Nat.le_refl _, Nat.zero_le _⟩, fun j x hj hx => (by simp [st0] at hx), Nat.le_refl _⟩

theorem New_ok (cap : Nat) (w : World) (h : cap ≤ 16777216) : Calls Try.prog 10 #[.int .i64 cap] w fun e w' => ∃ p S, e = .returned (.tuple #[.pointer (some ⟨p, 0, none⟩), .int .i64 0]) ∧ Ar p S (st0 cap) w' ∧ Fr [] w S ∧ Oth [] w w' := by
  have t1 : ¬ (cap : Int) < 0 := by omega
  have t2 : ¬ (16777216 : Int) < (cap : Int) := by omega
  have hmk : (Instr.makeMap 60 none).run Try.prog w = .ok (.map (some w.heap.size)) (w.alloc (.map #[] 0)) := run_makeMap 60 w
  go_enter Try.func10, Try.ntmps10
  go_wp2_with fail
  go_ret2
  have ho1 : Oth [] w (w.alloc (.map #[] 0)) := (Oth.refl _ _).alloc _
  have hm0 : (w.alloc (.map #[] 0)).heap[w.heap.size]? = some (.map #[] 0) := heap_alloc_new _ _
  have ho2 := ho1.alloc (.cells (arCells (st0 cap) (.slice none 0 0) (.slice none 0 0) w.heap.size) 63)
  have hp0 : ((w.alloc (.map #[] 0)).alloc (.cells (arCells (st0 cap) (.slice none 0 0) (.slice none 0 0) w.heap.size) 63)).heap[(w.alloc (.map #[] 0)).heap.size]? = some (.cells (arCells (st0 cap) (.slice none 0 0) (.slice none 0 0) w.heap.size) 63 (0, 0)) := heap_alloc_new _ _
  have hsz : (w.alloc (.map #[] 0)).heap.size = w.heap.size + 1 := by simp
  rw [hsz] at hp0
  have hmm := ((Oth.refl [] (w.alloc (.map #[] 0))).alloc (.cells (arCells (st0 cap) (.slice none 0 0) (.slice none 0 0) w.heap.size) 63)).heap hm0 (by simp)
  refine ⟨w.heap.size + 1, rfl, own4 (w.heap.size + 1) (.slice none 0 0) (.slice none 0 0) w.heap.size, ⟨_, _, _, [], rfl, hp0, ⟨rfl, .inl ⟨rfl, rfl⟩⟩, ⟨rfl, .inl ⟨rfl, rfl⟩⟩, ⟨.map [], ⟨#[], 0, hmm, ?_, Nat.le_refl _, rfl⟩, MD.nil⟩, by simp [Value.ownBlock], fun b hb => (by cases hb)⟩, ?_, ho2⟩
  · constructor <;> first | exact List.Pairwise.nil | (simp [maxLen]; done) | (intros; simp_all; done) | (simp [MapKept.Stamped]; done)
  · intro k hk
    right
    simp [own4, Value.ownBlock] at hk
    omega
end Go.Proofs.Ythllilkafdgheaa
