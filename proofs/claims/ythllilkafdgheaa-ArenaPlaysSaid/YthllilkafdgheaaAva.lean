/- The states that awake goes through. No condition. -/
import Derived.Test.YthllilkafdgheaaAsa
import Derived.Test.YthllilkafdgheaaAn
namespace Go.Proofs.Ythllilkafdgheaa
open Go.RowKit
set_option linter.unusedVariables false
set_option linter.unusedSimpArgs false

/-- Give without compaction: what is as it was, whatever packed is. -/
theorem awk1 {s' : St} (h : Given (st0 4) 1 s') : ∃ pk, s' = ⟨4, [⟨1, 0, 1, [0]⟩], pk, 1, 1, 1, 1, 0⟩ := by
  obtain ⟨i, pk, ⟨rfl, h1, h2, h3, h4⟩ | ⟨rfl, h2, h3⟩⟩ := h.where (good0 (by omega)) (by omega)
  · obtain rfl : i = 0 := by simpa [st0] using h1
    exact ⟨pk, rfl⟩
  · simp [st0, E] at h3
theorem awk2 {pk : Nat} {s' : St} (hg : Good ⟨4, [⟨1, 0, 1, [0]⟩], pk, 1, 1, 1, 1, 0⟩) (h : Given ⟨4, [⟨1, 0, 1, [0]⟩], pk, 1, 1, 1, 1, 0⟩ 2 s') : ∃ pk, s' = ⟨4, [⟨1, 0, 1, [0]⟩, ⟨2, 1, 2, [0, 0]⟩], pk, 2, 3, 3, 3, 0⟩ := by
  obtain ⟨i, pk, ⟨rfl, h1, h2, h3, h4⟩ | ⟨rfl, h2, h3⟩⟩ := h.where hg (by omega)
  · rcases i with _ | _ | i
    · have := h3 _ rfl; simp [E] at this
    · exact ⟨pk, rfl⟩
    · simp at h1
  · simp [E] at h3
theorem awk3 {pk : Nat} {s' : St} (hg : Good ⟨4, [⟨1, 0, 1, [0]⟩, ⟨2, 1, 2, [0, 0]⟩], pk, 2, 3, 3, 3, 0⟩) (h : Given ⟨4, [⟨1, 0, 1, [0]⟩, ⟨2, 1, 2, [0, 0]⟩], pk, 2, 3, 3, 3, 0⟩ 1 s') : ∃ pk, s' = ⟨4, [⟨1, 0, 1, [0]⟩, ⟨2, 1, 2, [0, 0]⟩, ⟨3, 3, 1, [0]⟩], pk, 3, 4, 4, 4, 0⟩ := by
  obtain ⟨i, pk, ⟨rfl, h1, h2, h3, h4⟩ | ⟨rfl, h2, h3⟩⟩ := h.where hg (by omega)
  · rcases i with _ | _ | _ | i
    · have := h3 _ rfl; simp [E] at this
    · have := h3 _ rfl; simp [E] at this
    · exact ⟨pk, rfl⟩
    · simp at h1
  · simp [E] at h3
theorem awk4 {pk : Nat} {s' : St} (hg : Good ⟨4, [⟨2, 1, 2, [7, 8]⟩], pk, 3, 2, 4, 4, 0⟩) (h : Given ⟨4, [⟨2, 1, 2, [7, 8]⟩], pk, 3, 2, 4, 4, 0⟩ 2 s') : ∃ pk, s' = ⟨4, [⟨2, 0, 2, [7, 8]⟩, ⟨4, 2, 2, [0, 0]⟩], pk, 4, 4, 4, 4, 1⟩ := by
  obtain ⟨i, pk, ⟨rfl, h1, h2, h3, h4⟩ | ⟨rfl, h2, h3⟩⟩ := h.where hg (by omega)
  · rcases i with _ | _ | i
    · have := h3 _ rfl; simp [E] at this
    · have := h4 rfl; simp [E] at this
    · simp at h1
  · exact ⟨1, rfl⟩
end Go.Proofs.Ythllilkafdgheaa
