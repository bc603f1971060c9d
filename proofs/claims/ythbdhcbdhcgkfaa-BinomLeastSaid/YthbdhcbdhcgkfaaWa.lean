/- The walks of binom.inside, least, Least: each returns the plain number of YthbdhcbdhcgkfaaMath. Condition: none beyond the arguments' range. -/
import Derived.Test.YthbdhcbdhcgkfaaRows
import Derived.Test.YthbdhcbdhcgkfaaMath
import Derived.WalkKit
import Derived.WalkSpells
import Derived.WalkLawsBesides
import Derived.Lib.Hide
namespace Go.Proofs.Ythbdhcbdhcgkfaa
open Go.RowKit

/-- The arguments of the recurrence. -/
def insB (l s : Int) : Bool := decide (1 ≤ l ∧ l ≤ 512 ∧ 0 ≤ s ∧ s ≤ 512)

theorem insB_t {l s : Int} (h : insB l s = true) : 1 ≤ l ∧ l ≤ 512 ∧ 0 ≤ s ∧ s ≤ 512 := of_decide_eq_true h
theorem insB_f {l s : Int} (h : insB l s = false) : ¬ (1 ≤ l ∧ l ≤ 512 ∧ 0 ≤ s ∧ s ≤ 512) := of_decide_eq_false h

set_option maxHeartbeats 400000 in
theorem inside_yes (l s : Int) (w : World) (h : insB l s = true) :
    Calls Try.prog 22 #[.int .i64 l, .int .i64 s] w fun e w' => e = .returned (.bool true) ∧ w = w' := by
  obtain ⟨h1, h2, h3, h4⟩ := insB_t h
  clear h
  go_enter Try.func22, Try.ntmps22
  go_wp2
  go_ret
  exact ⟨rfl, rfl⟩

set_option maxHeartbeats 400000 in
theorem inside_no (l s : Int) (w : World) (h : insB l s = false) :
    Calls Try.prog 22 #[.int .i64 l, .int .i64 s] w fun e w' => e = .returned (.bool false) ∧ w = w' := by
  have h0 := insB_f h
  clear h
  by_cases h1 : 1 ≤ l
  · by_cases h2 : l ≤ 512
    · by_cases h3 : 0 ≤ s
      · have h4 : ¬ s ≤ 512 := by omega
        clear h0
        go_enter Try.func22, Try.ntmps22
        go_wp2
        go_ret
        exact ⟨rfl, rfl⟩
      · clear h0
        go_enter Try.func22, Try.ntmps22
        go_wp2
        go_ret
        exact ⟨rfl, rfl⟩
    · clear h0
      go_enter Try.func22, Try.ntmps22
      go_wp2
      go_ret
      exact ⟨rfl, rfl⟩
  · clear h0
    go_enter Try.func22, Try.ntmps22
    go_wp2
    go_ret
    exact ⟨rfl, rfl⟩

end Go.Proofs.Ythbdhcbdhcgkfaa
