/- The walk of athanorlaw19.in. -/
import Derived.Test.YthbdhcbdhcgkfaaWj
namespace Go.Proofs.Ythbdhcbdhcgkfaa
open Go.RowKit

set_option maxHeartbeats 400000 in
theorem in_yes (l s : Int) (w : World) (h : insB l s = true) :
    Calls Try.prog 11 #[.int .i64 l, .int .i64 s] w fun e w' => e = .returned (.bool true) ∧ w = w' := by
  obtain ⟨h1, h2, h3, h4⟩ := insB_t h
  clear h
  go_enter Try.func11, Try.ntmps11
  go_wp2
  go_ret
  exact ⟨rfl, rfl⟩

set_option maxHeartbeats 400000 in
theorem in_no (l s : Int) (w : World) (h : insB l s = false) :
    Calls Try.prog 11 #[.int .i64 l, .int .i64 s] w fun e w' => e = .returned (.bool false) ∧ w = w' := by
  have h0 := insB_f h
  clear h
  by_cases h1 : 1 ≤ l
  · by_cases h2 : l ≤ 512
    · by_cases h3 : 0 ≤ s
      · have h4 : ¬ s ≤ 512 := by omega
        clear h0
        go_enter Try.func11, Try.ntmps11
        go_wp2
        go_ret
        exact ⟨rfl, rfl⟩
      · clear h0
        go_enter Try.func11, Try.ntmps11
        go_wp2
        go_ret
        exact ⟨rfl, rfl⟩
    · clear h0
      go_enter Try.func11, Try.ntmps11
      go_wp2
      go_ret
      exact ⟨rfl, rfl⟩
  · clear h0
    go_enter Try.func11, Try.ntmps11
    go_wp2
    go_ret
    exact ⟨rfl, rfl⟩

end Go.Proofs.Ythbdhcbdhcgkfaa
