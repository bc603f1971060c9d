/- The walk of the law TablePlays: it returns true. Condition: the argument reads as a list of calls. -/
import Derived.Test.YtbjfojdhdjehpaaTv
import Derived.Test.YtbjfojdhdjehpaaTw
namespace Go.Proofs.Ytbjfojdhdjehpaa
open Go.RowKit
set_option linter.unusedVariables false
set_option linter.unusedSimpArgs false

set_option maxHeartbeats 4000000 in
set_option maxRecDepth 100000 in
theorem tablePlays_walk (base : Option Addr) (n cap : Nat) (l : List OpV) (w : World) (hR : ReadsO base n l w) :
    Calls Try.prog 5 #[.slice base n cap] w fun e w' => e = .returned (.bool true) ∧ Oth [] w w' := by
  have HR := Lib.hid hR
  have hn : n = l.length := hR.1
  have HN := Lib.hid hn
  clear hR hn
  go_enter Try.func5, Try.ntmps5
  go_wp2_with fail
  refine (small_any base n cap l w HR.out).mono ?_
  rintro e w1 ⟨⟨b, rfl, hb⟩, ho1⟩
  cases b with
  | false =>
    clear hb
    go_wp2_with fail
    refine (awake_any _).mono ?_
    rintro e w4 ⟨rfl, ho4⟩
    go_wp2
    go_ret
    exact ⟨rfl, ho1.trans ho4 (Fr.nil _ _)⟩
  | true =>
    have hn100 : n ≤ 100 := hb rfl
    clear hb
    go_wp2_with fail
    refine (awake_any _).mono ?_
    rintro e w2 ⟨rfl, ho2⟩
    have HH := Lib.hid (Hold.made w2)
    have ho3 := ho1.trans ho2 (Fr.nil _ _)
    clear ho1 ho2
    go_wp2_with fail
    go_loopw [4, 20] (fun v q wr => ∃ i : Nat, i ≤ n ∧ q = .int .i64 i ∧ Hid (∃ L x, Hold w2 w2.heap.size L v x [] wr ∧ Like x L ∧ L.length ≤ i)) (fun _ q _ => (n - intOf q).toNat)
    case atStart => exact ⟨0, by omega, rfl, [], [], HH.out, Like.nil, by simp⟩
    case round =>
      obtain ⟨i, hin, rfl, hh⟩ := hrel
      by_cases hlt : i < n
      · have t1 : (i : Int) < (n : Int) := by omega
        obtain ⟨L, x, hold, hlk, hll⟩ := hh.out
        have how := ho3.trans hold.out (Fr.nil _ _)
        have hR := HR.out.oth how
        obtain ⟨hn, hmx, hc⟩ := hR
        obtain ⟨⟨a, k, s⟩, hav⟩ : ∃ p, l[i]? = some p := ⟨_, List.getElem?_eq_getElem (by omega)⟩
        obtain ⟨g, off, rfl, c1, c2, c3⟩ := hc i a k s hav
        have hgl : g < wr.heap.size := World.block_lt_of_cell? wr _ c1
        have HO := Lib.hid (hold.still ((Oth.refl [] wr).alloc (.cells #[.int .i64 a, .int .i64 k, .string s] 38 (0, 0))))
        have HLK := Lib.hid hlk
        have HL1 : Hid (L.length < 255) := by show _ < _; omega
        have HLL := Lib.hid hll
        clear hn hmx hc hav hh hold hlk how hll
        go_wp2_with fail
        refine (step_any _ _ _ L x a k s [] _ HO.out HLK.out HL1.out).mono ?_
        rintro e w5 ⟨v', L', x', rfl, hold5, hlk5, hll5⟩
        have HO5 := Lib.hid hold5
        have HL5 := Lib.hid hlk5
        have HLL5 : Hid (L'.length ≤ i + 1) := by show _ ≤ _; have := HLL.out; omega
        clear hold5 hlk5 hll5 HO HLK c1 c2 c3
        go_wp2_with fail
        refine (same_any _ _ _ L' x' _ HO5.out HL5.out (by have := HLL5.out; omega)).mono ?_
        rintro e w6 ⟨rfl, ho6⟩
        have HH3 : Hid (∃ L x, Hold w2 w2.heap.size L v' x [] w6 ∧ Like x L ∧ L.length ≤ i + 1) := ⟨_, _, HO5.out.still ho6, HL5.out, HLL5.out⟩
        clear HO5 ho6
        go_wp2_with fail
        go_roundw
        case rel => exact ⟨i + 1, by omega, by go_num, HH3⟩
        case measure => simp [intOf]; omega
      · obtain rfl : i = n := by omega
        have t1 : ¬ (i : Int) < (i : Int) := by omega
        obtain ⟨L, x, hold, hlk, hll⟩ := hh.out
        have how := ho3.trans hold.out (Fr.nil _ _)
        clear hh hold hlk hll
        go_wp2_with fail
        refine (awake_any _).mono ?_
        rintro e w5 ⟨rfl, ho5⟩
        go_wp2
        go_ret
        exact ⟨rfl, how.trans ho5 (Fr.nil _ _)⟩
end Go.Proofs.Ytbjfojdhdjehpaa
