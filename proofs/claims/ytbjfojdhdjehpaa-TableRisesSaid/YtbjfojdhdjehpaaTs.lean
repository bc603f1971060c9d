/- The walk of the law TableRises: it returns true. Condition: the argument reads as a list of calls. -/
import Derived.Test.YtbjfojdhdjehpaaTr
namespace Go.Proofs.Ytbjfojdhdjehpaa
open Go.RowKit
set_option linter.unusedVariables false
set_option linter.unusedSimpArgs false

set_option maxHeartbeats 4000000 in
set_option maxRecDepth 100000 in
theorem tableRises_walk (base : Option Addr) (n cap : Nat) (l : List OpV) (w : World) (hR : ReadsO base n l w) :
    Calls Try.prog 4 #[.slice base n cap] w fun e w' => e = .returned (.bool true) ∧ Oth [] w w' := by
  have HR := Lib.hid hR
  have hn : n = l.length := hR.1
  have HN := Lib.hid hn
  clear hR hn
  go_enter Try.func4, Try.ntmps4
  go_wp2_with fail
  refine (small_any base n cap l w HR.out).mono ?_
  rintro e w1 ⟨⟨b, rfl, hb⟩, ho1⟩
  cases b with
  | false =>
    clear hb
    go_wp2_with fail
    refine (awake_any _).mono ?_
    rintro e w4 ⟨rfl, ho4⟩
    go_wp2
    go_ret
    exact ⟨rfl, ho1.trans ho4 (Fr.nil _ _)⟩
  | true =>
    have hn100 : n ≤ 100 := hb rfl
    clear hb
    have HH := Lib.hid (Hold.made w1)
    go_wp2_with fail
    go_loopw [4, 23] (fun v q wr => ∃ i : Nat, i ≤ n ∧ q = .int .i64 i ∧ Hid (∃ L x, Hold w1 w1.heap.size L v x [] wr ∧ Like x L ∧ L.length ≤ i)) (fun _ q _ => (n - intOf q).toNat)
    case atStart => exact ⟨0, by omega, rfl, [], [], HH.out, Like.nil, by simp⟩
    case round =>
      obtain ⟨i, hin, rfl, hh⟩ := hrel
      by_cases hlt : i < n
      · have t1 : (i : Int) < (n : Int) := by omega
        obtain ⟨L, x, hold, hlk, hll⟩ := hh.out
        have how := ho1.trans hold.out (Fr.nil _ _)
        have hR := HR.out.oth how
        obtain ⟨hn, hmx, hc⟩ := hR
        obtain ⟨⟨a, k, s⟩, hav⟩ : ∃ p, l[i]? = some p := ⟨_, List.getElem?_eq_getElem (by omega)⟩
        obtain ⟨g, off, rfl, c1, c2, c3⟩ := hc i a k s hav
        have hgl : g < wr.heap.size := World.block_lt_of_cell? wr _ c1
        have HO := Lib.hid (hold.more (.cells #[.int .i64 a, .int .i64 k, .string s] 38 (0, 0)))
        have HLK := Lib.hid hlk
        have hlx := hlk.len
        have HL1 : Hid (L.length < 256) := by show _ < _; omega
        have HLL := Lib.hid hll
        have HX1 : Hid (x.length < 256) := by show _ < _; omega
        clear hn hmx hc hav hh hold hlk how hlx hll
        go_wp2_with fail
        refine (HO.out.Set k s HLK.out.1 HL1.out).mono ?_
        rintro e w2 ⟨rfl, hold2⟩
        have hob := hold2.at (g := wr.heap.size) (o := .cells #[.int .i64 a, .int .i64 k, .string s] 38 (0, 0)) (by simp)
        have d1 : w2.cell? ⟨wr.heap.size, 1, none⟩ = some (.int .i64 k) := by simp [World.cell?, hob]
        have d2 : w2.cell? ⟨wr.heap.size, 2, none⟩ = some (.string s) := by simp [World.cell?, hob]
        have HO2 := Lib.hid hold2
        clear hob hold2 HO c1 c2 c3
        go_wp2_with fail
        refine (HO2.out.setx k s HX1.out).mono ?_
        rintro e w3 ⟨v', rfl, hold3⟩
        have HH3 : Hid (∃ L x, Hold w1 w1.heap.size L v' x [] w3 ∧ Like x L ∧ L.length ≤ i + 1) :=
          ⟨_, _, hold3.less, HLK.out.put k s, by have := len_putK k s L; have := HLL.out; omega⟩
        clear hold3 HO2 d1 d2
        go_wp2_with fail
        go_roundw
        case rel => exact ⟨i + 1, by omega, by go_num, HH3⟩
        case measure => simp [intOf]; omega
      · obtain rfl : i = n := by omega
        have t1 : ¬ (i : Int) < (i : Int) := by omega
        obtain ⟨L, x, hold, hlk, hll⟩ := hh.out
        have hlx := hlk.len
        have HS := Lib.hid (hold.sorted hlk (by omega))
        obtain ⟨n2, hn2⟩ : ∃ n2, n2 = L.length := ⟨_, rfl⟩
        have HN2 := Lib.hid hn2
        have hn2b : n2 ≤ 100 := by omega
        clear hh hold hlk hlx hll hn2
        go_wp2_with fail
        refine HS.out.mono ?_
        rintro e w2 ⟨v', rfl, hold2, _, _⟩
        have HO2 := Lib.hid hold2
        have hsl : ∃ b cp, v' = .slice b n2 cp := by
          obtain ⟨B, ⟨b, cp, he, _⟩, _⟩ := hold2.rp
          exact ⟨b, cp, by rw [HN2.out]; exact he⟩
        obtain ⟨b, cp, rfl⟩ := hsl
        clear hold2 HS
        go_wp2_with fail
        go_loopw [43] (fun q wr => ∃ j : Nat, j ≤ n2 ∧ q = .int .i64 j ∧ Hid (Hold w1 w1.heap.size (L.drop j) (.slice b n2 cp) L [] wr)) (fun q _ => (n2 - intOf q).toNat)
        case atStart => exact ⟨0, by omega, rfl, by simpa [Hid] using HO2.out⟩
        case round =>
          obtain ⟨j, hj, rfl, hh⟩ := hrel
          by_cases hjt : j < n2
          · have t2 : (j : Int) < (n2 : Int) := by omega
            have hjl : j < L.length := by have := HN2.out; omega
            obtain ⟨⟨k, s⟩, hks⟩ : ∃ p, L[j]? = some p := ⟨_, List.getElem?_eq_getElem hjl⟩
            have hd : L.drop j = (k, s) :: L.drop (j + 1) := by
              rw [List.drop_eq_getElem_cons hjl]
              rw [List.getElem?_eq_getElem hjl] at hks
              injection hks with h; rw [h]
            have hhold := hh.out
            rw [hd] at hhold
            have hc : ∃ g, b = some ⟨g, 0, none⟩ ∧ g < wr.heap.size ∧ wr.cell? ⟨g, j * 2, none⟩ = some (.int .i64 k) ∧ wr.cell? ⟨g, j * 2 + 1, none⟩ = some (.string s) := by
              obtain ⟨B, ⟨b', cp', he, hc⟩, _⟩ := hhold.rp
              injection he with e1
              subst e1
              obtain ⟨g, hg, _, c1, c2⟩ := hc j k s hks
              exact ⟨g, hg, World.block_lt_of_cell? wr _ c1, c1, c2⟩
            obtain ⟨g, rfl, hgl, c1, c2⟩ := hc
            have HO3 := Lib.hid (hhold.more (.cells #[.int .i64 k, .string s] 43 (0, 0)))
            have HL3 : Hid ((L.drop (j + 1)).length < 256) := by show _ < _; have := HN2.out; simp; omega
            clear hd hhold hks hh
            go_wp2_with fail
            refine (HO3.out.Pop HL3.out).mono ?_
            rintro e w4 ⟨rfl, hold4⟩
            have hob := hold4.at (g := wr.heap.size) (o := .cells #[.int .i64 k, .string s] 43 (0, 0)) (by simp)
            have d1 : w4.cell? ⟨wr.heap.size, 0, none⟩ = some (.int .i64 k) := by simp [World.cell?, hob]
            have d2 : w4.cell? ⟨wr.heap.size, 1, none⟩ = some (.string s) := by simp [World.cell?, hob]
            have HO4 := Lib.hid hold4.less
            clear hob hold4 HO3 c1 c2
            go_wp2_with fail
            go_roundw
            case rel => exact ⟨j + 1, by omega, by go_num, HO4⟩
            case measure => simp [intOf]; omega
          · obtain rfl : j = n2 := by omega
            have t2 : ¬ (j : Int) < (j : Int) := by omega
            have hh' := hh.out
            rw [List.drop_eq_nil_of_le (by have := HN2.out; omega)] at hh'
            have HO3 := Lib.hid hh'
            clear hh hh'
            go_wp2_with fail
            refine HO3.out.Pop0.mono ?_
            rintro e w4 ⟨rfl, rfl⟩
            go_wp2_with fail
            refine HO3.out.Len.mono ?_
            rintro e w4 ⟨rfl, rfl⟩
            go_wp2_with fail
            refine (awake_any _).mono ?_
            rintro e w5 ⟨rfl, ho5⟩
            go_wp2
            go_ret
            exact ⟨rfl, (ho1.trans HO3.out.out (Fr.nil _ _)).trans ho5 (Fr.nil _ _)⟩
end Go.Proofs.Ytbjfojdhdjehpaa
