/- The walk of athanorref25.Whole in the twin. -/
import Derived.Test.YtminoelijdpmeaaOa
namespace Go.Proofs.Ytminoelijdpmeaa
open Go.RowKit
set_option linter.unusedVariables false

/-- Every number below the length stands there just once. -/
def wholeB (L : List Int) : Bool := (List.range L.length).all fun i => L.count (i : Int) == 1
/-- .. up to k. -/
def wholeTo (L : List Int) (k : Nat) : Prop := ∀ i, i < k → L.count (i : Int) = 1
theorem wholeB_t {L : List Int} : wholeB L = true ↔ wholeTo L L.length := by
  unfold wholeB wholeTo
  simp

theorem count_take_succ (L : List Int) (i : Nat) (x y : Int) (h : L[i]? = some y) : (L.take (i + 1)).count x = (L.take i).count x + if y = x then 1 else 0 := by
  obtain ⟨hlt, hy⟩ := List.getElem?_eq_some_iff.1 h
  rw [List.take_succ_eq_append_getElem hlt, List.count_append, hy]
  simp [List.count_cons, beq_iff_eq]

set_option maxHeartbeats 800000 in
theorem whole_any (v : Value) (L : List Int) (w : World) (hn : L.length ≤ 100000) (hA : Reads .i64 v L w) :
    Calls Tw 12 #[v] w fun e w' => e = .returned (.bool (wholeB L)) ∧ w = w' := by
  rcases hA with ⟨rfl, b1, c1, rfl⟩ | ⟨g, off, cap, rfl, h0, hcap, hg, hc⟩
  · go_enter Tw.func12, Try.ntmps12
    go_wp2
    go_loop [3] (fun x => x = .int .i64 0) (fun _ => 0)
    case atStart => rfl
    case round =>
      subst hrel
      go_wp2
      go_ret
      exact ⟨rfl, rfl⟩
  · obtain ⟨n, hN⟩ : ∃ n, n = L.length := ⟨_, rfl⟩
    rw [← hN] at hn h0 ⊢
    have HN := Lib.hid hN
    have HC := Lib.hid hc
    clear hN hc hcap
    go_enter Tw.func12, Try.ntmps12
    go_wp2
    go_loop [3] (fun x => ∃ k : Nat, k ≤ n ∧ x = .int .i64 k ∧ Hid (wholeTo L k)) (fun x => n - (intOf x).toNat)
    case atStart => exact ⟨0, by omega, rfl, fun i hi => absurd hi (by omega)⟩
    case round =>
      obtain ⟨k, hk, rfl, hW⟩ := hrel
      by_cases hlt : k < n
      · have t1 : (k : Int) < (n : Int) := by omega
        go_wp2
        go_loop [4, 5] (fun m x => ∃ i : Nat, i ≤ n ∧ x = .int .i64 i ∧ m = .int .i64 ((L.take i).count (k : Int) : Nat)) (fun _ x => n - (intOf x).toNat)
        case atStart => exact ⟨0, by omega, rfl, by simp⟩
        case round =>
          obtain ⟨i, hi, rfl, rfl⟩ := hrel
          have hcnt : (L.take i).count (k : Int) ≤ i := Nat.le_trans List.count_le_length (List.length_take_le _ _)
          by_cases hil : i < n
          · have t2 : (i : Int) < (n : Int) := by omega
            have hlt' : i < L.length := by have := HN.out; omega
            obtain ⟨y, hy⟩ : ∃ y, L[i]? = some y := ⟨_, List.getElem?_eq_getElem hlt'⟩
            have q1 := HC.out i y hy
            have HS := Lib.hid (count_take_succ L i k y hy)
            clear hy
            by_cases hyk : y = (k : Int)
            · have e1 : (y == (k : Int)) = true := by simp [hyk]
              have HY := Lib.hid hyk
              clear hyk
              go_wp2
              go_round
              case rel => exact ⟨i + 1, by omega, by go_num, by rw [HS.out, if_pos HY.out]; go_num⟩
              case measure => simp [intOf]; omega
            · have e1 : (y == (k : Int)) = false := by simp [hyk]
              have HY := Lib.hid hyk
              clear hyk
              go_wp2
              go_round
              case rel => exact ⟨i + 1, by omega, by go_num, by rw [HS.out, if_neg HY.out]; go_num⟩
              case measure => simp [intOf]; omega
          · have t2 : ¬ (i : Int) < (n : Int) := by omega
            have hfull : L.take i = L := List.take_of_length_le (by have := HN.out; omega)
            rw [hfull] at hcnt
            have HF := Lib.hid hfull
            clear hfull
            by_cases hone : L.count (k : Int) = 1
            · have e1 : (((L.take i).count (k : Int) : Nat) : Int) = 1 := by rw [HF.out, hone]; rfl
              rw [e1]
              have HO := Lib.hid hone
              clear hone hcnt e1
              go_wp2
              go_round
              case rel =>
                refine ⟨k + 1, by omega, by go_num, fun j hj => ?_⟩
                by_cases e : j = k
                · subst e; exact HO.out
                · exact hW.out j (by omega)
              case measure => simp [intOf]; omega
            · have e1 : ((((L.take i).count (k : Int) : Nat) : Int) == 1) = false := by rw [HF.out]; simp; omega
              have e2 : ((((L.take i).count (k : Int) : Nat) : Int) != 1) = true := by rw [HF.out]; simp; omega
              have HO := Lib.hid hone
              clear hone
              go_wp2
              go_ret
              refine ⟨?_, rfl⟩
              have : wholeB L = false := by
                cases hb : wholeB L with
                | false => rfl
                | true => exact absurd (wholeB_t.1 hb k (by have := HN.out; omega)) HO.out
              rw [this]; rfl
      · have t1 : ¬ (k : Int) < (n : Int) := by omega
        go_wp2
        go_ret
        refine ⟨?_, rfl⟩
        have : wholeB L = true := wholeB_t.2 (fun j hj => hW.out j (by have := HN.out; omega))
        rw [this]; rfl
end Go.Proofs.Ytminoelijdpmeaa
