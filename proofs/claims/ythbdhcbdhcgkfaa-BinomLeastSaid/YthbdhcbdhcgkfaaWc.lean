/- The walks of binom.Choose and Reach. -/
import Derived.Test.YthbdhcbdhcgkfaaWb
import Derived.Test.YthbdhcbdhcgkfaaMath2
namespace Go.Proofs.Ythbdhcbdhcgkfaa
open Go.RowKit

theorem pa_step {m i : Nat} : ((BM.pa (m + i) i : Int) * ((m : Int) + ((i : Int) + 1))) / ((i : Int) + 1) = (BM.pa (m + (i + 1)) (i + 1) : Int) := by
  have h := BM.pa_next m i
  have e : (BM.pa (m + i) i : Int) * ((m : Int) + ((i : Int) + 1)) = (BM.pa (m + (i + 1)) (i + 1) : Int) * ((i : Int) + 1) := by
    have : ((BM.pa (m + (i + 1)) (i + 1) * (i + 1) : Nat) : Int) = ((BM.pa (m + i) i * (m + i + 1) : Nat) : Int) := by rw [h]
    rw [Int.natCast_mul, Int.natCast_mul] at this
    rw [show (m : Int) + ((i : Int) + 1) = ((m + i + 1 : Nat) : Int) by omega, ← this]
    rfl
  rw [e]
  exact Int.mul_ediv_cancel _ (by omega)

/-- What Choose answers, of right numbers: the coefficient, or that it is big. -/
def choV (m k : Nat) : Value := if BM.pa (m + k) k ≤ 1099511627776 then .tuple #[.int .i64 (BM.pa (m + k) k), .int .i64 0] else .tuple #[.int .i64 0, .int .i64 17]
theorem choV_small {m k : Nat} (h : BM.pa (m + k) k ≤ 1099511627776) : choV m k = .tuple #[.int .i64 (BM.pa (m + k) k), .int .i64 0] := if_pos h
theorem choV_big {m k : Nat} (h : ¬ BM.pa (m + k) k ≤ 1099511627776) : choV m k = .tuple #[.int .i64 0, .int .i64 17] := if_neg h

set_option maxHeartbeats 800000 in
theorem choose_low (m k : Nat) (w : World) (N K : Int) (hN : N = m + k) (hk : K = k) (hcase : K ≤ N - K) (hK0 : 0 ≤ K) (hK : K ≤ N) (hn : N ≤ 10000) :
    Calls Try.prog 16 #[.int .i64 N, .int .i64 K] w fun e w' => e = .returned (choV m k) ∧ w = w' := by
  have e1 : decide (N < 0) = false := by simp; omega
  have e2 : decide (10000 < N) = false := by simp; omega
  have e3 : decide (K < 0) = false := by simp; omega
  have e4 : decide (N < K) = false := by simp; omega
  have HN := Lib.hid hN
  have HK := Lib.hid hk
  clear hN hk
  go_enter Try.func16, Try.ntmps16
  go_wp2
  go_loop [6, 7] (fun c j => ∃ i : Nat, i ≤ k ∧ BM.pa (m + i) i ≤ 1099511627776 ∧ j = .int .i64 (i + 1) ∧ c = .int .i64 (BM.pa (m + i) i)) (fun _ j => 20000 - (intOf j).toNat)
  case atStart => exact ⟨0, by omega, by rw [BM.pa_zero]; omega, by go_num, by rw [BM.pa_zero]; rfl⟩
  case round =>
    obtain ⟨i, hi, hle, rfl, rfl⟩ := hrel
    by_cases hlt : i < k
    · have k1 : (i : Int) + 1 ≤ K := by have := HK.out; omega
      have k2 : 0 ≤ N - (K) ∧ N - (K) + ((i : Int) + 1) ≤ 10000 := by have := HK.out; have := HN.out; omega
      obtain ⟨k2, k3⟩ := k2
      have p1 : 0 ≤ (BM.pa (m + i) i : Int) * (N - (K) + ((i : Int) + 1)) := Int.mul_nonneg (by omega) (by omega)
      have p2 : (BM.pa (m + i) i : Int) * (N - (K) + ((i : Int) + 1)) ≤ 1099511627776 * 10000 := Int.mul_le_mul (by omega) (by omega) (by omega) (by omega)
      have hq : (BM.pa (m + i) i : Int) * (N - (K) + ((i : Int) + 1)) / ((i : Int) + 1) = (BM.pa (m + (i + 1)) (i + 1) : Int) := by
        rw [show N - (K) = (m : Int) by have := HK.out; have := HN.out; omega]; exact pa_step
      have HQ := Lib.hid hq
      clear hq
      have hm := BM.pa_diag_mono m (show i + 1 ≤ k by omega)
      by_cases hbig : BM.pa (m + (i + 1)) (i + 1) ≤ 1099511627776
      · have t1 : ¬ 1099511627776 < (BM.pa (m + i) i : Int) * (N - (K) + ((i : Int) + 1)) / ((i : Int) + 1) := by rw [HQ.out]; omega
        go_wp2
        go_round
        case rel => exact ⟨i + 1, by omega, hbig, by go_num, by rw [HQ.out]⟩
        case measure => simp [intOf]; omega
      · have t1 : 1099511627776 < (BM.pa (m + i) i : Int) * (N - (K) + ((i : Int) + 1)) / ((i : Int) + 1) := by rw [HQ.out]; omega
        go_wp2
        go_ret2
        exact ⟨by rw [choV_big (by omega)]; rfl, rfl⟩
    · obtain rfl : i = k := by omega
      have k1 : ¬ (i : Int) + 1 ≤ K := by have := HK.out; omega
      go_wp2
      go_ret2
      exact ⟨by rw [choV_small hle]; rfl, rfl⟩

set_option maxHeartbeats 800000 in
theorem choose_high (m k : Nat) (w : World) (N K : Int) (hN : N = m + k) (hk : N - K = k) (hcase : ¬ K ≤ N - K) (hK0 : 0 ≤ K) (hK : K ≤ N) (hn : N ≤ 10000) :
    Calls Try.prog 16 #[.int .i64 N, .int .i64 K] w fun e w' => e = .returned (choV m k) ∧ w = w' := by
  have e1 : decide (N < 0) = false := by simp; omega
  have e2 : decide (10000 < N) = false := by simp; omega
  have e3 : decide (K < 0) = false := by simp; omega
  have e4 : decide (N < K) = false := by simp; omega
  have HN := Lib.hid hN
  have HK := Lib.hid hk
  clear hN hk
  go_enter Try.func16, Try.ntmps16
  go_wp2
  go_loop [6, 7] (fun c j => ∃ i : Nat, i ≤ k ∧ BM.pa (m + i) i ≤ 1099511627776 ∧ j = .int .i64 (i + 1) ∧ c = .int .i64 (BM.pa (m + i) i)) (fun _ j => 20000 - (intOf j).toNat)
  case atStart => exact ⟨0, by omega, by rw [BM.pa_zero]; omega, by go_num, by rw [BM.pa_zero]; rfl⟩
  case round =>
    obtain ⟨i, hi, hle, rfl, rfl⟩ := hrel
    by_cases hlt : i < k
    · have k1 : (i : Int) + 1 ≤ N - K := by have := HK.out; omega
      have k2 : 0 ≤ N - (N - K) ∧ N - (N - K) + ((i : Int) + 1) ≤ 10000 := by have := HK.out; have := HN.out; omega
      obtain ⟨k2, k3⟩ := k2
      have p1 : 0 ≤ (BM.pa (m + i) i : Int) * (N - (N - K) + ((i : Int) + 1)) := Int.mul_nonneg (by omega) (by omega)
      have p2 : (BM.pa (m + i) i : Int) * (N - (N - K) + ((i : Int) + 1)) ≤ 1099511627776 * 10000 := Int.mul_le_mul (by omega) (by omega) (by omega) (by omega)
      have hq : (BM.pa (m + i) i : Int) * (N - (N - K) + ((i : Int) + 1)) / ((i : Int) + 1) = (BM.pa (m + (i + 1)) (i + 1) : Int) := by
        rw [show N - (N - K) = (m : Int) by have := HK.out; have := HN.out; omega]; exact pa_step
      have HQ := Lib.hid hq
      clear hq
      have hm := BM.pa_diag_mono m (show i + 1 ≤ k by omega)
      by_cases hbig : BM.pa (m + (i + 1)) (i + 1) ≤ 1099511627776
      · have t1 : ¬ 1099511627776 < (BM.pa (m + i) i : Int) * (N - (N - K) + ((i : Int) + 1)) / ((i : Int) + 1) := by rw [HQ.out]; omega
        go_wp2
        go_round
        case rel => exact ⟨i + 1, by omega, hbig, by go_num, by rw [HQ.out]⟩
        case measure => simp [intOf]; omega
      · have t1 : 1099511627776 < (BM.pa (m + i) i : Int) * (N - (N - K) + ((i : Int) + 1)) / ((i : Int) + 1) := by rw [HQ.out]; omega
        go_wp2
        go_ret2
        exact ⟨by rw [choV_big (by omega)]; rfl, rfl⟩
    · obtain rfl : i = k := by omega
      have k1 : ¬ (i : Int) + 1 ≤ N - K := by have := HK.out; omega
      go_wp2
      go_ret2
      exact ⟨by rw [choV_small hle]; rfl, rfl⟩

/-- What Choose answers, of right numbers. -/
def choW (n k : Nat) : Value := if BM.pa n k ≤ 1099511627776 then .tuple #[.int .i64 (BM.pa n k), .int .i64 0] else .tuple #[.int .i64 0, .int .i64 17]

theorem choose_yes (n k : Nat) (N K : Int) (w : World) (hN : N = n) (hK : K = k) (h : k ≤ n) (hn : n ≤ 10000) :
    Calls Try.prog 16 #[.int .i64 N, .int .i64 K] w fun e w' => e = .returned (choW n k) ∧ w = w' := by
  obtain ⟨m, rfl⟩ : ∃ m, n = m + k := ⟨n - k, by omega⟩
  by_cases c : K ≤ N - K
  · exact choose_low m k w N K (by omega) hK c (by omega) (by omega) (by omega)
  · have := choose_high k m w N K (by omega) (by omega) c (by omega) (by omega) (by omega)
    have e : choV k m = choW (m + k) k := by
      unfold choV choW
      rw [Nat.add_comm k m, BM.pa_sym m k]
    rw [e] at this
    exact this

set_option maxHeartbeats 400000 in
theorem choose_no (N K : Int) (w : World) (h : ¬ (0 ≤ N ∧ N ≤ 10000 ∧ 0 ≤ K ∧ K ≤ N)) :
    Calls Try.prog 16 #[.int .i64 N, .int .i64 K] w fun e w' => e = .returned (.tuple #[.int .i64 0, .int .i64 11]) ∧ w = w' := by
  by_cases h1 : N < 0
  · clear h
    go_enter Try.func16, Try.ntmps16
    go_wp2
    go_ret2
    exact ⟨rfl, rfl⟩
  · by_cases h2 : 10000 < N
    · clear h
      go_enter Try.func16, Try.ntmps16
      go_wp2
      go_ret2
      exact ⟨rfl, rfl⟩
    · by_cases h3 : K < 0
      · clear h
        go_enter Try.func16, Try.ntmps16
        go_wp2
        go_ret2
        exact ⟨rfl, rfl⟩
      · have h4 : N < K := by omega
        clear h
        go_enter Try.func16, Try.ntmps16
        go_wp2
        go_ret2
        exact ⟨rfl, rfl⟩

set_option maxHeartbeats 400000 in
theorem reach_yes (s r : Nat) (S R : Int) (w : World) (hS : S = s) (hR : R = r) (h1 : s ≤ 5000) (h2 : r ≤ 4999) :
    Calls Try.prog 18 #[.int .i64 S, .int .i64 R] w fun e w' => e = .returned (choW (s + r + 1) (s + 1)) ∧ w = w' := by
  have b1 : 0 ≤ S := by omega
  have b2 : S ≤ 5000 := by omega
  have b3 : 0 ≤ R := by omega
  have b4 : R ≤ 4999 := by omega
  have HS := Lib.hid hS
  have HR := Lib.hid hR
  clear hS hR
  have hsplit : (∃ x y : Int, choW (s + r + 1) (s + 1) = .tuple #[.int .i64 x, .int .i64 y]) := by
    unfold choW; split <;> exact ⟨_, _, rfl⟩
  obtain ⟨x, y, hxy⟩ := hsplit
  have HX := Lib.hid hxy
  clear hxy
  go_enter Try.func18, Try.ntmps18
  go_wp2_with (go_at_call 16; refine (choose_yes (s + r + 1) (s + 1) _ _ _ (by have := HS.out; have := HR.out; omega) (by have := HS.out; omega) (by omega) (by omega)).mono ?_; rw [HX.out]; rintro e w' ⟨rfl, rfl⟩)
  go_ret2
  exact ⟨by rw [HX.out]; rfl, rfl⟩

set_option maxHeartbeats 400000 in
theorem reach_edge (S R : Int) (w : World) (hS : S = 5000) (hR : R = 5000) :
    Calls Try.prog 18 #[.int .i64 S, .int .i64 R] w fun e w' => e = .returned (.tuple #[.int .i64 0, .int .i64 11]) ∧ w = w' := by
  subst hS hR
  go_enter Try.func18, Try.ntmps18
  go_wp2_with (go_at_call 16; refine (choose_no _ _ _ (by omega)).mono ?_; rintro e w' ⟨rfl, rfl⟩)
  go_ret2
  exact ⟨rfl, rfl⟩

set_option maxHeartbeats 400000 in
theorem reach_no (S R : Int) (w : World) (h : ¬ (0 ≤ S ∧ S ≤ 5000 ∧ 0 ≤ R ∧ R ≤ 5000)) :
    Calls Try.prog 18 #[.int .i64 S, .int .i64 R] w fun e w' => e = .returned (.tuple #[.int .i64 0, .int .i64 11]) ∧ w = w' := by
  by_cases h1 : S < 0
  · clear h
    go_enter Try.func18, Try.ntmps18
    go_wp2
    go_ret2
    exact ⟨rfl, rfl⟩
  · by_cases h2 : 5000 < S
    · clear h
      go_enter Try.func18, Try.ntmps18
      go_wp2
      go_ret2
      exact ⟨rfl, rfl⟩
    · by_cases h3 : R < 0
      · clear h
        go_enter Try.func18, Try.ntmps18
        go_wp2
        go_ret2
        exact ⟨rfl, rfl⟩
      · have h4 : 5000 < R := by omega
        clear h
        go_enter Try.func18, Try.ntmps18
        go_wp2
        go_ret2
        exact ⟨rfl, rfl⟩

end Go.Proofs.Ythbdhcbdhcgkfaa
