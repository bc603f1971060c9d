/- The walks of binom.least and Least. -/
import Derived.Test.YthbdhcbdhcgkfaaWa
import Derived.Deep.QuietTactic
import Derived.BigQuiet
namespace Go.Proofs.Ythbdhcbdhcgkfaa
open Go.RowKit

theorem ret_int {k : IntKind} {a b : Int} (h : a = b) : Ending.returned (.int k a) = .returned (.int k b) := by rw [h]

theorem be_small {s r l : Nat} (h : BM.be s r < l) (hl : l ≤ 512) (hs : s ≤ 512) : r ≤ 510 ∧ BM.be s r * (s + r + 2) ≤ 523264 := by
  have h1 := BM.be_ge s r
  refine ⟨by omega, ?_⟩
  have : BM.be s r * (s + r + 2) ≤ 511 * 1024 := Nat.mul_le_mul (by omega) (by omega)
  omega

theorem be_next {s r : Nat} : ((BM.be s r : Int) * ((s : Int) + ((r : Int) + 1) + 1)) / ((r : Int) + 1) = (BM.be s (r + 1) : Int) := by
  have h := BM.be_A s r
  have e : (BM.be s r : Int) * ((s : Int) + ((r : Int) + 1) + 1) = (BM.be s (r + 1) : Int) * ((r : Int) + 1) := by
    have : ((BM.be s (r + 1) * (r + 1) : Nat) : Int) = ((BM.be s r * (s + r + 2) : Nat) : Int) := by rw [h]
    rw [Int.natCast_mul, Int.natCast_mul] at this
    simp only [Int.natCast_add] at this
    rw [show (s : Int) + ((r : Int) + 1) + 1 = (s : Int) + r + ((2 : Nat) : Int) by omega, ← this]
    rfl
  rw [e]
  exact Int.mul_ediv_cancel _ (by omega)

theorem closed (l s r : Nat) (h1 : l ≤ BM.be s r) (h2 : ∀ i, i < r → BM.be s i < l) : (r : Int) * (l : Int) - (BM.be s r : Int) * (r : Int) / ((s : Int) + 2) = (BM.T l s : Int) := by
  have a := BM.T_closed l s r h1 h2
  have b := BM.sb_mul s r
  have b' : (BM.be s r : Int) * (r : Int) = (BM.su (BM.be s) r : Int) * ((s : Int) + 2) := by
    have : ((BM.su (BM.be s) r * (s + 2) : Nat) : Int) = ((BM.be s r * r : Nat) : Int) := by rw [b]
    rw [Int.natCast_mul, Int.natCast_mul] at this
    simp only [Int.natCast_add] at this
    exact this.symm
  rw [b', Int.mul_ediv_cancel _ (by omega)]
  have a' : ((BM.T l s + BM.su (BM.be s) r : Nat) : Int) = ((r * l : Nat) : Int) := by rw [a]
  rw [Int.natCast_mul] at a'
  omega

set_option maxHeartbeats 400000 in
theorem least_nat (l s : Nat) (h1 : 1 ≤ l) (h2 : l ≤ 512) (h3 : s ≤ 512) (w : World) :
    Calls Try.prog 25 #[.int .i64 l, .int .i64 s] w fun e w' => e = .returned (.int .i64 (BM.T l s)) ∧ w = w' := by
  go_enter Try.func25, Try.ntmps25
  go_wp2
  go_loop [5, 6] (fun a b => ∃ r : Nat, (∀ i, i < r → BM.be s i < l) ∧ r ≤ 511 ∧ BM.be s r ≤ 523264 ∧ a = .int .i64 r ∧ b = .int .i64 (BM.be s r)) (fun a _ => 600 - (intOf a).toNat)
  case atStart => exact ⟨0, fun i hi => by omega, by omega, by rw [BM.be_zero]; omega, rfl, by rw [BM.be_zero]; rfl⟩
  case round =>
    obtain ⟨r, hall, hr, hbig, rfl, rfl⟩ := hrel
    have HA := Lib.hid hall
    clear hall
    by_cases hlt : BM.be s r < l
    · obtain ⟨hb1, hb2⟩ := be_small hlt h2 h3
      have hb3 : 0 ≤ (BM.be s r : Int) * ((s : Int) + ((r : Int) + 1) + 1) := by
        apply Int.mul_nonneg <;> omega
      have hb4 : (BM.be s r : Int) * ((s : Int) + ((r : Int) + 1) + 1) ≤ 523264 := by
        have : ((BM.be s r * (s + r + 2) : Nat) : Int) ≤ 523264 := by omega
        rw [Int.natCast_mul] at this
        simp only [Int.natCast_add] at this
        rw [show (s : Int) + ((r : Int) + 1) + 1 = (s : Int) + r + ((2 : Nat) : Int) by omega]
        exact this
      go_wp2
      go_round
      case rel =>
        refine ⟨r + 1, fun i hi => ?_, by omega, ?_, by go_num, ?_⟩
        · by_cases e : i = r
          · subst e; exact hlt
          · exact HA.out i (by omega)
        · have h := BM.be_A s r
          have h5 := BM.be_pos s (r + 1)
          have h6 : BM.be s (r + 1) * 1 ≤ BM.be s (r + 1) * (r + 1) := Nat.mul_le_mul_left _ (by omega)
          omega
        · rw [be_next]
      case measure => simp [intOf]; omega
    · have hc := closed l s r (by omega) HA.out
      have HC := Lib.hid hc
      clear hc
      have p1 : 0 ≤ (r : Int) * (l : Int) := Int.mul_nonneg (by omega) (by omega)
      have p2 : (r : Int) * (l : Int) ≤ 511 * 512 := Int.mul_le_mul (by omega) (by omega) (by omega) (by omega)
      have p3 : 0 ≤ (BM.be s r : Int) * (r : Int) := Int.mul_nonneg (by omega) (by omega)
      have p4 : (BM.be s r : Int) * (r : Int) ≤ 523264 * 511 := Int.mul_le_mul (by omega) (by omega) (by omega) (by omega)
      have p5 : 0 ≤ (BM.be s r : Int) * (r : Int) / ((s : Int) + 2) := Int.ediv_nonneg p3 (by omega)
      have p6 : (BM.be s r : Int) * (r : Int) / ((s : Int) + 2) ≤ 523264 * 511 := Int.le_trans (Int.ediv_le_self _ p3) p4
      go_wp2
      go_ret
      refine ⟨ret_int ?_, rfl⟩
      exact HC.out

theorem least_any (l s : Int) (w : World) (h : insB l s = true) :
    Calls Try.prog 25 #[.int .i64 l, .int .i64 s] w fun e w' => e = .returned (.int .i64 (BM.T l.toNat s.toNat)) ∧ w = w' := by
  obtain ⟨h1, h2, h3, h4⟩ := insB_t h
  obtain ⟨m, rfl⟩ := Int.eq_ofNat_of_zero_le (show 0 ≤ l by omega)
  obtain ⟨n, rfl⟩ := Int.eq_ofNat_of_zero_le h3
  rw [Int.toNat_natCast, Int.toNat_natCast]
  exact least_nat m n (by omega) (by omega) (by omega) w

set_option maxHeartbeats 400000 in
theorem Least_yes (l s : Int) (w : World) (h : insB l s = true) :
    Calls Try.prog 13 #[.int .i64 l, .int .i64 s] w fun e w' => e = .returned (.tuple #[.int .i64 (BM.T l.toNat s.toNat), .int .i64 0]) ∧ w = w' := by
  have H := Lib.hid h
  clear h
  go_enter Try.func13, Try.ntmps13
  go_wp2_with (first
    | (go_at_call 22; refine (inside_yes _ _ _ H.out).mono ?_; rintro e w' ⟨rfl, rfl⟩)
    | (go_at_call 25; refine (least_any _ _ _ H.out).mono ?_; rintro e w' ⟨rfl, rfl⟩))
  go_ret2
  exact ⟨rfl, rfl⟩

set_option maxHeartbeats 400000 in
theorem Least_no (l s : Int) (w : World) (h : insB l s = false) :
    Calls Try.prog 13 #[.int .i64 l, .int .i64 s] w fun e w' => e = .returned (.tuple #[.int .i64 0, .int .i64 11]) ∧ w = w' := by
  have H := Lib.hid h
  clear h
  go_enter Try.func13, Try.ntmps13
  go_wp2_with (first
    | (go_at_call 22; refine (inside_no _ _ _ H.out).mono ?_; rintro e w' ⟨rfl, rfl⟩))
  go_ret2
  exact ⟨rfl, rfl⟩

end Go.Proofs.Ythbdhcbdhcgkfaa
