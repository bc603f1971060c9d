/- The walks of binom.split and Split. -/
import Derived.Test.YthbdhcbdhcgkfaaWc
namespace Go.Proofs.Ythbdhcbdhcgkfaa
open Go.RowKit

theorem least_at (L S : Nat) (l s : Int) (w : World) (hl : l = L) (hs : s = S) (h1 : 1 ≤ L) (h2 : L ≤ 512) (h3 : S ≤ 512) :
    Calls Try.prog 25 #[.int .i64 l, .int .i64 s] w fun e w' => e = .returned (.int .i64 (BM.T L S)) ∧ w = w' := by
  subst hl hs; exact least_nat L S h1 h2 h3 w

/-- What the loop of split holds at its head. -/
def SpInv (l s k : Nat) (a b : Nat) : Prop :=
  (k = 1 ∧ a = 0 ∧ b = 0) ∨ (1 ≤ a ∧ a < k ∧ b = BM.fk l s a ∧ (∀ j, 1 ≤ j → j < k → BM.fk l s a ≤ BM.fk l s j) ∧ (∀ j, 1 ≤ j → j < a → BM.fk l s a < BM.fk l s j))

theorem SpInv.take {l s k a b : Nat} (h : SpInv l s k a b) (hk : 1 ≤ k) (ht : a = 0 ∨ BM.fk l s k < b) : SpInv l s (k + 1) k (BM.fk l s k) := by
  refine .inr ⟨hk, by omega, rfl, ?_, ?_⟩
  · intro j h1 h2
    by_cases e : j = k
    · subst e; exact Nat.le_refl _
    · rcases h with ⟨h3, _, _⟩ | ⟨h3, h4, h5, h6, _⟩
      · omega
      · have := h6 j h1 (by omega); omega
  · intro j h1 h2
    rcases h with ⟨h3, _, _⟩ | ⟨h3, h4, h5, h6, _⟩
    · omega
    · have := h6 j h1 (by omega); omega
theorem SpInv.pass {l s k a b : Nat} (h : SpInv l s k a b) (h1 : a ≠ 0) (ht : ¬ BM.fk l s k < b) : SpInv l s (k + 1) a b := by
  rcases h with ⟨_, h4, _⟩ | ⟨h3, h4, h5, h6, h7⟩
  · omega
  · refine .inr ⟨h3, by omega, h5, fun j h1 h2 => ?_, h7⟩
    by_cases e : j = k
    · subst e; omega
    · exact h6 j h1 (by omega)

set_option maxHeartbeats 800000 in
theorem split_at (L S : Nat) (l s : Int) (w : World) (hl : l = L) (hs : s = S) (h1 : 2 ≤ L) (h2 : L ≤ 512) (h3 : S ≤ 512) :
    Calls Try.prog 26 #[.int .i64 l, .int .i64 s] w fun e w' => e = .returned (.int .i64 (BM.spl L S)) ∧ w = w' := by
  subst hl hs
  by_cases h0 : S = 0
  · subst h0
    go_enter Try.func26, Try.ntmps26
    go_wp2
    go_ret
    exact ⟨ret_int (by simp only [BM.spl, if_true]; omega), rfl⟩
  · have e0 : ((S : Int) == 0) = false := by simp; omega
    have b0 : 1 ≤ S := by omega
    clear h0
    go_enter Try.func26, Try.ntmps26
    go_wp2
    go_loop [5, 6, 7, 8] (fun b a k _ => ∃ bb aa kk : Nat, SpInv L S kk aa bb ∧ 1 ≤ kk ∧ kk ≤ L ∧ aa ≤ L ∧ bb ≤ 300000 ∧ b = .int .i64 bb ∧ a = .int .i64 aa ∧ k = .int .i64 kk) (fun _ _ k _ => L - (intOf k).toNat)
    case atStart => exact ⟨0, 0, 1, .inl ⟨rfl, rfl, rfl⟩, by omega, by omega, by omega, by omega, rfl, rfl, rfl⟩
    case round =>
      obtain ⟨bb, aa, kk, hinv, hk1, hk2, ha, hb, rfl, rfl, rfl⟩ := hrel
      by_cases hlt : kk < L
      · have t1 := BM.T_bound (l := L - kk) (s := S - 1) (by omega)
        have t2 := BM.T_bound (l := kk) (s := S) (by omega)
        go_wp2_with fail
        refine (least_at (L - kk) (S - 1) _ _ _ (by omega) (by omega) (by omega) (by omega) (by omega)).mono ?_
        rintro e w' ⟨rfl, rfl⟩
        go_wp2_with fail
        refine (least_at kk S _ _ _ rfl rfl (by omega) (by omega) (by omega)).mono ?_
        rintro e w' ⟨rfl, rfl⟩
        go_wp2
        · have c1 : aa = 0 := by assumption
          go_round
          case rel => exact ⟨BM.fk L S kk, kk, kk + 1, hinv.take hk1 (.inl c1), by omega, by omega, by omega, by unfold BM.fk; omega, by unfold BM.fk; go_num, rfl, by go_num⟩
          case measure => simp [intOf]; omega
        · have c1 : ¬ aa = 0 := by assumption
          have c2 : ((aa : Int) == 0) = true ∨ (kk : Int) + (BM.T (L - kk) (S - 1) : Int) + (BM.T kk S : Int) < (bb : Int) := by assumption
          have c3 : BM.fk L S kk < bb := by
            rcases c2 with c2 | c2
            · simp at c2; omega
            · unfold BM.fk; omega
          go_round
          case rel => exact ⟨BM.fk L S kk, kk, kk + 1, hinv.take hk1 (.inr c3), by omega, by omega, by omega, by unfold BM.fk; omega, by unfold BM.fk; go_num, rfl, by go_num⟩
          case measure => simp [intOf]; omega
        · have c1 : ¬ aa = 0 := by assumption
          have c2 : ((aa : Int) == 0) = false ∧ (bb : Int) ≤ (kk : Int) + (BM.T (L - kk) (S - 1) : Int) + (BM.T kk S : Int) := by assumption
          have c3 : ¬ BM.fk L S kk < bb := by
            unfold BM.fk; omega
          go_round
          case rel => exact ⟨bb, aa, kk + 1, hinv.pass c1 c3, by omega, by omega, by omega, by omega, rfl, rfl, by go_num⟩
          case measure => simp [intOf]; omega
      · obtain rfl : kk = L := by omega
        have hfin : aa = BM.spl kk S := by
          rcases hinv with ⟨h4, _, _⟩ | ⟨h4, h5, _, h6, h7⟩
          · omega
          · exact (BM.spl_eq b0 h1 h4 h5 h6 h7).1.symm
        have HF := Lib.hid hfin
        clear hfin
        go_wp2
        go_ret
        exact ⟨ret_int (by rw [HF.out]), rfl⟩

set_option maxHeartbeats 400000 in
theorem Split_yes (L S : Nat) (l s : Int) (w : World) (hl : l = L) (hs : s = S) (h1 : 2 ≤ L) (h2 : L ≤ 512) (h3 : S ≤ 512) :
    Calls Try.prog 19 #[.int .i64 l, .int .i64 s] w fun e w' => e = .returned (.tuple #[.int .i64 (BM.spl L S), .int .i64 0]) ∧ w = w' := by
  have hin : insB l s = true := by unfold insB; simp; omega
  have e1 : (l == 1) = false := by simp; omega
  have H := Lib.hid hin
  have Hl := Lib.hid hl
  have Hs := Lib.hid hs
  clear hin hl hs
  go_enter Try.func19, Try.ntmps19
  go_wp2_with (first
    | (go_at_call 22; refine (inside_yes _ _ _ H.out).mono ?_; rintro e w' ⟨rfl, rfl⟩)
    | (go_at_call 26; refine (split_at L S _ _ _ Hl.out Hs.out h1 h2 h3).mono ?_; rintro e w' ⟨rfl, rfl⟩))
  go_ret2
  exact ⟨rfl, rfl⟩

set_option maxHeartbeats 400000 in
theorem Split_out (l s : Int) (w : World) (h : insB l s = false) :
    Calls Try.prog 19 #[.int .i64 l, .int .i64 s] w fun e w' => e = .returned (.tuple #[.int .i64 0, .int .i64 11]) ∧ w = w' := by
  have H := Lib.hid h
  clear h
  go_enter Try.func19, Try.ntmps19
  go_wp2_with (go_at_call 22; refine (inside_no _ _ _ H.out).mono ?_; rintro e w' ⟨rfl, rfl⟩)
  go_ret2
  exact ⟨rfl, rfl⟩

set_option maxHeartbeats 400000 in
theorem Split_one (s : Int) (w : World) (h : insB 1 s = true) :
    Calls Try.prog 19 #[.int .i64 1, .int .i64 s] w fun e w' => e = .returned (.tuple #[.int .i64 0, .int .i64 11]) ∧ w = w' := by
  have H := Lib.hid h
  clear h
  go_enter Try.func19, Try.ntmps19
  go_wp2_with (go_at_call 22; refine (inside_yes _ _ _ H.out).mono ?_; rintro e w' ⟨rfl, rfl⟩)
  go_ret2
  exact ⟨rfl, rfl⟩

end Go.Proofs.Ythbdhcbdhcgkfaa
