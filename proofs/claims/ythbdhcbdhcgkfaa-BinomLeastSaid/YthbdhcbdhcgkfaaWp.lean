/- The walk of athanorref19.Split. -/
import Derived.Test.YthbdhcbdhcgkfaaWo
namespace Go.Proofs.Ythbdhcbdhcgkfaa
open Go.RowKit
set_option linter.unusedVariables false

set_option maxRecDepth 100000 in
set_option maxHeartbeats 1600000 in
theorem refSplit_any (g l s : Nat) (w : World) (hT : TabAt g l s (fun i m => (BM.T i m : Int)) w) (h1 : 2 ≤ l) (h2 : l ≤ 60) (h3 : s ≤ 60) :
    Calls Try.prog 21 #[.slice (some ⟨g, 0, none⟩) (l + 1) (l + 1), .int .i64 l, .int .i64 s] w fun e w' => e = .returned (.int .i64 (BM.spl l s)) ∧ Below w.heap.size w w' := by
  by_cases h0 : s = 0
  · subst h0
    go_enter Try.func21, Try.ntmps21
    go_wp2
    go_ret
    exact ⟨ret_int (by simp only [BM.spl, if_true]; omega), Below.refl _ _⟩
  · have e0 : ((s : Int) == 0) = false := by simp; omega
    have b0 : 1 ≤ s := by omega
    clear h0
    go_enter Try.func21, Try.ntmps21
    go_wp2
    go_loopw [7] (fun x wr => ∃ k : Nat, 1 ≤ k ∧ k ≤ l ∧ (∀ j, 1 ≤ j → j < k → BM.fk l s j ≠ BM.T l s) ∧ x = .int .i64 k ∧ TabAt g l s (fun i m => (BM.T i m : Int)) wr ∧ Below w.heap.size w wr) (fun x _ => l - (intOf x).toNat)
    case atStart => exact ⟨1, by omega, by omega, fun j a b => by omega, rfl, hT, Below.refl _ _⟩
    case round =>
      clear hT
      obtain ⟨k, hk1, hk2, hall, rfl, hT, hB⟩ := hrel
      have HA := Lib.hid hall
      clear hall
      by_cases hlt : k < l
      · have c1 : (k : Int) < (l : Int) := by omega
        have q1 := hT.sl (show l - k ≤ l by omega)
        have q2 := hT.at (show l - k ≤ l by omega) (show s - 1 ≤ s by omega)
        have q3 := hT.sl (show k ≤ l by omega)
        have q4 := hT.at (show k ≤ l by omega) (Nat.le_refl s)
        have q5 := hT.sl (Nat.le_refl l)
        have q6 := hT.at (Nat.le_refl l) (Nat.le_refl s)
        have b1 := BM.T_bound (l := l - k) (s := s - 1) (by omega)
        have b2 := BM.T_bound (l := k) (s := s) (by omega)
        have hfk : (k : Int) + (BM.T (l - k) (s - 1) : Int) + (BM.T k s : Int) = (BM.fk l s k : Int) := by unfold BM.fk; omega
        have HFK := Lib.hid hfk
        clear hfk
        have i1 : 0 ≤ (l : Int) - (k : Int) := by omega
        have i2 : (l : Int) - (k : Int) < (l : Int) + 1 := by omega
        have i3 : 0 ≤ (s : Int) - 1 := by omega
        have i4 : (s : Int) - 1 < (s : Int) + 1 := by omega
        have i5 : (k : Int) < (l : Int) + 1 := by omega
        have i6 : (s : Int) < (s : Int) + 1 := by omega
        have i7 : (l : Int) < (l : Int) + 1 := by omega
        by_cases heq : BM.fk l s k = BM.T l s
        · have t1 : ((k : Int) + (BM.T (l - k) (s - 1) : Int) + (BM.T k s : Int) == (BM.T l s : Int)) = true := by rw [HFK.out, heq]; simp
          have HEQ := Lib.hid heq
          clear heq
          go_wp2
          have e1 : IntKind.i64.wrap ((l : Int) - (k : Int)) = (l : Int) - (k : Int) := IntWalk.i64_in _ (by omega)
          have e2 : ((l : Int) - (k : Int)).toNat = l - k := by omega
          have e3 : IntKind.i64.wrap ((s : Int) - 1) = (s : Int) - 1 := IntWalk.i64_in _ (by omega)
          have e4 : ((s : Int) - 1).toNat = s - 1 := by omega
          have e5 : IntKind.i64.wrap ((k : Int) + (BM.T (l - k) (s - 1) : Int)) = (k : Int) + (BM.T (l - k) (s - 1) : Int) := IntWalk.i64_in _ (by omega)
          have e6 : IntKind.i64.wrap ((k : Int) + (BM.T (l - k) (s - 1) : Int) + (BM.T k s : Int)) = (k : Int) + (BM.T (l - k) (s - 1) : Int) + (BM.T k s : Int) := IntWalk.i64_in _ (by omega)
          go_quiet (fail)
          clear e1 e2 e3 e4 e5 e6
          go_wp2
          go_ret
          refine ⟨ret_int ?_, below_drewN hB _⟩
          unfold BM.spl
          rw [if_neg (by omega), BM.spGo_eq HEQ.out l 1 hk1 (by omega) (fun j a b => HA.out j a b)]
        · have t1 : ((k : Int) + (BM.T (l - k) (s - 1) : Int) + (BM.T k s : Int) == (BM.T l s : Int)) = false := by rw [HFK.out]; simp; omega
          have HEQ := Lib.hid heq
          clear heq
          go_wp2
          have e1 : IntKind.i64.wrap ((l : Int) - (k : Int)) = (l : Int) - (k : Int) := IntWalk.i64_in _ (by omega)
          have e2 : ((l : Int) - (k : Int)).toNat = l - k := by omega
          have e3 : IntKind.i64.wrap ((s : Int) - 1) = (s : Int) - 1 := IntWalk.i64_in _ (by omega)
          have e4 : ((s : Int) - 1).toNat = s - 1 := by omega
          have e5 : IntKind.i64.wrap ((k : Int) + (BM.T (l - k) (s - 1) : Int)) = (k : Int) + (BM.T (l - k) (s - 1) : Int) := IntWalk.i64_in _ (by omega)
          have e6 : IntKind.i64.wrap ((k : Int) + (BM.T (l - k) (s - 1) : Int) + (BM.T k s : Int)) = (k : Int) + (BM.T (l - k) (s - 1) : Int) + (BM.T k s : Int) := IntWalk.i64_in _ (by omega)
          go_quiet (fail)
          clear e1 e2 e3 e4 e5 e6
          go_wp2
          go_roundw
          case rel =>
            refine ⟨k + 1, by omega, by omega, fun j a b => ?_, by go_num, hT.drewN _, below_drewN hB _⟩
            by_cases e : j = k
            · subst e; exact HEQ.out
            · exact HA.out j a (by omega)
          case measure => simp [intOf]; omega
      · obtain rfl : k = l := by omega
        exfalso
        obtain ⟨t, rfl⟩ : ∃ t, s = t + 1 := ⟨s - 1, by omega⟩
        obtain ⟨j, j1, j2, j3⟩ := BM.T_attained k t h1
        refine HA.out j j1 j2 ?_
        unfold BM.fk; simp only [Nat.add_sub_cancel]; omega

end Go.Proofs.Ythbdhcbdhcgkfaa
