/- Proved: for every l and s the law BinomMore returns true (Rows.BinomMoreSaid). No condition. -/
import Derived.Test.YthbdhcbdhcgkfaaWk
import Derived.WalkKit
import Derived.ProofKit
import Derived.OpenShut
import Derived.ChangeOld
import Derived.Below
namespace Go.Proofs.Ythbdhcbdhcgkfaa
open Go.ChangeShapes Go.WideShapes Go.ChangeAt Go.RowKit
set_option linter.unusedVariables false


theorem more_math (l s : Nat) (h2 : 2 ≤ l) : BM.T l (s + 1) ≤ BM.T l s ∧ BM.T (l - 1) s ≤ BM.T l s ∧ BM.T l (max s (l - 1)) = l - 1 ∧ l - 1 ≤ BM.T l s := by
  refine ⟨BM.T_down l s, ?_, BM.T_many (by omega), BM.T_ge l s⟩
  have := BM.T_up (l - 1) s
  rwa [show l - 1 + 1 = l by omega] at this

theorem Least_at (L S : Nat) (l s : Int) (w : World) (hl : l = L) (hs : s = S) (h1 : 1 ≤ L) (h2 : L ≤ 512) (h3 : S ≤ 512) :
    Calls Try.prog 13 #[.int .i64 l, .int .i64 s] w fun e w' => e = .returned (.tuple #[.int .i64 (BM.T L S), .int .i64 0]) ∧ w = w' := by
  subst hl hs
  have := Least_yes L S w (by unfold insB; simp; omega)
  rw [Int.toNat_natCast, Int.toNat_natCast] at this
  exact this

set_option maxHeartbeats 800000 in
theorem binomMore_walk (a0 a1 : Int) (w0 : (Lit.int .i64 a0).wf = true) (w1 : (Lit.int .i64 a1).wf = true) (w : World) :
    Calls Try.prog 5 #[.int .i64 a0, .int .i64 a1] w fun e w' => e = .returned (.bool true) ∧ Below w.heap.size w w' := by
  cases hin : insB a0 a1 with
  | false =>
    have H := Lib.hid hin
    clear hin
    go_enter Try.func5, Try.ntmps5
    go_wp2_with (first
      | (go_at_call 11; refine (in_no _ _ _ H.out).mono ?_; rintro e w' ⟨rfl, rfl⟩)
      | (go_at_call 9; refine (awake_any _).mono ?_; rintro e w' ⟨rfl, hb⟩))
    go_ret
    exact ⟨rfl, hb⟩
  | true =>
    obtain ⟨b1, b2, b3, b4⟩ := insB_t hin
    have H := Lib.hid hin
    clear hin
    by_cases c1 : a0 = 1
    · have t1 : (a0 == 1) = true := by simp [c1]
      clear c1
      go_enter Try.func5, Try.ntmps5
      go_wp2_with (first
        | (go_at_call 11; refine (in_yes _ _ _ H.out).mono ?_; rintro e w' ⟨rfl, rfl⟩)
        | (go_at_call 9; refine (awake_any _).mono ?_; rintro e w' ⟨rfl, hb⟩))
      go_ret
      exact ⟨rfl, hb⟩
    · have t1 : (a0 == 1) = false := by simp [c1]
      by_cases c2 : a1 = 512
      · have t2 : (a1 == 512) = true := by simp [c2]
        clear c1 c2
        go_enter Try.func5, Try.ntmps5
        go_wp2_with (first
          | (go_at_call 11; refine (in_yes _ _ _ H.out).mono ?_; rintro e w' ⟨rfl, rfl⟩)
          | (go_at_call 9; refine (awake_any _).mono ?_; rintro e w' ⟨rfl, hb⟩))
        go_ret
        exact ⟨rfl, hb⟩
      · have t2 : (a1 == 512) = false := by simp [c2]
        have b5 : 2 ≤ a0 := by omega
        have b6 : a1 ≤ 511 := by omega
        clear c1 c2 w0 w1
        obtain ⟨l, rfl⟩ := Int.eq_ofNat_of_zero_le (show 0 ≤ a0 by omega)
        obtain ⟨s, rfl⟩ := Int.eq_ofNat_of_zero_le b3
        obtain ⟨m1, m2, m3, m4⟩ := more_math l s (by omega)
        have q1 : (BM.T l (s + 1) : Int) ≤ (BM.T l s : Int) := by omega
        have q2 : (BM.T (l - 1) s : Int) ≤ (BM.T l s : Int) := by omega
        have q3 : ((BM.T l (max s (l - 1)) : Int) == (l : Int) - 1) = true := by simp; omega
        have q4 : (l : Int) - 1 ≤ (BM.T l s : Int) := by omega
        clear m1 m2 m3 m4
        go_enter Try.func5, Try.ntmps5
        go_wp2_with fail
        refine (in_yes _ _ _ H.out).mono ?_
        rintro e w' ⟨rfl, rfl⟩
        go_wp2_with fail
        refine (Least_at l s _ _ _ rfl rfl (by omega) (by omega) (by omega)).mono ?_
        rintro e w' ⟨rfl, rfl⟩
        go_wp2_with fail
        refine (Least_at l (s + 1) _ _ _ rfl (by omega) (by omega) (by omega) (by omega)).mono ?_
        rintro e w' ⟨rfl, rfl⟩
        go_wp2_with fail
        refine (Least_at (l - 1) s _ _ _ (by omega) rfl (by omega) (by omega) (by omega)).mono ?_
        rintro e w' ⟨rfl, rfl⟩
        go_wp2_with fail
        all_goals
          refine (Least_at l (max s (l - 1)) _ _ _ rfl (by omega) (by omega) (by omega) (by omega)).mono ?_
          rintro e w' ⟨rfl, rfl⟩
          go_wp2_with fail
          refine (awake_any _).mono ?_
          rintro e w' ⟨rfl, hb⟩
          go_wp2_with fail
          go_ret
          exact ⟨rfl, hb⟩

/-! ### The row over the walk -/
theorem binomMore_own : ownKnob Try.prog.godebug = none := by kernel_rfl

set_option maxRecDepth 100000 in
theorem binomMore_lifted (os : Os) (started : os.Started) (H : Type) (enc : TypeId × Value → H) :
    ReturnsInHanded {} Try.checked os 5 .any (Rows.binomMoreSpec.pre6 enc Try.prog Try.f5 Rows.binomMoreRow.domain false) (Rows.binomMoreSpec.post enc Try.prog Try.f5 false true false false) := by
  refine returnsInHanded_of_change (C := Try.checked) binomMore_own started (by kernel_rfl) Try.func5
    (ChangeSpec.witness6 (enc := enc) (C := Try.checked) false ⟨#[], #[.int .i64 0, .int .i64 0], []⟩ 8 (by kernel_rfl) (by kernel_rfl) (by kernel_rfl) (by kernel_rfl)) ?_
  intro W base args ds gs before hval0 hW hcnd _
  have hval : ∀ (j : Nat) t v, Try.f5.params[j]? = some t → args[j]? = some v → Value.okWide Try.prog W .any base t v := hval0
  have hW' := hW
  obtain ⟨p, q, hA0, hV, rfl, hfz, hnd⟩ := hW
  have hA : DataW.TrodAll enc Try.prog W 0 (fun _ => true) true Try.f5.params.toList args.toList ds p := hA0
  rw [Try.params5] at hA hval
  obtain ⟨v0, vs0, d0, ds0, p0, q0, hargs, rfl, rfl, h0, r0⟩ := trodAll_cons hA
  obtain ⟨v1, vs1, d1, ds1, p1, q1, rfl, rfl, rfl, h1, r1⟩ := trodAll_cons r0
  obtain ⟨rfl, rfl, rfl⟩ := trodAll_nil r1
  obtain rfl : args = #[v0, v1] := by cases args; simp_all
  obtain ⟨rfl, rfl⟩ := trodVars_none hV
  obtain ⟨a0, rfl, rfl, rfl, w0⟩ := open_int Try.underlying3 (hval 0 3 v0 rfl rfl) h0
  obtain ⟨a1, rfl, rfl, rfl, w1⟩ := open_int Try.underlying3 (hval 1 3 v1 rfl rfl) h1
  clear hA0 hval0
  simp only [List.append_nil] at hW'
  refine (binomMore_walk a0 a1 w0 w1 W).mono fun e W' ⟨he, bel⟩ => ?_
  subst he
  exact ⟨_, rfl, _, _, _, [], [], [], hW', trodAll_mk1 (shut_bool Try.underlying4 _), (trodAll_cons_mk (shut_int Try.underlying3 w0) (trodAll_cons_mk (shut_int Try.underlying3 w1) trodAll_mk0)), rfl, bel.frame _, fun h => by cases h⟩

theorem binomMore_over : Rows.binomMoreRow.holds Try.pinned (OpenSpec.ofChange Rows.binomMoreSpec) :=
  OpenClaim.holds_of_wide 5 Try.f5 rfl rfl rfl rfl rfl rfl rfl ⟨rfl, rfl, rfl, rfl, rfl⟩ rfl rfl rfl rfl rfl (by kernel_rfl) Try.func5 (by kernel_rfl)
    (of_decide_eq_true (by kernel_rfl)) (by unfold Func.isWrapper; first | (rw [if_pos (by decide +kernel)]; kernel_rfl) | (rw [if_neg (by decide +kernel)]; exact ⟨rfl, rfl⟩))
    (fun os started H enc _ => binomMore_lifted os started H enc)

/-- THE STATEMENT. -/
theorem binomMore_proved : Rows.BinomMoreSaid := binomMore_over
#print axioms binomMore_proved

end Go.Proofs.Ythbdhcbdhcgkfaa
