/- Proved: for every n and k the law BinomChoices returns true (Rows.BinomChoicesSaid). No condition. -/
import Derived.Test.YthbdhcbdhcgkfaaWl
import Derived.WalkKit
import Derived.ProofKit
import Derived.OpenShut
import Derived.ChangeOld
import Derived.Below
namespace Go.Proofs.Ythbdhcbdhcgkfaa
open Go.ChangeShapes Go.WideShapes Go.ChangeAt Go.RowKit
set_option linter.unusedVariables false


theorem cho_two (n k : Nat) : (BM.pa n k ≤ 1099511627776 ∧ choW n k = .tuple #[.int .i64 (BM.pa n k), .int .i64 0] ∧ cp n k = BM.pa n k) ∨ (1099511627776 < BM.pa n k ∧ choW n k = .tuple #[.int .i64 0, .int .i64 17] ∧ cp n k = 1099511627777) := by
  by_cases h : BM.pa n k ≤ 1099511627776
  · exact .inl ⟨h, if_pos h, by unfold cp; omega⟩
  · exact .inr ⟨by omega, if_neg h, by unfold cp; omega⟩

set_option maxRecDepth 100000 in
set_option maxHeartbeats 1600000 in
theorem binomChoices_walk (a0 a1 : Int) (w0 : (Lit.int .i64 a0).wf = true) (w1 : (Lit.int .i64 a1).wf = true) (w : World) :
    Calls Try.prog 6 #[.int .i64 a0, .int .i64 a1] w fun e w' => e = .returned (.bool true) ∧ Below w.heap.size w w' := by
  clear w0 w1
  by_cases hbig : 300 < a0
  · go_enter Try.func6, Try.ntmps6
    go_wp2_with fail
    refine (awake_any _).mono ?_
    rintro e w2 ⟨rfl, hb2⟩
    go_wp2_with fail
    go_ret
    exact ⟨rfl, hb2⟩
  by_cases hin : 0 ≤ a0 ∧ a0 ≤ 10000 ∧ 0 ≤ a1 ∧ a1 ≤ a0
  · obtain ⟨b1, _, b3, b4⟩ := hin
    obtain ⟨n, rfl⟩ := Int.eq_ofNat_of_zero_le b1
    obtain ⟨k, rfl⟩ := Int.eq_ofNat_of_zero_le b3
    rcases cho_two n k with ⟨hsm, e1, e2⟩ | ⟨hsm, e1, e2⟩
    · have E1 := Lib.hid e1
      have E2 := Lib.hid e2
      clear e1 e2
      have t1 : ¬ 1099511627776 < (BM.pa n k : Int) := by omega
      by_cases hk : 0 < k ∧ k < n
      · obtain ⟨hk1, hk2⟩ := hk
        have hR : Hid (∀ w : World, Calls Try.prog 18 #[.int .i64 ((k : Int) - 1), .int .i64 ((n : Int) - (k : Int))] w fun e w' => e = .returned (choW n k) ∧ w = w') := by
          intro w
          have := reach_yes (k - 1) (n - k) _ _ w (show (k : Int) - 1 = ((k - 1 : Nat) : Int) by omega) (show (n : Int) - k = ((n - k : Nat) : Int) by omega) (by omega) (by omega)
          rw [show k - 1 + (n - k) + 1 = n by omega, show k - 1 + 1 = k by omega] at this
          exact this
        have c1 : (0 : Int) < (k : Int) := by omega
        have c2 : (k : Int) < (n : Int) := by omega
        generalize BM.pa n k = P at *
        go_enter Try.func6, Try.ntmps6
        go_wp2_with fail
        refine (choose_yes n k _ _ _ rfl rfl (by omega) (by omega)).mono ?_
        rw [E1.out]
        rintro e w' ⟨rfl, rfl⟩
        go_wp2_with fail
        refine (refChoose_yes n k _ _ _ rfl rfl (by omega) (by omega)).mono ?_
        rw [E2.out]
        rintro e w1 ⟨rfl, hb1⟩
        go_wp2_with fail
        refine (hR.out _).mono ?_
        rw [E1.out]
        rintro e w' ⟨rfl, rfl⟩
        go_wp2_with fail
        refine (awake_any _).mono ?_
        rintro e w2 ⟨rfl, hb2⟩
        go_wp2_with fail
        go_ret
        exact ⟨rfl, hb1.trans (hb2.mono hb1.size)⟩
      · have H0 := Lib.hid hk
        clear hk
        by_cases hk1 : (0 : Int) < (k : Int)
        · have hk2 : ¬ (k : Int) < (n : Int) := by have := H0.out; omega
          generalize BM.pa n k = P at *
          go_enter Try.func6, Try.ntmps6
          go_wp2_with fail
          refine (choose_yes n k _ _ _ rfl rfl (by omega) (by omega)).mono ?_
          rw [E1.out]
          rintro e w' ⟨rfl, rfl⟩
          go_wp2_with fail
          refine (refChoose_yes n k _ _ _ rfl rfl (by omega) (by omega)).mono ?_
          rw [E2.out]
          rintro e w1 ⟨rfl, hb1⟩
          go_wp2_with fail
          refine (awake_any _).mono ?_
          rintro e w2 ⟨rfl, hb2⟩
          go_wp2_with fail
          go_ret
          exact ⟨rfl, hb1.trans (hb2.mono hb1.size)⟩
        · generalize BM.pa n k = P at *
          go_enter Try.func6, Try.ntmps6
          go_wp2_with fail
          refine (choose_yes n k _ _ _ rfl rfl (by omega) (by omega)).mono ?_
          rw [E1.out]
          rintro e w' ⟨rfl, rfl⟩
          go_wp2_with fail
          refine (refChoose_yes n k _ _ _ rfl rfl (by omega) (by omega)).mono ?_
          rw [E2.out]
          rintro e w1 ⟨rfl, hb1⟩
          go_wp2_with fail
          refine (awake_any _).mono ?_
          rintro e w2 ⟨rfl, hb2⟩
          go_wp2_with fail
          go_ret
          exact ⟨rfl, hb1.trans (hb2.mono hb1.size)⟩
    · have E1 := Lib.hid e1
      have E2 := Lib.hid e2
      clear e1 e2
      go_enter Try.func6, Try.ntmps6
      go_wp2_with fail
      refine (choose_yes n k _ _ _ rfl rfl (by omega) (by omega)).mono ?_
      rw [E1.out]
      rintro e w' ⟨rfl, rfl⟩
      go_wp2_with fail
      refine (refChoose_yes n k _ _ _ rfl rfl (by omega) (by omega)).mono ?_
      rw [E2.out]
      rintro e w1 ⟨rfl, hb1⟩
      go_wp2_with fail
      refine (awake_any _).mono ?_
      rintro e w2 ⟨rfl, hb2⟩
      go_wp2_with fail
      go_ret
      exact ⟨rfl, hb1.trans (hb2.mono hb1.size)⟩
  · have H := Lib.hid hin
    by_cases h1 : a0 < 0
    · clear hin
      go_enter Try.func6, Try.ntmps6
      go_wp2_with fail
      refine (choose_no _ _ _ H.out).mono ?_
      rintro e w' ⟨rfl, rfl⟩
      go_wp2_with fail
      refine (awake_any _).mono ?_
      rintro e w2 ⟨rfl, hb2⟩
      go_wp2_with fail
      go_ret
      exact ⟨rfl, hb2⟩
    · by_cases h3 : a1 < 0
      · clear hin
        go_enter Try.func6, Try.ntmps6
        go_wp2_with fail
        refine (choose_no _ _ _ H.out).mono ?_
        rintro e w' ⟨rfl, rfl⟩
        go_wp2_with fail
        refine (awake_any _).mono ?_
        rintro e w2 ⟨rfl, hb2⟩
        go_wp2_with fail
        go_ret
        exact ⟨rfl, hb2⟩
      · have h4 : a0 < a1 := by omega
        clear hin
        go_enter Try.func6, Try.ntmps6
        go_wp2_with fail
        refine (choose_no _ _ _ H.out).mono ?_
        rintro e w' ⟨rfl, rfl⟩
        go_wp2_with fail
        refine (awake_any _).mono ?_
        rintro e w2 ⟨rfl, hb2⟩
        go_wp2_with fail
        go_ret
        exact ⟨rfl, hb2⟩

/-! ### The row over the walk -/
theorem binomChoices_own : ownKnob Try.prog.godebug = none := by kernel_rfl

set_option maxRecDepth 100000 in
theorem binomChoices_lifted (os : Os) (started : os.Started) (H : Type) (enc : TypeId × Value → H) :
    ReturnsInHanded {} Try.checked os 6 .any (Rows.binomChoicesSpec.pre6 enc Try.prog Try.f6 Rows.binomChoicesRow.domain false) (Rows.binomChoicesSpec.post enc Try.prog Try.f6 false true false false) := by
  refine returnsInHanded_of_change (C := Try.checked) binomChoices_own started (by kernel_rfl) Try.func6
    (ChangeSpec.witness6 (enc := enc) (C := Try.checked) false ⟨#[], #[.int .i64 0, .int .i64 0], []⟩ 8 (by kernel_rfl) (by kernel_rfl) (by kernel_rfl) (by kernel_rfl)) ?_
  intro W base args ds gs before hval0 hW hcnd _
  have hval : ∀ (j : Nat) t v, Try.f6.params[j]? = some t → args[j]? = some v → Value.okWide Try.prog W .any base t v := hval0
  have hW' := hW
  obtain ⟨p, q, hA0, hV, rfl, hfz, hnd⟩ := hW
  have hA : DataW.TrodAll enc Try.prog W 0 (fun _ => true) true Try.f6.params.toList args.toList ds p := hA0
  rw [Try.params6] at hA hval
  obtain ⟨v0, vs0, d0, ds0, p0, q0, hargs, rfl, rfl, h0, r0⟩ := trodAll_cons hA
  obtain ⟨v1, vs1, d1, ds1, p1, q1, rfl, rfl, rfl, h1, r1⟩ := trodAll_cons r0
  obtain ⟨rfl, rfl, rfl⟩ := trodAll_nil r1
  obtain rfl : args = #[v0, v1] := by cases args; simp_all
  obtain ⟨rfl, rfl⟩ := trodVars_none hV
  obtain ⟨a0, rfl, rfl, rfl, w0⟩ := open_int Try.underlying3 (hval 0 3 v0 rfl rfl) h0
  obtain ⟨a1, rfl, rfl, rfl, w1⟩ := open_int Try.underlying3 (hval 1 3 v1 rfl rfl) h1
  clear hA0 hval0
  simp only [List.append_nil] at hW'
  refine (binomChoices_walk a0 a1 w0 w1 W).mono fun e W' ⟨he, bel⟩ => ?_
  subst he
  exact ⟨_, rfl, _, _, _, [], [], [], hW', trodAll_mk1 (shut_bool Try.underlying4 _), (trodAll_cons_mk (shut_int Try.underlying3 w0) (trodAll_cons_mk (shut_int Try.underlying3 w1) trodAll_mk0)), rfl, bel.frame _, fun h => by cases h⟩

theorem binomChoices_over : Rows.binomChoicesRow.holds Try.pinned (OpenSpec.ofChange Rows.binomChoicesSpec) :=
  OpenClaim.holds_of_wide 6 Try.f6 rfl rfl rfl rfl rfl rfl rfl ⟨rfl, rfl, rfl, rfl, rfl⟩ rfl rfl rfl rfl rfl (by kernel_rfl) Try.func6 (by kernel_rfl)
    (of_decide_eq_true (by kernel_rfl)) (by unfold Func.isWrapper; first | (rw [if_pos (by decide +kernel)]; kernel_rfl) | (rw [if_neg (by decide +kernel)]; exact ⟨rfl, rfl⟩))
    (fun os started H enc _ => binomChoices_lifted os started H enc)

/-- THE STATEMENT. -/
theorem binomChoices_proved : Rows.BinomChoicesSaid := binomChoices_over
#print axioms binomChoices_proved

end Go.Proofs.Ythbdhcbdhcgkfaa
