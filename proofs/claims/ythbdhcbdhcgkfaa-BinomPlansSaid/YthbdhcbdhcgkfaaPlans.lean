/- Proved: for every l and s the law BinomPlans returns true (Rows.BinomPlansSaid). No condition. -/
import Derived.Test.YthbdhcbdhcgkfaaWn
import Derived.Test.YthbdhcbdhcgkfaaMath3
import Derived.WalkKit
import Derived.ProofKit
import Derived.OpenShut
import Derived.ChangeOld
import Derived.Below
namespace Go.Proofs.Ythbdhcbdhcgkfaa
open Go.ChangeShapes Go.WideShapes Go.ChangeAt Go.RowKit
set_option linter.unusedVariables false


set_option maxRecDepth 100000 in
set_option maxHeartbeats 1600000 in
theorem binomPlans_walk (a0 a1 : Int) (w0 : (Lit.int .i64 a0).wf = true) (w1 : (Lit.int .i64 a1).wf = true) (w : World) :
    Calls Try.prog 3 #[.int .i64 a0, .int .i64 a1] w fun e w' => e = .returned (.bool true) ∧ Below w.heap.size w w' := by
  clear w0 w1
  by_cases hbig : 80 < a0
  · go_enter Try.func3, Try.ntmps3
    go_wp2_with fail
    refine (awake_any _).mono ?_
    rintro e w2 ⟨rfl, hb2⟩
    go_wp2_with fail
    go_ret
    exact ⟨rfl, hb2⟩
  cases hin : insB a0 a1 with
  | false =>
    have H := Lib.hid hin
    clear hin
    go_enter Try.func3, Try.ntmps3
    go_wp2_with fail
    refine (Plan_no _ _ _ H.out).mono ?_
    rintro e w' ⟨rfl, rfl⟩
    go_wp2_with fail
    refine (in_no _ _ _ H.out).mono ?_
    rintro e w' ⟨rfl, rfl⟩
    go_wp2_with fail
    refine (awake_any _).mono ?_
    rintro e w2 ⟨rfl, hb2⟩
    go_wp2_with fail
    go_ret
    exact ⟨rfl, hb2⟩
  | true =>
    obtain ⟨b1, b2, b3, b4⟩ := insB_t hin
    have H := Lib.hid hin
    clear hin
    obtain ⟨l, rfl⟩ := Int.eq_ofNat_of_zero_le (show 0 ≤ a0 by omega)
    obtain ⟨s, rfl⟩ := Int.eq_ofNat_of_zero_le b3
    have hlen := planL_length l s (by omega) (by omega)
    have hres := walkR_plan l s (by omega)
    have HRES := Lib.hid hres
    clear hres
    have hL : Hid (∀ w : World, Calls Try.prog 13 #[.int .i64 l, .int .i64 s] w fun e w' => e = .returned (.tuple #[.int .i64 (BM.T l s), .int .i64 0]) ∧ w = w') := fun w => by
      have := Least_yes l s w H.out
      rwa [Int.toNat_natCast, Int.toNat_natCast] at this
    go_enter Try.func3, Try.ntmps3
    go_wp2_with fail
    refine (Plan_yes l s _ _ _ rfl rfl (by omega) (by omega) (by omega)).mono ?_
    rintro e w1 ⟨v, rfl, hacts, hb1⟩
    have hr1 := hacts.reads
    go_wp2_with fail
    refine (in_yes _ _ _ H.out).mono ?_
    rintro e w' ⟨rfl, rfl⟩
    go_wp2_with fail
    refine (Walk_yes l s _ _ v _ _ rfl rfl (by omega) (by omega) (by omega) hr1 (by omega)).mono ?_
    rw [HRES.out]
    rintro e w2 ⟨rfl, hb2⟩
    have hr2 := hr1.below (Nat.le_refl _) hb2
    simp only [walkV]
    go_wp2_with fail
    refine (hL.out _).mono ?_
    rintro e w' ⟨rfl, rfl⟩
    go_wp2_with fail
    refine (pairs_any v _ _ hr2 (by omega)).mono ?_
    rintro e w3 ⟨v3, rfl, hr3, hb3⟩
    go_wp2_with fail
    refine (refWalk_any l s v3 _ _ (by omega) (by omega) (by omega) hr3 (by omega)).mono ?_
    rw [HRES.out]
    rintro e w4 ⟨rfl, hb4⟩
    simp only [refV, Option.getD_some]
    go_wp2_with fail
    refine (awake_any _).mono ?_
    rintro e w5 ⟨rfl, hb5⟩
    have s1 := hb1.size
    have s2 := hb2.size
    have s3 := hb3.size
    have s4 := hb4.size
    have hb : Below w.heap.size w w5 := (((hb1.trans (hb2.mono (by omega))).trans (hb3.mono (by omega))).trans (hb4.mono (by omega))).trans (hb5.mono (by omega))
    clear hb1 hb2 hb3 hb4 hb5
    go_wp2_with fail
    go_ret
    exact ⟨rfl, hb⟩

/-! ### The row over the walk -/
theorem binomPlans_own : ownKnob Try.prog.godebug = none := by kernel_rfl

set_option maxRecDepth 100000 in
theorem binomPlans_lifted (os : Os) (started : os.Started) (H : Type) (enc : TypeId × Value → H) :
    ReturnsInHanded {} Try.checked os 3 .any (Rows.binomPlansSpec.pre6 enc Try.prog Try.f3 Rows.binomPlansRow.domain false) (Rows.binomPlansSpec.post enc Try.prog Try.f3 false true false false) := by
  refine returnsInHanded_of_change (C := Try.checked) binomPlans_own started (by kernel_rfl) Try.func3
    (ChangeSpec.witness6 (enc := enc) (C := Try.checked) false ⟨#[], #[.int .i64 0, .int .i64 0], []⟩ 8 (by kernel_rfl) (by kernel_rfl) (by kernel_rfl) (by kernel_rfl)) ?_
  intro W base args ds gs before hval0 hW hcnd _
  have hval : ∀ (j : Nat) t v, Try.f3.params[j]? = some t → args[j]? = some v → Value.okWide Try.prog W .any base t v := hval0
  have hW' := hW
  obtain ⟨p, q, hA0, hV, rfl, hfz, hnd⟩ := hW
  have hA : DataW.TrodAll enc Try.prog W 0 (fun _ => true) true Try.f3.params.toList args.toList ds p := hA0
  rw [Try.params3] at hA hval
  obtain ⟨v0, vs0, d0, ds0, p0, q0, hargs, rfl, rfl, h0, r0⟩ := trodAll_cons hA
  obtain ⟨v1, vs1, d1, ds1, p1, q1, rfl, rfl, rfl, h1, r1⟩ := trodAll_cons r0
  obtain ⟨rfl, rfl, rfl⟩ := trodAll_nil r1
  obtain rfl : args = #[v0, v1] := by cases args; simp_all
  obtain ⟨rfl, rfl⟩ := trodVars_none hV
  obtain ⟨a0, rfl, rfl, rfl, w0⟩ := open_int Try.underlying3 (hval 0 3 v0 rfl rfl) h0
  obtain ⟨a1, rfl, rfl, rfl, w1⟩ := open_int Try.underlying3 (hval 1 3 v1 rfl rfl) h1
  clear hA0 hval0
  simp only [List.append_nil] at hW'
  refine (binomPlans_walk a0 a1 w0 w1 W).mono fun e W' ⟨he, bel⟩ => ?_
  subst he
  exact ⟨_, rfl, _, _, _, [], [], [], hW', trodAll_mk1 (shut_bool Try.underlying4 _), (trodAll_cons_mk (shut_int Try.underlying3 w0) (trodAll_cons_mk (shut_int Try.underlying3 w1) trodAll_mk0)), rfl, bel.frame _, fun h => by cases h⟩

theorem binomPlans_over : Rows.binomPlansRow.holds Try.pinned (OpenSpec.ofChange Rows.binomPlansSpec) :=
  OpenClaim.holds_of_wide 3 Try.f3 rfl rfl rfl rfl rfl rfl rfl ⟨rfl, rfl, rfl, rfl, rfl⟩ rfl rfl rfl rfl rfl (by kernel_rfl) Try.func3 (by kernel_rfl)
    (of_decide_eq_true (by kernel_rfl)) (by unfold Func.isWrapper; first | (rw [if_pos (by decide +kernel)]; kernel_rfl) | (rw [if_neg (by decide +kernel)]; exact ⟨rfl, rfl⟩))
    (fun os started H enc _ => binomPlans_lifted os started H enc)

/-- THE STATEMENT. -/
theorem binomPlans_proved : Rows.BinomPlansSaid := binomPlans_over
#print axioms binomPlans_proved

end Go.Proofs.Ythbdhcbdhcgkfaa
