/- Proved: for every s and r the law BinomReaches returns true (Rows.BinomReachesSaid). No condition. -/
import Derived.Test.YthbdhcbdhcgkfaaWl
import Derived.WalkKit
import Derived.ProofKit
import Derived.OpenShut
import Derived.ChangeOld
import Derived.Below
namespace Go.Proofs.Ythbdhcbdhcgkfaa
open Go.ChangeShapes Go.WideShapes Go.ChangeAt Go.RowKit
set_option linter.unusedVariables false

set_option maxHeartbeats 400000 in
theorem reach_yes5 (s r : Nat) (S R : Int) (w : World) (hS : S = s) (hR : R = r) (h1 : s ≤ 4999) (h2 : r ≤ 5000) :
    Calls Try.prog 18 #[.int .i64 S, .int .i64 R] w fun e w' => e = .returned (choW (s + r + 1) (s + 1)) ∧ w = w' := by
  have b1 : 0 ≤ S := by omega
  have b2 : S ≤ 4999 := by omega
  have b3 : 0 ≤ R := by omega
  have b4 : R ≤ 5000 := by omega
  have HS := Lib.hid hS
  have HR := Lib.hid hR
  clear hS hR
  have hsplit : (∃ x y : Int, choW (s + r + 1) (s + 1) = .tuple #[.int .i64 x, .int .i64 y]) := by
    unfold choW; split <;> exact ⟨_, _, rfl⟩
  obtain ⟨x, y, hxy⟩ := hsplit
  have HX := Lib.hid hxy
  clear hxy
  go_enter Try.func18, Try.ntmps18
  go_wp2_with (go_at_call 16; refine (choose_yes (s + r + 1) (s + 1) _ _ _ (by have := HS.out; have := HR.out; omega) (by have := HS.out; omega) (by omega) (by omega)).mono ?_; rw [HX.out]; rintro e w' ⟨rfl, rfl⟩)
  go_ret2
  exact ⟨by rw [HX.out]; rfl, rfl⟩


theorem cho_two (n k : Nat) : (BM.pa n k ≤ 1099511627776 ∧ choW n k = .tuple #[.int .i64 (BM.pa n k), .int .i64 0] ∧ cp n k = BM.pa n k) ∨ (1099511627776 < BM.pa n k ∧ choW n k = .tuple #[.int .i64 0, .int .i64 17] ∧ cp n k = 1099511627777) := by
  by_cases h : BM.pa n k ≤ 1099511627776
  · exact .inl ⟨h, if_pos h, by unfold cp; omega⟩
  · exact .inr ⟨by omega, if_neg h, by unfold cp; omega⟩

set_option maxRecDepth 100000 in
set_option maxHeartbeats 1600000 in
theorem binomReaches_walk (a0 a1 : Int) (w0 : (Lit.int .i64 a0).wf = true) (w1 : (Lit.int .i64 a1).wf = true) (w : World) :
    Calls Try.prog 7 #[.int .i64 a0, .int .i64 a1] w fun e w' => e = .returned (.bool true) ∧ Below w.heap.size w w' := by
  clear w0 w1
  by_cases hin : 0 ≤ a0 ∧ a0 ≤ 5000 ∧ 0 ≤ a1 ∧ a1 ≤ 5000
  · obtain ⟨b1, b2, b3, b4⟩ := hin
    obtain ⟨s, rfl⟩ := Int.eq_ofNat_of_zero_le b1
    obtain ⟨r, rfl⟩ := Int.eq_ofNat_of_zero_le b3
    by_cases hbig : 300 < (s : Int) + (r : Int) + 1
    · by_cases hedge : s = 5000 ∧ r = 5000
      · obtain ⟨rfl, rfl⟩ := hedge
        go_enter Try.func7, Try.ntmps7
        go_wp2_with fail
        refine (reach_edge _ _ _ rfl rfl).mono ?_
        rintro e w' ⟨rfl, rfl⟩
        go_wp2_with fail
        refine (awake_any _).mono ?_
        rintro e w' ⟨rfl, hb⟩
        go_wp2_with fail
        go_ret
        exact ⟨rfl, hb⟩
      · have hC : Hid (∀ w : World, Calls Try.prog 18 #[.int .i64 s, .int .i64 r] w fun e w' => e = .returned (choW (s + r + 1) (s + 1)) ∧ w = w') := by
          intro w
          by_cases h5 : r ≤ 4999
          · exact reach_yes s r _ _ w rfl rfl (by omega) h5
          · -- r = 5000, s < 5000
            exact reach_yes5 s r _ _ w rfl rfl (by omega) (by omega)
        clear hedge
        rcases cho_two (s + r + 1) (s + 1) with ⟨_, e1, _⟩ | ⟨_, e1, _⟩
        all_goals
          have E1 := Lib.hid e1
          clear e1
          go_enter Try.func7, Try.ntmps7
          go_wp2_with fail
          refine (hC.out _).mono ?_
          rw [E1.out]
          rintro e w' ⟨rfl, rfl⟩
          go_wp2_with fail
          refine (awake_any _).mono ?_
          rintro e w' ⟨rfl, hb⟩
          go_wp2_with fail
          go_ret
          exact ⟨rfl, hb⟩
    · rcases cho_two (s + r + 1) (s + 1) with ⟨hsm, e1, e2⟩ | ⟨hsm, e1, e2⟩
      · have E1 := Lib.hid e1
        have E2 := Lib.hid e2
        clear e1 e2
        have t1 : ¬ 1099511627776 < (BM.pa (s + r + 1) (s + 1) : Int) := by omega
        generalize BM.pa (s + r + 1) (s + 1) = P at *
        go_enter Try.func7, Try.ntmps7
        go_wp2_with fail
        refine (reach_yes s r _ _ _ rfl rfl (by omega) (by omega)).mono ?_
        rw [E1.out]
        rintro e w' ⟨rfl, rfl⟩
        go_wp2_with fail
        refine (refChoose_yes (s + r + 1) (s + 1) _ _ _ (by omega) (by omega) (by omega) (by omega)).mono ?_
        rw [E2.out]
        rintro e w1 ⟨rfl, hb1⟩
        go_wp2_with fail
        refine (awake_any _).mono ?_
        rintro e w2 ⟨rfl, hb2⟩
        go_wp2_with fail
        go_ret
        exact ⟨rfl, hb1.trans (hb2.mono hb1.size)⟩
      · have E1 := Lib.hid e1
        have E2 := Lib.hid e2
        clear e1 e2
        go_enter Try.func7, Try.ntmps7
        go_wp2_with fail
        refine (reach_yes s r _ _ _ rfl rfl (by omega) (by omega)).mono ?_
        rw [E1.out]
        rintro e w' ⟨rfl, rfl⟩
        go_wp2_with fail
        refine (refChoose_yes (s + r + 1) (s + 1) _ _ _ (by omega) (by omega) (by omega) (by omega)).mono ?_
        rw [E2.out]
        rintro e w1 ⟨rfl, hb1⟩
        go_wp2_with fail
        refine (awake_any _).mono ?_
        rintro e w2 ⟨rfl, hb2⟩
        go_wp2_with fail
        go_ret
        exact ⟨rfl, hb1.trans (hb2.mono hb1.size)⟩
  · have H := Lib.hid hin
    by_cases h1 : a0 < 0
    · clear hin
      go_enter Try.func7, Try.ntmps7
      go_wp2_with fail
      refine (reach_no _ _ _ H.out).mono ?_
      rintro e w' ⟨rfl, rfl⟩
      go_wp2_with fail
      refine (awake_any _).mono ?_
      rintro e w' ⟨rfl, hb⟩
      go_wp2_with fail
      go_ret
      exact ⟨rfl, hb⟩
    · by_cases h2 : 5000 < a0
      · clear hin
        go_enter Try.func7, Try.ntmps7
        go_wp2_with fail
        refine (reach_no _ _ _ H.out).mono ?_
        rintro e w' ⟨rfl, rfl⟩
        go_wp2_with fail
        refine (awake_any _).mono ?_
        rintro e w' ⟨rfl, hb⟩
        go_wp2_with fail
        go_ret
        exact ⟨rfl, hb⟩
      · by_cases h3 : a1 < 0
        · clear hin
          go_enter Try.func7, Try.ntmps7
          go_wp2_with fail
          refine (reach_no _ _ _ H.out).mono ?_
          rintro e w' ⟨rfl, rfl⟩
          go_wp2_with fail
          refine (awake_any _).mono ?_
          rintro e w' ⟨rfl, hb⟩
          go_wp2_with fail
          go_ret
          exact ⟨rfl, hb⟩
        · have h4 : 5000 < a1 := by omega
          clear hin
          go_enter Try.func7, Try.ntmps7
          go_wp2_with fail
          refine (reach_no _ _ _ H.out).mono ?_
          rintro e w' ⟨rfl, rfl⟩
          go_wp2_with fail
          refine (awake_any _).mono ?_
          rintro e w' ⟨rfl, hb⟩
          go_wp2_with fail
          go_ret
          exact ⟨rfl, hb⟩

/-! ### The row over the walk -/
theorem binomReaches_own : ownKnob Try.prog.godebug = none := by kernel_rfl

set_option maxRecDepth 100000 in
theorem binomReaches_lifted (os : Os) (started : os.Started) (H : Type) (enc : TypeId × Value → H) :
    ReturnsInHanded {} Try.checked os 7 .any (Rows.binomReachesSpec.pre6 enc Try.prog Try.f7 Rows.binomReachesRow.domain false) (Rows.binomReachesSpec.post enc Try.prog Try.f7 false true false false) := by
  refine returnsInHanded_of_change (C := Try.checked) binomReaches_own started (by kernel_rfl) Try.func7
    (ChangeSpec.witness6 (enc := enc) (C := Try.checked) false ⟨#[], #[.int .i64 0, .int .i64 0], []⟩ 8 (by kernel_rfl) (by kernel_rfl) (by kernel_rfl) (by kernel_rfl)) ?_
  intro W base args ds gs before hval0 hW hcnd _
  have hval : ∀ (j : Nat) t v, Try.f7.params[j]? = some t → args[j]? = some v → Value.okWide Try.prog W .any base t v := hval0
  have hW' := hW
  obtain ⟨p, q, hA0, hV, rfl, hfz, hnd⟩ := hW
  have hA : DataW.TrodAll enc Try.prog W 0 (fun _ => true) true Try.f7.params.toList args.toList ds p := hA0
  rw [Try.params7] at hA hval
  obtain ⟨v0, vs0, d0, ds0, p0, q0, hargs, rfl, rfl, h0, r0⟩ := trodAll_cons hA
  obtain ⟨v1, vs1, d1, ds1, p1, q1, rfl, rfl, rfl, h1, r1⟩ := trodAll_cons r0
  obtain ⟨rfl, rfl, rfl⟩ := trodAll_nil r1
  obtain rfl : args = #[v0, v1] := by cases args; simp_all
  obtain ⟨rfl, rfl⟩ := trodVars_none hV
  obtain ⟨a0, rfl, rfl, rfl, w0⟩ := open_int Try.underlying3 (hval 0 3 v0 rfl rfl) h0
  obtain ⟨a1, rfl, rfl, rfl, w1⟩ := open_int Try.underlying3 (hval 1 3 v1 rfl rfl) h1
  clear hA0 hval0
  simp only [List.append_nil] at hW'
  refine (binomReaches_walk a0 a1 w0 w1 W).mono fun e W' ⟨he, bel⟩ => ?_
  subst he
  exact ⟨_, rfl, _, _, _, [], [], [], hW', trodAll_mk1 (shut_bool Try.underlying4 _), (trodAll_cons_mk (shut_int Try.underlying3 w0) (trodAll_cons_mk (shut_int Try.underlying3 w1) trodAll_mk0)), rfl, bel.frame _, fun h => by cases h⟩

theorem binomReaches_over : Rows.binomReachesRow.holds Try.pinned (OpenSpec.ofChange Rows.binomReachesSpec) :=
  OpenClaim.holds_of_wide 7 Try.f7 rfl rfl rfl rfl rfl rfl rfl ⟨rfl, rfl, rfl, rfl, rfl⟩ rfl rfl rfl rfl rfl (by kernel_rfl) Try.func7 (by kernel_rfl)
    (of_decide_eq_true (by kernel_rfl)) (by unfold Func.isWrapper; first | (rw [if_pos (by decide +kernel)]; kernel_rfl) | (rw [if_neg (by decide +kernel)]; exact ⟨rfl, rfl⟩))
    (fun os started H enc _ => binomReaches_lifted os started H enc)

/-- THE STATEMENT. -/
theorem binomReaches_proved : Rows.BinomReachesSaid := binomReaches_over
#print axioms binomReaches_proved

end Go.Proofs.Ythbdhcbdhcgkfaa
