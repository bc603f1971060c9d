/- Proved: for every l and s the law BinomLeast returns true (Rows.BinomLeastSaid). No condition. -/
import Derived.Test.YthbdhcbdhcgkfaaWp
import Derived.WalkKit
import Derived.ProofKit
import Derived.OpenShut
import Derived.ChangeOld
import Derived.Below
namespace Go.Proofs.Ythbdhcbdhcgkfaa
open Go.ChangeShapes Go.WideShapes Go.ChangeAt Go.RowKit
set_option linter.unusedVariables false


set_option maxRecDepth 100000 in
set_option maxHeartbeats 1600000 in
theorem binomLeast_walk (a0 a1 : Int) (w0 : (Lit.int .i64 a0).wf = true) (w1 : (Lit.int .i64 a1).wf = true) (w : World) :
    Calls Try.prog 8 #[.int .i64 a0, .int .i64 a1] w fun e w' => e = .returned (.bool true) ∧ Below w.heap.size w w' := by
  clear w0 w1
  cases hin : insB a0 a1 with
  | false =>
    have H := Lib.hid hin
    clear hin
    go_enter Try.func8, Try.ntmps8
    go_wp2_with fail
    refine (Least_no _ _ _ H.out).mono ?_
    rintro e w' ⟨rfl, rfl⟩
    go_wp2_with fail
    refine (Split_out _ _ _ H.out).mono ?_
    rintro e w' ⟨rfl, rfl⟩
    go_wp2_with fail
    refine (in_no _ _ _ H.out).mono ?_
    rintro e w' ⟨rfl, rfl⟩
    go_wp2_with fail
    refine (awake_any _).mono ?_
    rintro e w5 ⟨rfl, hb5⟩
    go_wp2_with fail
    go_ret
    exact ⟨rfl, hb5⟩
  | true =>
    obtain ⟨b1, b2, b3, b4⟩ := insB_t hin
    have H := Lib.hid hin
    clear hin
    obtain ⟨l, rfl⟩ := Int.eq_ofNat_of_zero_le (show 0 ≤ a0 by omega)
    obtain ⟨s, rfl⟩ := Int.eq_ofNat_of_zero_le b3
    have hL : Hid (∀ w : World, Calls Try.prog 13 #[.int .i64 l, .int .i64 s] w fun e w' => e = .returned (.tuple #[.int .i64 (BM.T l s), .int .i64 0]) ∧ w = w') := fun w => by
      have := Least_yes l s w H.out
      rwa [Int.toNat_natCast, Int.toNat_natCast] at this
    have hS : Hid (∀ w : World, Calls Try.prog 19 #[.int .i64 l, .int .i64 s] w fun e w' => e = .returned (.tuple #[.int .i64 (if l = 1 then 0 else (BM.spl l s : Int)), .int .i64 (if l = 1 then 11 else 0)]) ∧ w = w') := fun w => by
      by_cases e : l = 1
      · subst e; exact Split_one s w H.out
      · simp only [e, if_false]; exact Split_yes l s _ _ w rfl rfl (by omega) (by omega) (by omega)
    by_cases c1 : 60 < (l : Int)
    · have hl1 : ¬ l = 1 := by omega
      simp only [hl1, if_false] at hS
      clear hl1
      go_enter Try.func8, Try.ntmps8
      go_wp2_with fail
      refine (hL.out _).mono ?_
      rintro e w' ⟨rfl, rfl⟩
      go_wp2_with fail
      refine (hS.out _).mono ?_
      rintro e w' ⟨rfl, rfl⟩
      go_wp2_with fail
      refine (in_yes _ _ _ H.out).mono ?_
      rintro e w' ⟨rfl, rfl⟩
      go_wp2_with fail
      refine (awake_any _).mono ?_
      rintro e w5 ⟨rfl, hb5⟩
      go_wp2_with fail
      go_ret
      exact ⟨rfl, hb5⟩
    by_cases c2 : 60 < (s : Int)
    · by_cases hl1 : l = 1
      · simp only [hl1, if_true] at hS
        subst hl1
        go_enter Try.func8, Try.ntmps8
        go_wp2_with fail
        refine (hL.out _).mono ?_
        rintro e w' ⟨rfl, rfl⟩
        go_wp2_with fail
        refine (hS.out _).mono ?_
        rintro e w' ⟨rfl, rfl⟩
        go_wp2_with fail
        refine (in_yes _ _ _ H.out).mono ?_
        rintro e w' ⟨rfl, rfl⟩
        go_wp2_with fail
        refine (awake_any _).mono ?_
        rintro e w5 ⟨rfl, hb5⟩
        go_wp2_with fail
        go_ret
        exact ⟨rfl, hb5⟩
      · simp only [hl1, if_false] at hS
        clear hl1
        go_enter Try.func8, Try.ntmps8
        go_wp2_with fail
        refine (hL.out _).mono ?_
        rintro e w' ⟨rfl, rfl⟩
        go_wp2_with fail
        refine (hS.out _).mono ?_
        rintro e w' ⟨rfl, rfl⟩
        go_wp2_with fail
        refine (in_yes _ _ _ H.out).mono ?_
        rintro e w' ⟨rfl, rfl⟩
        go_wp2_with fail
        refine (awake_any _).mono ?_
        rintro e w5 ⟨rfl, hb5⟩
        go_wp2_with fail
        go_ret
        exact ⟨rfl, hb5⟩
    have hTab := fun w => Table_any l s w (by omega) (by omega) (by omega)
    have HTAB := Lib.hid hTab
    clear hTab
    have i5 : (l : Int) < (l : Int) + 1 := by omega
    have i6 : (s : Int) < (s : Int) + 1 := by omega
    by_cases hl1 : l = 1
    · simp only [hl1, if_true] at hS
      subst hl1
      go_enter Try.func8, Try.ntmps8
      go_wp2_with fail
      refine (hL.out _).mono ?_
      rintro e w' ⟨rfl, rfl⟩
      go_wp2_with fail
      refine (hS.out _).mono ?_
      rintro e w' ⟨rfl, rfl⟩
      go_wp2_with fail
      refine (in_yes _ _ _ H.out).mono ?_
      rintro e w' ⟨rfl, rfl⟩
      go_wp2_with fail
      refine (HTAB.out _).mono ?_
      rintro e w1 ⟨rfl, hT, hb1, hz⟩
      have q5 := hT.sl (Nat.le_refl 1)
      have q6 := hT.at (Nat.le_refl 1) (Nat.le_refl s)
      go_wp2_with fail
      refine (awake_any _).mono ?_
      rintro e w5 ⟨rfl, hb5⟩
      have hb : Below w.heap.size w w5 := hb1.trans (hb5.mono hb1.size)
      clear hb1 hb5 hT q5 q6
      go_wp2_with fail
      go_ret
      exact ⟨rfl, hb⟩
    · simp only [hl1, if_false] at hS
      have hl2 : 2 ≤ l := by omega
      have e1 : ((l : Int) == 1) = false := by simp; omega
      clear hl1
      go_enter Try.func8, Try.ntmps8
      go_wp2_with fail
      refine (hL.out _).mono ?_
      rintro e w' ⟨rfl, rfl⟩
      go_wp2_with fail
      refine (hS.out _).mono ?_
      rintro e w' ⟨rfl, rfl⟩
      go_wp2_with fail
      refine (in_yes _ _ _ H.out).mono ?_
      rintro e w' ⟨rfl, rfl⟩
      go_wp2_with fail
      refine (HTAB.out _).mono ?_
      rintro e w1 ⟨rfl, hT, hb1, hz⟩
      have q5 := hT.sl (Nat.le_refl l)
      have q6 := hT.at (Nat.le_refl l) (Nat.le_refl s)
      go_wp2_with fail
      refine (refSplit_any _ l s _ hT hl2 (by omega) (by omega)).mono ?_
      rintro e w2 ⟨rfl, hb2⟩
      go_wp2_with fail
      refine (awake_any _).mono ?_
      rintro e w5 ⟨rfl, hb5⟩
      have s1 := hb1.size
      have s2 := hb2.size
      have hb : Below w.heap.size w w5 := (hb1.trans (hb2.mono (by omega))).trans (hb5.mono (by omega))
      clear hb1 hb2 hb5 hT q5 q6
      go_wp2_with fail
      go_ret
      exact ⟨rfl, hb⟩

/-! ### The row over the walk -/
theorem binomLeast_own : ownKnob Try.prog.godebug = none := by kernel_rfl

set_option maxRecDepth 100000 in
theorem binomLeast_lifted (os : Os) (started : os.Started) (H : Type) (enc : TypeId × Value → H) :
    ReturnsInHanded {} Try.checked os 8 .any (Rows.binomLeastSpec.pre6 enc Try.prog Try.f8 Rows.binomLeastRow.domain false) (Rows.binomLeastSpec.post enc Try.prog Try.f8 false true false false) := by
  refine returnsInHanded_of_change (C := Try.checked) binomLeast_own started (by kernel_rfl) Try.func8
    (ChangeSpec.witness6 (enc := enc) (C := Try.checked) false ⟨#[], #[.int .i64 0, .int .i64 0], []⟩ 8 (by kernel_rfl) (by kernel_rfl) (by kernel_rfl) (by kernel_rfl)) ?_
  intro W base args ds gs before hval0 hW hcnd _
  have hval : ∀ (j : Nat) t v, Try.f8.params[j]? = some t → args[j]? = some v → Value.okWide Try.prog W .any base t v := hval0
  have hW' := hW
  obtain ⟨p, q, hA0, hV, rfl, hfz, hnd⟩ := hW
  have hA : DataW.TrodAll enc Try.prog W 0 (fun _ => true) true Try.f8.params.toList args.toList ds p := hA0
  rw [Try.params8] at hA hval
  obtain ⟨v0, vs0, d0, ds0, p0, q0, hargs, rfl, rfl, h0, r0⟩ := trodAll_cons hA
  obtain ⟨v1, vs1, d1, ds1, p1, q1, rfl, rfl, rfl, h1, r1⟩ := trodAll_cons r0
  obtain ⟨rfl, rfl, rfl⟩ := trodAll_nil r1
  obtain rfl : args = #[v0, v1] := by cases args; simp_all
  obtain ⟨rfl, rfl⟩ := trodVars_none hV
  obtain ⟨a0, rfl, rfl, rfl, w0⟩ := open_int Try.underlying3 (hval 0 3 v0 rfl rfl) h0
  obtain ⟨a1, rfl, rfl, rfl, w1⟩ := open_int Try.underlying3 (hval 1 3 v1 rfl rfl) h1
  clear hA0 hval0
  simp only [List.append_nil] at hW'
  refine (binomLeast_walk a0 a1 w0 w1 W).mono fun e W' ⟨he, bel⟩ => ?_
  subst he
  exact ⟨_, rfl, _, _, _, [], [], [], hW', trodAll_mk1 (shut_bool Try.underlying4 _), (trodAll_cons_mk (shut_int Try.underlying3 w0) (trodAll_cons_mk (shut_int Try.underlying3 w1) trodAll_mk0)), rfl, bel.frame _, fun h => by cases h⟩

theorem binomLeast_over : Rows.binomLeastRow.holds Try.pinned (OpenSpec.ofChange Rows.binomLeastSpec) :=
  OpenClaim.holds_of_wide 8 Try.f8 rfl rfl rfl rfl rfl rfl rfl ⟨rfl, rfl, rfl, rfl, rfl⟩ rfl rfl rfl rfl rfl (by kernel_rfl) Try.func8 (by kernel_rfl)
    (of_decide_eq_true (by kernel_rfl)) (by unfold Func.isWrapper; first | (rw [if_pos (by decide +kernel)]; kernel_rfl) | (rw [if_neg (by decide +kernel)]; exact ⟨rfl, rfl⟩))
    (fun os started H enc _ => binomLeast_lifted os started H enc)

/-- THE STATEMENT. -/
theorem binomLeast_proved : Rows.BinomLeastSaid := binomLeast_over
#print axioms binomLeast_proved

end Go.Proofs.Ythbdhcbdhcgkfaa
