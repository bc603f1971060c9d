/- Proved: for every n and draws the law OrderMixes returns true, on every schedule (Rows.OrderMixesSaid). No condition. -/
import Derived.Test.YtminoelijdpmeaaQa
import Derived.Test.YtminoelijdpmeaaOj
import Derived.Test.YtminoelijdpmeaaPb
namespace Go.Proofs.Ytminoelijdpmeaa
open Go.ChangeShapes Go.WideShapes Go.ChangeAt Go.RowKit Go.Conc Lift
set_option linter.unusedVariables false

set_option maxRecDepth 100000 in
set_option maxHeartbeats 1600000 in
theorem mixes_walk (n : Int) (v : Value) (D : List Int) (w : World) (hD : Reads .u64 v D w) (hw : ∀ x ∈ D, 0 ≤ x ∧ x < 18446744073709551616) :
    Calls Tw 3 #[.int .i64 n, v] w fun e w' => e = .returned (.bool true) ∧ Below w.heap.size w w' := by
  obtain ⟨b, c, hv, _⟩ := hD.parts
  have HD := Lib.hid hD
  have HW := Lib.hid hw
  clear hD hw
  obtain ⟨m, hM⟩ : ∃ m, m = D.length := ⟨_, rfl⟩
  rw [← hM] at hv
  have HM := Lib.hid hM
  have HV := Lib.hid hv
  clear hM
  by_cases h1 : 300 < n ∧ n ≤ 1024
  · obtain ⟨h1a, h1b⟩ := h1
    subst hv
    go_enter Tw.func3, Try.ntmps3
    go_wp2_with fail
    refine (awake_any _).mono ?_
    rintro e w1 ⟨rfl, hb1⟩
    go_wp2_with fail
    go_ret
    exact ⟨rfl, hb1⟩
  subst hv
  by_cases h2 : 400 < m
  · have t2 : 400 < (m : Int) := by omega
    by_cases h3 : 300 < n
    · have t3 : ¬ n ≤ 1024 := by omega
      go_enter Tw.func3, Try.ntmps3
      go_wp2_with fail
      refine (awake_any _).mono ?_
      rintro e w1 ⟨rfl, hb1⟩
      go_wp2_with fail
      go_ret
      exact ⟨rfl, hb1⟩
    · have t3 : ¬ 300 < n := by omega
      go_enter Tw.func3, Try.ntmps3
      go_wp2_with fail
      refine (awake_any _).mono ?_
      rintro e w1 ⟨rfl, hb1⟩
      go_wp2_with fail
      go_ret
      exact ⟨rfl, hb1⟩
  have t2 : ¬ 400 < (m : Int) := by omega
  by_cases h4 : n < 0
  · have t3 : ¬ 300 < n := by omega
    have HH := Lib.hid (show n < 0 ∨ 1024 < n from .inl h4)
    clear h1
    go_enter Tw.func3, Try.ntmps3
    go_wp2_with fail
    refine (mix_no n _ _ HH.out).mono ?_
    rintro e w1 ⟨rfl, rfl⟩
    go_wp2_with fail
    refine (awake_any _).mono ?_
    rintro e w1 ⟨rfl, hb1⟩
    go_wp2_with fail
    go_ret
    exact ⟨rfl, hb1⟩
  by_cases h5 : 1024 < n
  · have t3 : 300 < n := by omega
    have t4 : ¬ n ≤ 1024 := by omega
    have HH := Lib.hid (show n < 0 ∨ 1024 < n from .inr h5)
    clear h1
    go_enter Tw.func3, Try.ntmps3
    go_wp2_with fail
    refine (mix_no n _ _ HH.out).mono ?_
    rintro e w1 ⟨rfl, rfl⟩
    go_wp2_with fail
    refine (awake_any _).mono ?_
    rintro e w1 ⟨rfl, hb1⟩
    go_wp2_with fail
    go_ret
    exact ⟨rfl, hb1⟩
  obtain ⟨k, rfl⟩ : ∃ k : Nat, n = k := ⟨n.toNat, by omega⟩
  have t3 : ¬ 300 < (k : Int) := by omega
  have hk : k ≤ 300 := by omega
  have hd : D.length ≤ 400 := by have := HM.out; omega
  clear h1 h5
  rcases Nat.eq_zero_or_pos k with rfl | hk0
  · go_enter Tw.func3, Try.ntmps3
    go_wp2_with fail
    refine (mix_zero _ _).mono ?_
    rintro e w1 ⟨rfl, hR1, hB1, hs1⟩
    go_wp2_with fail
    refine (rmix_zero _ _).mono ?_
    rintro e w2 ⟨rfl, rfl⟩
    go_wp2_with fail
    refine (same_t _ _ [] _ (by simp) (.inl ⟨rfl, _, _, rfl⟩) (.inl ⟨rfl, _, _, rfl⟩)).mono ?_
    rintro e w3 ⟨rfl, m3, rfl⟩
    go_wp2_with fail
    refine (whole_any _ [] _ (by simp) (.inl ⟨rfl, _, _, rfl⟩)).mono ?_
    rw [show wholeB [] = true from rfl]
    rintro e w4 ⟨rfl, rfl⟩
    go_wp2_with fail
    refine (need_any 0 _ (by omega) (by omega)).mono ?_
    rintro e w5 ⟨rfl, rfl⟩
    go_wp2_with fail
    refine (awake_any _).mono ?_
    rintro e w6 ⟨rfl, hb6⟩
    go_wp2_with fail
    go_ret
    exact ⟨rfl, (below_drewN hB1 _).trans (hb6.mono (by simp; omega))⟩
  · have hz : (k : Int) ≠ 0 := by omega
    have HWH := Lib.hid (mixL_whole k D)
    go_enter Tw.func3, Try.ntmps3
    go_wp2_with fail
    refine (mix_yes k _ D _ (by omega) (by omega) (by omega) HD.out HW.out).mono ?_
    rintro e w1 ⟨rfl, hR1, hB1, hs1⟩
    go_wp2_with fail
    refine (rmix_yes k _ D _ (by omega) (by omega) (by omega) (HD.out.below (Nat.le_refl _) hB1) HW.out).mono ?_
    rintro e w2 ⟨g, cap, rfl, hcap, hR2, hB2⟩
    have hs2 := hB2.size
    have hR1' := hR1.below (by omega) hB2
    go_wp2_with fail
    refine (same_t _ _ (mixL k D) _ (by rw [mixL_length]; omega) ?_ ?_).mono ?_
    · have := hR1'.reads
      rwa [mixL_length] at this
    · have := hR2.reads (cap := cap) (by rw [mixL_length]; exact hcap)
      rwa [mixL_length] at this
    rintro e w3 ⟨rfl, m3, rfl⟩
    go_wp2_with fail
    refine (whole_any _ (mixL k D) _ (by rw [mixL_length]; omega) ?_).mono ?_
    · have := (hR1'.drewN m3).reads
      rwa [mixL_length] at this
    rw [HWH.out]
    rintro e w4 ⟨rfl, rfl⟩
    go_wp2_with fail
    refine (need_any k _ (by omega) (by omega)).mono ?_
    rintro e w5 ⟨rfl, rfl⟩
    go_wp2_with fail
    refine (awake_any _).mono ?_
    rintro e w6 ⟨rfl, hb6⟩
    go_wp2_with fail
    go_ret
    exact ⟨rfl, ((hB1.trans (hB2.mono (by omega))) |> fun h => (below_drewN h m3).trans (hb6.mono (by simp; omega)))⟩

/-! ### The row over the walk -/
set_option maxRecDepth 100000 in
theorem orderMixes_lifted (os : Os) (started : os.Started) (H : Type) (enc : TypeId × Value → H) :
    ReturnsInLeavingWide {} Try.checked os 3 .any (Rows.orderMixesSpec.pre6 enc Try.prog Try.f3 Rows.orderMixesRow.domain false) (Rows.orderMixesSpec.post enc Try.prog Try.f3 false true false false) := by
  refine returnsInLeavingWide_of_change_sized (C := Try.checked) Try.own started Try.func3
    (ChangeSpec.witness6 (enc := enc) (C := Try.checked) false ⟨#[], #[.int .i64 0, .slice none 0 0], []⟩ 8 (by kernel_rfl) (by kernel_rfl) (by kernel_rfl) (by kernel_rfl)) ?_
  intro W base args ds gs before hval0 hW _ _ _
  have hval : ∀ (j : Nat) t v, Try.f3.params[j]? = some t → args[j]? = some v → Value.okWide Try.prog W .any base t v := hval0
  have hW' := hW
  obtain ⟨p, q, hA0, hV, rfl, _, _⟩ := hW
  have hA : DataW.TrodAll enc Try.prog W 0 (fun _ => true) true Try.f3.params.toList args.toList ds p := hA0
  rw [Try.params3] at hA hval
  obtain ⟨v0, vs0, d0, ds0, p0, q0, hargs, rfl, rfl, h0, r0⟩ := trodAll_cons hA
  obtain ⟨v1, vs1, d1, ds1, p1, q1, rfl, rfl, rfl, h1, r1⟩ := trodAll_cons r0
  obtain ⟨rfl, rfl, rfl⟩ := trodAll_nil r1
  obtain rfl : args = #[v0, v1] := by cases args; simp_all
  obtain ⟨rfl, rfl⟩ := trodVars_none hV
  obtain ⟨a0, rfl, rfl, rfl, w0⟩ := open_int Try.underlying3 (hval 0 3 v0 rfl rfl) h0
  obtain ⟨ad, len, cap, rfl⟩ := okWide_slice Try.underlying22 (hval 1 22 v1 rfl rfl)
  have k1 := h1
  have lt1 : ∀ x ∈ p1, x.block < W.heap.size := by obtain ⟨m, hm⟩ := k1; exact DataW.trod_lt m _ _ _ hm
  obtain ⟨D, hrd, _, hwf⟩ := reads_of Try.underlying22 Try.underlying41 Try.cells41 h1
  clear hA0 hval0
  obtain ⟨M, last, o, w', t', e1, e2, e3, e4⟩ := law_run (f := 3) (args := #[.int .i64 a0, .slice ad len cap]) (W := W) (by kernel_rfl) rfl (by decide) (fun τ e => mixes_walk a0 _ D (re W τ e) hrd (fun x hx => wf_u64 (hwf x hx)))
  refine ⟨M, last, o, w', t', e1, e2, e3, e4.mono fun v hF => ?_⟩
  obtain ⟨rfl, bel⟩ := hF
  exact ⟨_, _, _, [], _, [], hW', trodAll_mk1 (shut_bool Try.underlying4 _), (trodAll_cons_mk (shut_int Try.underlying3 w0) (trodAll_cons_mk (Below.trod Try.laidOut (by kernel_rfl) (of_decide_eq_true (by kernel_rfl)) k1 bel lt1) trodAll_mk0)), rfl, bel.frame _, fun h => by cases h⟩

/-- THE STATEMENT. -/
theorem orderMixes_proved : Rows.OrderMixesSaid :=
  OpenClaim.holds_of_wide_leaving 3 Try.f3 rfl rfl rfl rfl rfl rfl rfl ⟨rfl, rfl, rfl, rfl, rfl⟩ rfl rfl rfl rfl rfl (by kernel_rfl) Try.func3 (by kernel_rfl)
    (of_decide_eq_true (by kernel_rfl)) (by unfold Func.isWrapper; first | (rw [if_pos (by decide +kernel)]; kernel_rfl) | (rw [if_neg (by decide +kernel)]; exact ⟨rfl, rfl⟩))
    (fun os started H enc _ => orderMixes_lifted os started H enc)
#print axioms orderMixes_proved
end Go.Proofs.Ytminoelijdpmeaa
