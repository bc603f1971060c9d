/- Proved: for every list the law OrderInverts returns true, on every schedule (Rows.OrderInvertsSaid). No condition. -/
import Derived.Test.YtminoelijdpmeaaQa
import Derived.Test.YtminoelijdpmeaaOj
namespace Go.Proofs.Ytminoelijdpmeaa
open Go.ChangeShapes Go.WideShapes Go.ChangeAt Go.RowKit Go.Conc Lift
set_option linter.unusedVariables false

set_option maxRecDepth 100000 in
set_option maxHeartbeats 1600000 in
theorem inverts_walk (v : Value) (L : List Int) (w : World) (hL : Reads .i64 v L w) :
    Calls Tw 4 #[v] w fun e w' => e = .returned (.bool true) ∧ Below w.heap.size w w' := by
  obtain ⟨b, c, hv, hb⟩ := hL.parts
  have HL := Lib.hid hL
  clear hL
  obtain ⟨n, hN⟩ : ∃ n, n = L.length := ⟨_, rfl⟩
  rw [← hN] at hv hb
  have HN := Lib.hid hN
  have HB := Lib.hid hb
  clear hN hb
  subst hv
  by_cases h1 : 200 < n
  · have t1 : 200 < (n : Int) := by omega
    go_enter Tw.func4, Try.ntmps4
    go_wp2_with fail
    refine (awake_any _).mono ?_
    rintro e w1 ⟨rfl, hb1⟩
    go_wp2_with fail
    go_ret
    exact ⟨rfl, hb1⟩
  have t1 : ¬ 200 < (n : Int) := by omega
  have hlen : L.length ≤ 200 := by have := HN.out; omega
  go_enter Tw.func4, Try.ntmps4
  go_wp2_with fail
  refine (invert_any _ L _ (by omega) HL.out).mono ?_
  rintro e w1 ⟨⟨hwh, rfl, hR1, hs1⟩ | ⟨hwh, rfl⟩, hB1⟩
  · have HR1 := Lib.hid hR1
    have HWH := Lib.hid hwh
    have hwb : wholeB L = true := wholeB_t.2 hwh
    have HWB := Lib.hid hwb
    clear hR1 hwh hwb
    have hlN : L.length = n := HN.out.symm
    rw [hlN]
    clear hlN
    go_wp2_with fail
    refine (whole_any _ L _ (by omega) (HL.out.below (Nat.le_refl _) hB1)).mono ?_
    rw [HWB.out]
    rintro e w2 ⟨rfl, rfl⟩
    go_wp2_with fail
    go_loop [42] (fun x => ∃ k : Nat, k ≤ n ∧ x = .int .i64 k) (fun x => n - (intOf x).toNat)
    case atStart => exact ⟨0, by omega, rfl⟩
    case round =>
      obtain ⟨k, hk, rfl⟩ := hrel
      by_cases hlt : k < n
      · have t2 : (k : Int) < (n : Int) := by omega
        obtain ⟨g, off, rfl, hg, hc⟩ := HB.out (by omega)
        have hkl : k < L.length := by have := HN.out; omega
        obtain ⟨x, hx⟩ : ∃ x, L[k]? = some x := ⟨_, List.getElem?_eq_getElem hkl⟩
        have q0 : w1.cell? ⟨g, off + k, none⟩ = some (.int .i64 x) := by rw [hB1.cell hg]; exact hc k x hx
        have hf := fine_of_whole HWH.out
        obtain ⟨x0, x1⟩ := hf.1 x (List.mem_of_getElem? hx)
        have hat := invL_at hf hx
        obtain ⟨t, rfl⟩ : ∃ t : Nat, x = (t : Int) := ⟨x.toNat, by omega⟩
        simp only [Int.toNat_natCast] at hat
        have q1 := HR1.out.cell hat
        have t3 : (t : Int) < (n : Int) := by have := HN.out; omega
        clear hc hx hf hat x0 x1
        go_wp2_with fail
        go_round
        case rel => exact ⟨k + 1, by omega, by go_num⟩
        case measure => simp [intOf]; omega
      · obtain rfl : k = n := by omega
        have t2 : ¬ (k : Int) < (k : Int) := by omega
        go_wp2_with fail
        have hil : (invL L).length = k := by rw [invL_length]; exact HN.out.symm
        have hrd : Reads .i64 (.slice (some ⟨w.heap.size, 0, none⟩) k k) (invL L) w1 := by
          have := HR1.out.reads
          rwa [hil] at this
        refine (invert_any _ (invL L) _ (by omega) hrd).mono ?_
        rintro e w2 ⟨⟨_, rfl, hR2, hs2⟩ | ⟨h, _⟩, hB2⟩
        · rw [invL_invL HWH.out] at hR2
          rw [hil]
          have HR2 := Lib.hid hR2
          clear hR2 hil hrd
          go_wp2_with fail
          refine (same_t _ _ L _ (by omega) ?_ ((HL.out.below (Nat.le_refl _) hB1).below (Nat.le_refl _) hB2)).mono ?_
          · have := HR2.out.reads
            rwa [← HN.out] at this
          rintro e w3 ⟨rfl, m3, rfl⟩
          go_wp2_with fail
          refine (awake_any _).mono ?_
          rintro e w4 ⟨rfl, hb4⟩
          go_wp2_with fail
          go_ret
          exact ⟨rfl, (below_drewN (hB1.trans (hB2.mono (by omega))) m3).trans (hb4.mono (by simp; omega))⟩
        · exact absurd (invL_whole HWH.out) h
  · have hwb : wholeB L = false := by
      cases h : wholeB L with
      | false => rfl
      | true => exact absurd (wholeB_t.1 h) hwh
    have HWB := Lib.hid hwb
    have hsz := hB1.size
    clear hwb hwh
    go_wp2_with fail
    refine (whole_any _ L _ (by omega) (HL.out.below (Nat.le_refl _) hB1)).mono ?_
    rw [HWB.out]
    rintro e w2 ⟨rfl, rfl⟩
    go_wp2_with fail
    refine (awake_any _).mono ?_
    rintro e w4 ⟨rfl, hb4⟩
    go_wp2_with fail
    go_ret
    exact ⟨rfl, hB1.trans (hb4.mono hsz)⟩

/-! ### The row over the walk -/
set_option maxRecDepth 100000 in
theorem orderInverts_lifted (os : Os) (started : os.Started) (H : Type) (enc : TypeId × Value → H) :
    ReturnsInLeavingWide {} Try.checked os 4 .any (Rows.orderInvertsSpec.pre6 enc Try.prog Try.f4 Rows.orderInvertsRow.domain false) (Rows.orderInvertsSpec.post enc Try.prog Try.f4 false true false false) := by
  refine returnsInLeavingWide_of_change_sized (C := Try.checked) Try.own started Try.func4
    (ChangeSpec.witness6 (enc := enc) (C := Try.checked) false ⟨#[], #[.slice none 0 0], []⟩ 8 (by kernel_rfl) (by kernel_rfl) (by kernel_rfl) (by kernel_rfl)) ?_
  intro W base args ds gs before hval0 hW _ _ _
  have hval : ∀ (j : Nat) t v, Try.f4.params[j]? = some t → args[j]? = some v → Value.okWide Try.prog W .any base t v := hval0
  have hW' := hW
  obtain ⟨p, q, hA0, hV, rfl, _, _⟩ := hW
  have hA : DataW.TrodAll enc Try.prog W 0 (fun _ => true) true Try.f4.params.toList args.toList ds p := hA0
  rw [Try.params4] at hA hval
  obtain ⟨v0, vs0, d0, ds0, p0, q0, hargs, rfl, rfl, h0, r0⟩ := trodAll_cons hA
  obtain ⟨rfl, rfl, rfl⟩ := trodAll_nil r0
  obtain rfl : args = #[v0] := by cases args; simp_all
  obtain ⟨rfl, rfl⟩ := trodVars_none hV
  obtain ⟨ad0, len0, cap0, rfl⟩ := okWide_slice Try.underlying24 (hval 0 24 v0 rfl rfl)
  have k0 := h0
  have lt0 : ∀ x ∈ p0, x.block < W.heap.size := by obtain ⟨m, hm⟩ := k0; exact DataW.trod_lt m _ _ _ hm
  obtain ⟨L0, hrd0, _, hwf0⟩ := reads_of Try.underlying24 Try.underlying3 Try.cells3 h0
  clear hA0 hval0
  obtain ⟨M, last, o, w', t', e1, e2, e3, e4⟩ := law_run (f := 4) (args := #[.slice ad0 len0 cap0]) (W := W) (by kernel_rfl) rfl (by decide) (fun τ e => inverts_walk _ L0 (re W τ e) hrd0)
  refine ⟨M, last, o, w', t', e1, e2, e3, e4.mono fun v hF => ?_⟩
  obtain ⟨rfl, bel⟩ := hF
  exact ⟨_, _, _, [], _, [], hW', trodAll_mk1 (shut_bool Try.underlying4 _), (trodAll_cons_mk (Below.trod Try.laidOut (by kernel_rfl) (of_decide_eq_true (by kernel_rfl)) k0 bel lt0) trodAll_mk0), rfl, bel.frame _, fun h => by cases h⟩

/-- THE STATEMENT. -/
theorem orderInverts_proved : Rows.OrderInvertsSaid :=
  OpenClaim.holds_of_wide_leaving 4 Try.f4 rfl rfl rfl rfl rfl rfl rfl ⟨rfl, rfl, rfl, rfl, rfl⟩ rfl rfl rfl rfl rfl (by kernel_rfl) Try.func4 (by kernel_rfl)
    (of_decide_eq_true (by kernel_rfl)) (by unfold Func.isWrapper; first | (rw [if_pos (by decide +kernel)]; kernel_rfl) | (rw [if_neg (by decide +kernel)]; exact ⟨rfl, rfl⟩))
    (fun os started H enc _ => orderInverts_lifted os started H enc)
#print axioms orderInverts_proved
end Go.Proofs.Ytminoelijdpmeaa
