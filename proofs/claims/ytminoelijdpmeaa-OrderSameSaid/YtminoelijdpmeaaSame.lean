/- Proved: for every n and draws the law OrderSame returns true, on every schedule (Rows.OrderSameSaid). No condition. -/
import Derived.Test.YtminoelijdpmeaaQa
import Derived.Test.YtminoelijdpmeaaOj
import Derived.Test.YtminoelijdpmeaaOk
import Derived.Test.YtminoelijdpmeaaPb
namespace Go.Proofs.Ytminoelijdpmeaa
open Go.ChangeShapes Go.WideShapes Go.ChangeAt Go.RowKit Go.Conc Lift
set_option linter.unusedVariables false

/-- Mix at any count in range. -/
theorem mix_any (n : Nat) (v : Value) (D : List Int) (w : World) (hn : n ≤ 1024) (hd : D.length ≤ 100000) (hD : Reads .u64 v D w) (hw : ∀ x ∈ D, 0 ≤ x ∧ x < 18446744073709551616) :
    Calls Tw 9 #[.int .i64 n, v] w fun e w' => e = .returned (.tuple #[.slice (some ⟨w.heap.size, 0, none⟩) n n, .int .i64 0]) ∧ RowAt w.heap.size (mixL n D) w' ∧ Below w.heap.size w w' ∧ w.heap.size < w'.heap.size := by
  rcases Nat.eq_zero_or_pos n with rfl | h
  · exact mix_zero v w
  · exact mix_yes n v D w h hn hd hD hw

/-- The draws with the missing noughts. -/
def padL (D : List Int) (j : Nat) : List Int := D ++ List.replicate j 0
theorem padL_succ (D : List Int) (j : Nat) : padL D (j + 1) = padL D j ++ [0] := by
  simp [padL, List.replicate_succ']
theorem padL_get (D : List Int) (j k : Nat) : (padL D j).getD k 0 = D.getD k 0 := by
  rw [List.getD_eq_getElem?_getD, List.getD_eq_getElem?_getD]
  unfold padL
  by_cases h : k < D.length
  · rw [List.getElem?_append_left h]
  · rw [List.getElem?_append_right (by omega), List.getElem?_eq_none (show D.length ≤ k by omega), List.getElem?_replicate]
    split <;> rfl
/-- The remainders of the first k draws. -/
def remL (n : Nat) (F : List Int) (k : Nat) : List Int := (List.range k).map fun t => F.getD t 0 % ((n : Int) - (t : Int))
theorem remL_succ (n : Nat) (F : List Int) (k : Nat) : remL n F (k + 1) = remL n F k ++ [F.getD k 0 % ((n : Int) - (k : Int))] := by simp [remL, List.range_succ]
theorem remL_length (n : Nat) (F : List Int) (k : Nat) : (remL n F k).length = k := by simp [remL]

theorem same_pad (n : Nat) (D : List Int) (j : Nat) : mixL n (padL D j) = mixL n D := mixL_congr n _ _ (fun k _ => by rw [padL_get])
theorem same_rem (n : Nat) (F : List Int) (hF : ∀ x ∈ F, 0 ≤ x) : mixL n (remL n F (min F.length n)) = mixL n F := by
  refine mixL_congr n _ _ (fun k hk => ?_)
  by_cases h : k < min F.length n
  · have e : (remL n F (min F.length n)).getD k 0 = F.getD k 0 % ((n : Int) - (k : Int)) := by
      rw [List.getD_eq_getElem?_getD]
      simp [remL, List.getElem?_range h]
    have h0 : 0 ≤ F.getD k 0 := by
      rw [List.getD_eq_getElem?_getD, List.getElem?_eq_getElem (show k < F.length by omega)]
      exact hF _ (by simp)
    rw [e]
    obtain ⟨m, hm⟩ : ∃ m : Nat, F.getD k 0 = m := ⟨(F.getD k 0).toNat, by omega⟩
    rw [hm]
    have e2 : (n : Int) - (k : Int) = ((n - k : Nat) : Int) := by omega
    rw [e2, ← Int.natCast_emod, Int.toNat_natCast, Int.toNat_natCast, Nat.mod_mod]
  · have e1 : (remL n F (min F.length n)).getD k 0 = 0 := by
      rw [List.getD_eq_getElem?_getD, List.getElem?_eq_none (by rw [remL_length]; omega)]; rfl
    have e2 : F.getD k 0 = 0 := by
      rw [List.getD_eq_getElem?_getD, List.getElem?_eq_none (by omega)]; rfl
    rw [e1, e2]

theorem pad_range {D : List Int} (h : ∀ x ∈ D, 0 ≤ x ∧ x < 18446744073709551616) (j : Nat) : ∀ x ∈ padL D j, 0 ≤ x ∧ x < 18446744073709551616 := by
  intro x hx
  rcases List.mem_append.1 hx with hx | hx
  · exact h x hx
  · have := (List.mem_replicate.1 hx).2; omega
theorem rem_range {n : Nat} {F : List Int} (h : ∀ x ∈ F, 0 ≤ x ∧ x < 18446744073709551616) {k : Nat} (hk : k ≤ n) (hn : n ≤ 1000) : ∀ x ∈ remL n F k, 0 ≤ x ∧ x < 18446744073709551616 := by
  intro x hx
  simp only [remL, List.mem_map, List.mem_range] at hx
  obtain ⟨t, ht, rfl⟩ := hx
  have h1 : 0 ≤ F.getD t 0 % ((n : Int) - (t : Int)) := Int.emod_nonneg _ (by omega)
  have h2 : F.getD t 0 % ((n : Int) - (t : Int)) < (n : Int) - (t : Int) := Int.emod_lt_of_pos _ (by omega)
  omega

theorem need_nat (k : Nat) (w : World) (hk : k ≤ 1000) : Calls Tw 13 #[.int .i64 k] w fun e w' => e = .returned (.int .i64 ((k - 1 : Nat) : Int)) ∧ w = w' := by
  refine (need_any k w (by omega) (by omega)).mono ?_
  rintro e w' ⟨rfl, rfl⟩
  exact ⟨by congr 2; omega, rfl⟩
theorem owns_u64' {w : World} {B q : Nat} {v : Value} {L : List Int} (h : w.ownsRow B 41 1 v q (u64V L)) (hq : q = L.length) : Reads .u64 v L w := owns_u64 (hq ▸ h)

set_option maxRecDepth 100000 in
set_option maxHeartbeats 3200000 in
theorem same_walk (n : Int) (v : Value) (D : List Int) (w : World) (hD : Reads .u64 v D w) (hw : ∀ x ∈ D, 0 ≤ x ∧ x < 18446744073709551616) :
    Calls Tw 7 #[.int .i64 n, v] w fun e w' => e = .returned (.bool true) ∧ Below w.heap.size w w' := by
  obtain ⟨b, c, hv, hprt⟩ := hD.parts
  clear hprt
  have HD := Lib.hid hD
  have HW := Lib.hid hw
  clear hD hw
  obtain ⟨m, hM⟩ : ∃ m, m = D.length := ⟨_, rfl⟩
  rw [← hM] at hv
  have HM := Lib.hid hM
  clear hM
  subst hv
  by_cases h1 : n < 0
  · go_enter Tw.func7, Try.ntmps7
    go_wp2_with fail
    refine (awake_any _).mono ?_
    rintro e w1 ⟨rfl, hb1⟩
    go_wp2_with fail
    go_ret
    exact ⟨rfl, hb1⟩
  by_cases h2 : 100 < n
  · go_enter Tw.func7, Try.ntmps7
    go_wp2_with fail
    refine (awake_any _).mono ?_
    rintro e w1 ⟨rfl, hb1⟩
    go_wp2_with fail
    go_ret
    exact ⟨rfl, hb1⟩
  by_cases h3 : 200 < m
  · have t3 : 200 < (m : Int) := by omega
    go_enter Tw.func7, Try.ntmps7
    go_wp2_with fail
    refine (awake_any _).mono ?_
    rintro e w1 ⟨rfl, hb1⟩
    go_wp2_with fail
    go_ret
    exact ⟨rfl, hb1⟩
  obtain ⟨k, rfl⟩ : ∃ k : Nat, n = k := ⟨n.toNat, by omega⟩
  have t3 : ¬ 200 < (m : Int) := by omega
  have hk : k ≤ 100 := by omega
  have hd : D.length ≤ 200 := by have := HM.out; omega
  obtain ⟨i0, hi, hz0, hz1, hz2⟩ := info_parts Tw.info41
  go_enter Tw.func7, Try.ntmps7
  go_wp2_with fail
  refine (mix_any k _ D _ (by omega) (by omega) HD.out HW.out).mono ?_
  rintro e w1 ⟨rfl, hR1, hB1, hs1⟩
  have HR1 := Lib.hid hR1
  clear hR1
  have hrd1 := HD.out.below (Nat.le_refl _) hB1
  have hown0 : (w1.alloc (.cells #[] 41)).ownsRow w1.heap.size 41 1 (.slice (some ⟨w1.heap.size, 0, none⟩) 0 0) 0 [] := ⟨rfl, .inr ⟨w1.heap.size, 0, #[], rfl, Nat.le_refl _, heap_alloc_new _ _, Nat.le_refl _, by unfold maxLen; omega, rfl, rfl⟩⟩
  have hba : Below w1.heap.size w1 (w1.alloc (.cells #[] 41)) := (Below.refl _ _).alloc (Nat.le_refl _) _
  go_wp2_with (at_builtin; refine wpList_append_reads _ rfl _ _ 22 rfl w1.heap.size 41 i0 _ Tw.und22 hi hz0 hz1 hz2 rfl _ _ _ rfl hown0 .u64 _ D rfl (hrd1.below (Nat.le_refl _) hba) ?c1 ?c2 ?_)
  case c1 => omega
  case c2 => simp
  intro u w2 hown2 hgrow2 _
  have hb2 : Below w1.heap.size w1 w2 := hba.grown hgrow2 (by simp) (fun q hq => by simp [Value.ownBlock] at hq; omega)
  have hown2' : w2.ownsRow w1.heap.size 41 1 u m (u64V (padL D 0)) := by
    have := HM.out
    simpa [padL, u64V, this] using hown2
  clear hown0 hba hgrow2 hown2 hrd1
  obtain ⟨b2, c2, rfl⟩ := owns_len hown2'
  have HO2 := Lib.hid hown2'
  clear hown2'
  obtain ⟨p, hp⟩ : ∃ p, p = k - 1 := ⟨_, rfl⟩
  have HP := Lib.hid hp
  have hp99 : p ≤ 99 := by omega
  clear hp
  go_wp2_with fail
  go_loopw [7] (fun u wr => ∃ j q : Nat, Hid (q = m + j) ∧ q ≤ 300 ∧ wr.ownsRow w1.heap.size 41 1 u q (u64V (padL D j)) ∧ Below w1.heap.size w1 wr) (fun u _ => p - lenOf u)
  case atStart => exact ⟨0, m, rfl, by omega, HO2.out, hb2⟩
  case round =>
    clear HO2 hb2
    obtain ⟨j, q, hq, hq2, hown, hB⟩ := hrel
    obtain ⟨bf, cf, rfl⟩ := owns_len hown
    have hsz := hB.size
    go_wp2_with fail
    refine (need_nat k _ (by omega)).mono ?_
    rw [← HP.out]
    rintro e w3 ⟨rfl, rfl⟩
    by_cases hlt : q < p
    · have t4 : (q : Int) < (p : Int) := by omega
      have t5 : (q : Int) < 300 := by omega
      go_wp2_with (at_builtin; refine wpList_append_own _ rfl _ _ 22 rfl w1.heap.size 41 i0 _ 1 8 Tw.und22 hi hz0 hz1 hz2 rfl (by decide) _ _ _ rfl (hown.alloc _) ⟨wr.heap.size, 0, none⟩ 1 1 [.int .u64 0] rfl rfl ?c1 ?c2 ?c3 ?c4 ?c5 ?_)
      case c1 =>
        intro j u hu
        match j with
        | 0 => simp at hu; subst hu; simp [Addr.add, World.cell?_alloc_new]
        | j + 1 => simp at hu
      case c2 => intro u hu; simp at hu; subst hu; rfl
      case c3 => unfold maxLen; omega
      case c4 => omega
      case c5 => simp; omega
      intro v' w4 hown4 hgrow4 _
      have hb4 : Below w1.heap.size w1 w4 := (hB.alloc hsz _).grown hgrow4 (by simp; omega) (fun q hq => (hown.lt q hq).1)
      have hown4' : w4.ownsRow w1.heap.size 41 1 v' (q + 1) (u64V (padL D (j + 1))) := by
        rw [padL_succ]; simpa [u64V] using hown4
      clear hown hgrow4 hown4 hB
      obtain ⟨b4, c4, rfl⟩ := owns_len hown4'
      have HO4 := Lib.hid hown4'
      clear hown4'
      go_wp2_with fail
      go_roundw
      case rel => exact ⟨j + 1, q + 1, by show q + 1 = m + (j + 1); rw [hq.out, Nat.add_assoc], by omega, HO4.out, hb4⟩
      case measure => simp [lenOf]; omega
    · have t4 : ¬ (q : Int) < (p : Int) := by omega
      have hqF : q = (padL D j).length := by have := HM.out; have := hq.out; simp [padL]; omega
      have HQF := Lib.hid hqF
      obtain ⟨F, hF⟩ : ∃ F, F = padL D j := ⟨_, rfl⟩
      have hrdF := owns_u64' hown hqF
      rw [← hF] at hrdF
      have HF := Lib.hid hF
      have HRF := Lib.hid hrdF
      clear hown hqF hF hrdF hlt
      have hFw : ∀ x ∈ F, 0 ≤ x ∧ x < 18446744073709551616 := by rw [HF.out]; exact pad_range HW.out j
      have hFl : F.length = q := by rw [HF.out, ← HQF.out]
      have HFW := Lib.hid hFw
      have HFL := Lib.hid hFl
      clear hFw hFl
      go_wp2_with fail
      refine (mix_any k _ F _ (by omega) (by have := HFL.out; omega) HRF.out HFW.out).mono ?_
      rintro e w3 ⟨rfl, hR3, hB3, hs3⟩
      have HR3 := Lib.hid hR3
      clear hR3
      have hrd3 := HRF.out.below (Nat.le_refl _) hB3
      have HRD3 := Lib.hid hrd3
      clear hrd3
      obtain ⟨wr0, rfl⟩ : ∃ w0 : World, w0 = wr := ⟨_, rfl⟩
      go_wp2_with fail
      go_loopw [10, 57] (fun u x wr => ∃ t r : Nat, t ≤ q ∧ Hid (r = min t k) ∧ x = .int .i64 t ∧ wr.ownsRow w3.heap.size 41 1 u r (u64V (remL k F r)) ∧ Below w3.heap.size w3 wr) (fun _ x _ => q - (intOf x).toNat)
      case atStart => exact ⟨0, 0, by omega, by simp [Hid], rfl, by simpa [remL, u64V] using World.ownsRow_nil _ _ _ _, Below.refl _ _⟩
      case round =>
        obtain ⟨t, r, ht, hr, rfl, hownE, hBE⟩ := hrel
        obtain ⟨bE, cE, rfl⟩ := owns_len hownE
        have hszE := hBE.size
        by_cases htq : t < q
        · have t6 : (t : Int) < (q : Int) := by omega
          have htF : t < F.length := by have := HFL.out; omega
          obtain ⟨d, hdt⟩ : ∃ d, F[t]? = some d := ⟨_, List.getElem?_eq_getElem htF⟩
          obtain ⟨d0, d1⟩ := HFW.out d (List.mem_of_getElem? hdt)
          have hrd4 := HRD3.out
          obtain ⟨b5, c5, e5, hprt⟩ := hrd4.parts
          obtain ⟨g, off, hbf, hg, hc⟩ := hprt (by omega)
          have e6 : bf = b5 := by injection e5
          rw [hbf] at e6
          subst e6
          have q0 : wr.cell? ⟨g, off + t, none⟩ = some (.int .u64 d) := by rw [hBE.cell hg]; exact hc t d hdt
          have hgd : F.getD t 0 = d := by rw [List.getD_eq_getElem?_getD, hdt]; rfl
          have HGD := Lib.hid hgd
          clear hrd4 hprt hc hdt e5 hbf hgd
          by_cases htk : t < k
          · have t7 : 0 < (k : Int) - (t : Int) := by omega
            have t8 : (k : Int) - (t : Int) ≤ 100 := by omega
            have hrt : r = t := by have := hr.out; omega
            have HRT := Lib.hid hrt
            have hr100 : r ≤ 100 := by omega
            clear hrt
            go_wp2_with (at_builtin; refine wpList_append_own _ rfl _ _ 22 rfl w3.heap.size 41 i0 _ 1 8 Tw.und22 hi hz0 hz1 hz2 rfl (by decide) _ _ _ rfl (hownE.alloc _) ⟨wr.heap.size, 0, none⟩ 1 1 [.int .u64 (d % ((k : Int) - (t : Int)))] rfl rfl ?c1 ?c2 ?c3 ?c4 ?c5 ?_)
            case c1 =>
              intro j u hu
              match j with
              | 0 => simp at hu; subst hu; simp [Addr.add, World.cell?_alloc_new]
              | j + 1 => simp at hu
            case c2 => intro u hu; simp at hu; subst hu; rfl
            case c3 => unfold maxLen; omega
            case c4 => omega
            case c5 => simp; omega
            intro v' w4 hown4 hgrow4 _
            have hb4 : Below w3.heap.size w3 w4 := (hBE.alloc hszE _).grown hgrow4 (by simp; omega) (fun q hq => (hownE.lt q hq).1)
            have hown4' : w4.ownsRow w3.heap.size 41 1 v' (r + 1) (u64V (remL k F (r + 1))) := by
              have e1 := HRT.out
              subst e1
              rw [remL_succ, HGD.out]; simpa [u64V] using hown4
            clear hownE hgrow4 hown4 hBE
            obtain ⟨b4, c4, rfl⟩ := owns_len hown4'
            have HO4 := Lib.hid hown4'
            clear hown4'
            go_wp2_with fail
            go_roundw
            case rel => exact ⟨t + 1, r + 1, by omega, by show r + 1 = min (t + 1) k; have := HRT.out; omega, by go_num, HO4.out, hb4⟩
            case measure => simp [intOf]; omega
          · have t7 : ¬ 0 < (k : Int) - (t : Int) := by omega
            have HOE := Lib.hid hownE
            clear hownE
            go_wp2_with fail
            go_roundw
            case rel => exact ⟨t + 1, r, by omega, by show r = min (t + 1) k; have := hr.out; omega, by go_num, HOE.out, hBE⟩
            case measure => simp [intOf]; omega
        · have t6 : ¬ (t : Int) < (q : Int) := by omega
          obtain rfl : t = q := by omega
          have hrl : r = (remL k F r).length := by rw [remL_length]
          have hrdE := owns_u64' hownE hrl
          have hrk : r = min F.length k := by rw [HFL.out]; exact hr.out
          have hEw := rem_range (n := k) HFW.out (k := r) (by omega) (by omega)
          have HRDE := Lib.hid hrdE
          have HRK := Lib.hid hrk
          have HEW := Lib.hid hEw
          have hElen : (remL k F r).length ≤ 100000 := by rw [remL_length]; omega
          clear hrl hrdE hrk hEw hownE
          go_wp2_with fail
          refine (mix_any k _ (remL k F r) _ (by omega) hElen HRDE.out HEW.out).mono ?_
          rintro e w5 ⟨rfl, hR5, hB5, hs5⟩
          have eF : mixL k F = mixL k D := by rw [HF.out]; exact same_pad k D j
          have eE : mixL k (remL k F r) = mixL k D := by rw [HRK.out, same_rem k F (fun x hx => (HFW.out x hx).1)]; exact eF
          rw [eE] at hR5
          have hR3 := HR3.out
          rw [eF] at hR3
          have hR3' := (hR3.below hs3 hBE).below (by omega) hB5
          have hR1' := ((((HR1.out.below hs1 hB).below (by omega) hB3).below (by omega) hBE)).below (by omega) hB5
          have HA := Lib.hid hR1'
          have HBb := Lib.hid hR3'
          have HCc := Lib.hid hR5
          have hall : Below w.heap.size w w5 := (((hB1.trans (hB.mono (by omega))).trans (hB3.mono (by omega))).trans (hBE.mono (by omega))).trans (hB5.mono (by omega))
          have hlm := mixL_length k D
          have HLM := Lib.hid hlm
          clear hR5 hR3 hR3' hR1' eF eE hlm
          go_wp2_with fail
          refine (same_t _ _ (mixL k D) _ (by rw [HLM.out]; omega) ?_ ?_).mono ?_
          · have := HA.out.reads
            rwa [HLM.out] at this
          · have := HBb.out.reads
            rwa [HLM.out] at this
          rintro e w6 ⟨rfl, m6, rfl⟩
          go_wp2_with fail
          refine (same_t _ _ (mixL k D) _ (by rw [HLM.out]; omega) ?_ ?_).mono ?_
          · have := (HA.out.drewN m6).reads
            rwa [HLM.out] at this
          · have := (HCc.out.drewN m6).reads
            rwa [HLM.out] at this
          rintro e w7 ⟨rfl, m7, rfl⟩
          go_wp2_with fail
          refine (awake_any _).mono ?_
          rintro e w8 ⟨rfl, hb8⟩
          go_wp2_with fail
          go_ret
          have hsall := hall.size
          exact ⟨rfl, (below_drewN hall (m6 + m7)).trans (hb8.mono (by simp; omega))⟩

/-! ### The row over the walk -/
set_option maxRecDepth 100000 in
theorem orderSame_lifted (os : Os) (started : os.Started) (H : Type) (enc : TypeId × Value → H) :
    ReturnsInLeavingWide {} Try.checked os 7 .any (Rows.orderSameSpec.pre6 enc Try.prog Try.f7 Rows.orderSameRow.domain false) (Rows.orderSameSpec.post enc Try.prog Try.f7 false true false false) := by
  refine returnsInLeavingWide_of_change_sized (C := Try.checked) Try.own started Try.func7
    (ChangeSpec.witness6 (enc := enc) (C := Try.checked) false ⟨#[], #[.int .i64 0, .slice none 0 0], []⟩ 8 (by kernel_rfl) (by kernel_rfl) (by kernel_rfl) (by kernel_rfl)) ?_
  intro W base args ds gs before hval0 hW _ _ _
  have hval : ∀ (j : Nat) t v, Try.f7.params[j]? = some t → args[j]? = some v → Value.okWide Try.prog W .any base t v := hval0
  have hW' := hW
  obtain ⟨p, q, hA0, hV, rfl, _, _⟩ := hW
  have hA : DataW.TrodAll enc Try.prog W 0 (fun _ => true) true Try.f7.params.toList args.toList ds p := hA0
  rw [Try.params7] at hA hval
  obtain ⟨v0, vs0, d0, ds0, p0, q0, hargs, rfl, rfl, h0, r0⟩ := trodAll_cons hA
  obtain ⟨v1, vs1, d1, ds1, p1, q1, rfl, rfl, rfl, h1, r1⟩ := trodAll_cons r0
  obtain ⟨rfl, rfl, rfl⟩ := trodAll_nil r1
  obtain rfl : args = #[v0, v1] := by cases args; simp_all
  obtain ⟨rfl, rfl⟩ := trodVars_none hV
  obtain ⟨a0, rfl, rfl, rfl, w0⟩ := open_int Try.underlying3 (hval 0 3 v0 rfl rfl) h0
  obtain ⟨ad1, len1, cap1, rfl⟩ := okWide_slice Try.underlying22 (hval 1 22 v1 rfl rfl)
  have k1 := h1
  have lt1 : ∀ x ∈ p1, x.block < W.heap.size := by obtain ⟨m, hm⟩ := k1; exact DataW.trod_lt m _ _ _ hm
  obtain ⟨L1, hrd1, _, hwf1⟩ := reads_of Try.underlying22 Try.underlying41 Try.cells41 h1
  clear hA0 hval0
  obtain ⟨M, last, o, w', t', e1, e2, e3, e4⟩ := law_run (f := 7) (args := #[.int .i64 a0, .slice ad1 len1 cap1]) (W := W) (by kernel_rfl) rfl (by decide) (fun τ e => same_walk a0 _ L1 (re W τ e) hrd1 (fun x hx => wf_u64 (hwf1 x hx)))
  refine ⟨M, last, o, w', t', e1, e2, e3, e4.mono fun v hF => ?_⟩
  obtain ⟨rfl, bel⟩ := hF
  exact ⟨_, _, _, [], _, [], hW', trodAll_mk1 (shut_bool Try.underlying4 _), (trodAll_cons_mk (shut_int Try.underlying3 w0) (trodAll_cons_mk (Below.trod Try.laidOut (by kernel_rfl) (of_decide_eq_true (by kernel_rfl)) k1 bel lt1) trodAll_mk0)), rfl, bel.frame _, fun h => by cases h⟩

/-- THE STATEMENT. -/
theorem orderSame_proved : Rows.OrderSameSaid :=
  OpenClaim.holds_of_wide_leaving 7 Try.f7 rfl rfl rfl rfl rfl rfl rfl ⟨rfl, rfl, rfl, rfl, rfl⟩ rfl rfl rfl rfl rfl (by kernel_rfl) Try.func7 (by kernel_rfl)
    (of_decide_eq_true (by kernel_rfl)) (by unfold Func.isWrapper; first | (rw [if_pos (by decide +kernel)]; kernel_rfl) | (rw [if_neg (by decide +kernel)]; exact ⟨rfl, rfl⟩))
    (fun os started H enc _ => orderSame_lifted os started H enc)
#print axioms orderSame_proved
end Go.Proofs.Ytminoelijdpmeaa
