/- Proved: for every draws and n the law OrderFeeds returns true, on every schedule (Rows.OrderFeedsSaid). No condition. -/
import Derived.Test.YtminoelijdpmeaaQa
import Derived.Test.YtminoelijdpmeaaOj
import Derived.Test.YtminoelijdpmeaaOk
namespace Go.Proofs.Ytminoelijdpmeaa
open Go.ChangeShapes Go.WideShapes Go.ChangeAt Go.RowKit Go.Conc Lift FeedRun
set_option linter.unusedVariables false

theorem owns_u64' {w : World} {B q : Nat} {v : Value} {L : List Int} (h : w.ownsRow B 41 1 v q (u64V L)) (hq : q = L.length) : Reads .u64 v L w := owns_u64 (hq ▸ h)
theorem Reads.grown {k : IntKind} {v : Value} {L : List Int} {w w' : World} (h : Reads k v L w) {c : Nat} {o : Obj} (hg : w.grownBy w' (some c)) (hc : w.heap[c]? = some o) (ho : ∀ a b d, o ≠ .cells a b d) : Reads k v L w' := by
  rcases h with h | ⟨g, off, cap, rfl, h0, hcap, hgl, hcl⟩
  · exact .inl h
  · refine .inr ⟨g, off, cap, rfl, h0, hcap, Nat.lt_of_lt_of_le hgl hg.size, fun i x hi => ?_⟩
    have h1 := hcl i x hi
    have hne : g ≠ c := by
      rintro rfl
      simp only [World.cell?, hc] at h1
      split at h1
      · rename_i a b d hh; exact ho _ _ _ (Option.some.inj hh)
      · cases h1
    rw [World.cell?_of_block (w := w) (hg.block g hgl (fun e => hne (Option.some.inj e)))]
    exact h1

set_option maxRecDepth 100000 in
set_option maxHeartbeats 3200000 in
theorem feeds_walk (v : Value) (D : List Int) (n : Int) (w : World) (hD : Reads .u64 v D w) :
    Calls Tw 6 #[v, .int .i64 n] w fun e w' => e = .returned (.bool true) ∧ Below w.heap.size w w' := by
  obtain ⟨b, c, hv, hprt⟩ := hD.parts
  clear hprt
  have HD := Lib.hid hD
  clear hD
  by_cases h3 : 200 < D.length
  · obtain ⟨m, hM⟩ : ∃ m, m = D.length := ⟨_, rfl⟩
    rw [← hM] at hv
    have t3 : 200 < (m : Int) := by omega
    subst hv
    clear hM h3
    go_enter Tw.func6, Try.ntmps6
    go_wp2_with fail
    refine (awake_any _).mono ?_
    rintro e w1 ⟨rfl, hb1⟩
    go_wp2_with fail
    go_ret
    exact ⟨rfl, hb1⟩
  obtain ⟨la, lb, hlab, hcase⟩ : ∃ la lb : Nat, D.length = la + lb ∧ ((n ≤ 0 ∧ la = 0) ∨ (0 < n ∧ n = (la : Int)) ∨ (((la + lb : Nat) : Int) < n ∧ lb = 0)) := by
    by_cases h1 : n ≤ 0
    · exact ⟨0, D.length, by omega, .inl ⟨h1, rfl⟩⟩
    · by_cases h2 : n ≤ (D.length : Int)
      · exact ⟨n.toNat, D.length - n.toNat, by omega, .inr (.inl ⟨by omega, by omega⟩)⟩
      · exact ⟨D.length, 0, by omega, .inr (.inr ⟨by omega, rfl⟩)⟩
  obtain ⟨m, hM⟩ : ∃ m, m = D.length := ⟨_, rfl⟩
  rw [← hM] at hv
  subst hv
  have HLAB := Lib.hid hlab
  have hlab2 : la + lb ≤ 200 := by omega
  have hml : m = la + lb := hM.trans hlab
  have HML := Lib.hid hml
  have HMD := Lib.hid hM
  have hm200 : m ≤ 200 := by omega
  have hd : D.length ≤ 200 := by omega
  have htk : D.take n.toNat = D.take la := by
    rcases hcase with ⟨h1, rfl⟩ | ⟨h1, rfl⟩ | ⟨h1, rfl⟩
    · rw [show n.toNat = 0 by omega]
    · simp
    · rw [List.take_of_length_le (by omega), List.take_of_length_le (by omega)]
  have hdr : D.drop n.toNat = D.drop la := by
    rcases hcase with ⟨h1, rfl⟩ | ⟨h1, rfl⟩ | ⟨h1, rfl⟩
    · rw [show n.toNat = 0 by omega]
    · simp
    · rw [List.drop_of_length_le (by omega), List.drop_of_length_le (by omega)]
  have hlA : (D.take la).length = la := by rw [List.length_take]; omega
  have hlB : (D.drop la).length = lb := by rw [List.length_drop]; omega
  have HTK := Lib.hid htk
  have HDR := Lib.hid hdr
  have HLA := Lib.hid hlA
  have HLB := Lib.hid hlB
  have HCS := Lib.hid hcase
  clear hlab htk hdr hlA hlB hcase hml hM
  have t3 : ¬ 200 < (m : Int) := by omega
  obtain ⟨i0, hi, hz0, hz1, hz2⟩ := info_parts Tw.info41
  have heq := eql_chan
  go_enter Tw.func6, Try.ntmps6
  go_wp2_with fail
  refine (feed_calls _ D _ (by omega) HD.out).mono ?_
  rintro e w1 ⟨rfl, hw1⟩
  have hB1 := below_wX w (.slice b m c) (.chan D.length (D.map (Value.int .u64)).toArray true D.length 0 false) (.chan 0 #[] true 0 0 false)
  have hch1 := wX_get1 (W := w) (x := .slice b m c) (c := .chan D.length (D.map (Value.int .u64)).toArray true D.length 0 false) (e := .chan 0 #[] true 0 0 false) rfl
  have hs1 := wX_size w (.slice b m c) (.chan D.length (D.map (Value.int .u64)).toArray true D.length 0 false) (.chan 0 #[] true 0 0 false)
  rw [← hw1] at hB1 hch1 hs1
  have hs1' : w.heap.size + 5 ≤ w1.heap.size := by omega
  have HCH1 := Lib.hid (show w1.heap[w.heap.size + 1]? = some (.chan D.length (u64V D).toArray true D.length 0 false) from hch1)
  have hrd1 := HD.out.below (Nat.le_refl _) hB1
  have HRD1 := Lib.hid hrd1
  clear hw1 hch1 hs1 hrd1
  go_wp2_with fail
  refine (take_nil 5 _).mono ?_
  rintro e w1' ⟨rfl, rfl⟩
  go_wp2_with fail
  refine (take_any (w.heap.size + 1) _ D n _ _ _ (by omega) HCH1.out).mono ?_
  rintro e w2 ⟨u, r2, rfl, hown2, hch2, hgr2⟩
  rw [HTK.out, HLA.out] at hown2
  rw [HDR.out] at hch2
  obtain ⟨bA, cA, rfl⟩ := owns_len hown2
  have hrdA := owns_u64' hown2 HLA.out.symm
  have hrd2 := HRD1.out.grown hgr2 HCH1.out (fun _ _ _ h => by cases h)
  have hs2 := hgr2.size
  have hB2 : Below w.heap.size w w2 := hB1.grown hgr2 (by omega) (fun k hk => by have := Option.some.inj hk; omega)
  have HCH2 := Lib.hid hch2
  have HRDA := Lib.hid hrdA
  have HRD2 := Lib.hid hrd2
  clear hown2 hch2 hgr2 hrdA hrd2 hB1
  go_wp2_with fail
  refine (take_any (w.heap.size + 1) _ (D.drop la) 1000 _ _ _ (by have := HLB.out; omega) HCH2.out).mono ?_
  rintro e w3 ⟨u, r3, rfl, hown3, hch3, hgr3⟩
  have eT : (D.drop la).take (1000 : Int).toNat = D.drop la := List.take_of_length_le (by have := HLB.out; show _ ≤ 1000; omega)
  have eD : (D.drop la).drop (1000 : Int).toNat = [] := List.drop_of_length_le (by have := HLB.out; show _ ≤ 1000; omega)
  rw [eT, HLB.out] at hown3
  rw [eD] at hch3
  obtain ⟨bB, cB, rfl⟩ := owns_len hown3
  have hrdB := owns_u64' hown3 HLB.out.symm
  have hrd3 := HRD2.out.grown hgr3 HCH2.out (fun _ _ _ h => by cases h)
  have hrdA3 := HRDA.out.grown hgr3 HCH2.out (fun _ _ _ h => by cases h)
  have hs3 := hgr3.size
  have hB3 : Below w.heap.size w w3 := hB2.grown hgr3 (by omega) (fun k hk => by have := Option.some.inj hk; omega)
  have HCH3 := Lib.hid hch3
  have HRDB := Lib.hid hrdB
  have HRD3 := Lib.hid hrd3
  have HRA3 := Lib.hid hrdA3
  clear hown3 hch3 hgr3 hrdB hrd3 hrdA3 hB2 eT eD
  have hcase : ((n < 0 ∧ (la : Int) = 0) ∧ (lb : Int) = (m : Int)) ∨ ((n = 0 ∧ (la : Int) = 0) ∧ (lb : Int) = (m : Int)) ∨ ((0 < n ∧ n = (la : Int)) ∧ (la : Int) + (lb : Int) = (m : Int)) ∨ (((m : Int) < n ∧ (la : Int) = (m : Int)) ∧ (lb : Int) = 0) := by
    have h1 := HML.out
    rcases HCS.out with ⟨h, e⟩ | ⟨h, e⟩ | ⟨h, e⟩
    · by_cases h0 : n = 0
      · exact .inr (.inl ⟨⟨h0, by omega⟩, by omega⟩)
      · exact .inl ⟨⟨by omega, by omega⟩, by omega⟩
    · exact .inr (.inr (.inl ⟨⟨h, e⟩, by omega⟩))
    · exact .inr (.inr (.inr ⟨⟨by omega, by omega⟩, by omega⟩))
  have hle : (la : Int) ≤ (m : Int) := by have := HML.out; omega
  have hm0 : 0 ≤ (m : Int) := by omega
  rcases hcase with ⟨⟨h1, E1⟩, E2⟩ | ⟨⟨rfl, E1⟩, E2⟩ | ⟨⟨h1, E1⟩, E2⟩ | ⟨⟨h1, E1⟩, E2⟩
  all_goals
    go_wp2_with fail
  all_goals
    clear E1 E2 heq
    refine (take_any (w.heap.size + 1) _ [] 1 _ _ _ (by simp) HCH3.out).mono ?_
    rintro e w4 ⟨u, r4, rfl, hown4, hch4, hgr4⟩
    have hown4' : w4.ownsRow w3.heap.size 41 1 u 0 [] := by simpa [u64V] using hown4
    obtain ⟨bU, cU, rfl⟩ := owns_len hown4'
    have hrd4 := HRD3.out.grown hgr4 HCH3.out (fun _ _ _ h => by cases h)
    have hrdA4 := HRA3.out.grown hgr4 HCH3.out (fun _ _ _ h => by cases h)
    have hrdB4 := HRDB.out.grown hgr4 HCH3.out (fun _ _ _ h => by cases h)
    have hs4 := hgr4.size
    have hB4 : Below w.heap.size w w4 := hB3.grown hgr4 (by omega) (fun k hk => by have := Option.some.inj hk; omega)
    have HRD4 := Lib.hid hrd4
    clear hown4 hown4' hch4 hgr4 hrd4 hB3
    have hown5 : (w4.alloc (.cells #[] 41)).ownsRow w4.heap.size 41 1 (.slice (some ⟨w4.heap.size, 0, none⟩) 0 0) 0 [] := ⟨rfl, .inr ⟨w4.heap.size, 0, #[], rfl, Nat.le_refl _, heap_alloc_new _ _, Nat.le_refl _, by unfold maxLen; omega, rfl, rfl⟩⟩
    have hba : Below w4.heap.size w4 (w4.alloc (.cells #[] 41)) := (Below.refl _ _).alloc (Nat.le_refl _) _
    have hAa := hrdA4.below (Nat.le_refl _) hba
    have hlA := HLA.out
    have hlB := HLB.out
    have HLA2 := Lib.hid hlA
    go_wp2_with (at_builtin; refine wpList_append_reads _ rfl _ _ 22 rfl w4.heap.size 41 i0 _ Tw.und22 hi hz0 hz1 hz2 rfl _ _ _ rfl hown5 .u64 _ (D.take la) rfl hAa (by omega) (by simp) ?_)
    intro v6 w6 hown6 hgr6 _
    have hb6 : Below w4.heap.size w4 w6 := hba.grown hgr6 (by simp) (fun q hq => by simp [Value.ownBlock] at hq; omega)
    have hs6 := hb6.size
    have hBb := hrdB4.below (Nat.le_refl _) hb6
    clear hown5 hba hAa hgr6
    go_wp2_with (at_builtin; refine wpList_append_reads _ rfl _ _ 22 rfl w4.heap.size 41 i0 _ Tw.und22 hi hz0 hz1 hz2 rfl _ _ _ rfl hown6 .u64 _ (D.drop la) rfl hBb (by omega) (by omega) ?_)
    intro v7 w7 hown7 hgr7 _
    have hb7 : Below w4.heap.size w4 w7 := hb6.grown hgr7 (by omega) (fun q hq => (hown6.lt q hq).1)
    have hown8 : w7.ownsRow w4.heap.size 41 1 v7 m (u64V D) := by
      rw [HML.out]; simpa [u64V] using hown7
    obtain ⟨bR, cR, rfl⟩ := owns_len hown8
    have hrdR := owns_u64' hown8 HMD.out
    have hrd7 := HRD4.out.below (Nat.le_refl _) hb7
    have hball : Below w.heap.size w w7 := hB4.trans (hb7.mono (by omega))
    have hs7 := hb7.size
    obtain ⟨bR', cR', eR, hprt⟩ := hrdR.parts
    obtain ⟨b', c', eD, hprt2⟩ := hrd7.parts
    have eR' : bR = bR' := by injection eR
    have eD' : b = b' := by injection eD
    have HPR := Lib.hid hprt
    have HPD := Lib.hid hprt2
    have ER := Lib.hid eR'
    have ED := Lib.hid eD'
    clear hown6 hgr7 hown7 hown8 hb6 hb7 hBb hrdA4 hrdB4 hlA hlB hrdR hrd7 hprt hprt2 eR eD eR' eD' hB4 HRD4
    go_wp2_with fail
    go_loop [58] (fun x => ∃ k : Nat, k ≤ m ∧ x = .int .i64 k) (fun x => m - (intOf x).toNat)
    case atStart => exact ⟨0, by omega, rfl⟩
    case round =>
      obtain ⟨k, hk, rfl⟩ := hrel
      by_cases hlt : k < m
      · have t8 : (k : Int) < (m : Int) := by omega
        have hkD : k < D.length := by have := HMD.out; omega
        obtain ⟨x, hx⟩ : ∃ x, D[k]? = some x := ⟨_, List.getElem?_eq_getElem hkD⟩
        obtain ⟨gR, oR, e1, hgR, hcR⟩ := HPR.out (by omega)
        obtain ⟨gD, oD, e2, hgD, hcD⟩ := HPD.out (by omega)
        have e3 := ER.out.trans e1
        have e4 := ED.out.trans e2
        subst e3
        subst e4
        have q1 := hcR k x hx
        have q2 := hcD k x hx
        clear hcR hcD hx e1 e2
        go_wp2_with fail
        go_round
        case rel => exact ⟨k + 1, by omega, by go_num⟩
        case measure => simp [intOf]; omega
      · have t8 : ¬ (k : Int) < (m : Int) := by omega
        go_wp2_with fail
        refine (awake_any _).mono ?_
        rintro e w8 ⟨rfl, hb8⟩
        go_wp2_with fail
        go_ret
        exact ⟨rfl, hball.trans (hb8.mono (by omega))⟩

/-! ### The row over the walk -/
set_option maxRecDepth 100000 in
theorem orderFeeds_lifted (os : Os) (started : os.Started) (H : Type) (enc : TypeId × Value → H) :
    ReturnsInLeavingWide {} Try.checked os 6 .any (Rows.orderFeedsSpec.pre6 enc Try.prog Try.f6 Rows.orderFeedsRow.domain false) (Rows.orderFeedsSpec.post enc Try.prog Try.f6 false true false false) := by
  refine returnsInLeavingWide_of_change_sized (C := Try.checked) Try.own started Try.func6
    (ChangeSpec.witness6 (enc := enc) (C := Try.checked) false ⟨#[], #[.slice none 0 0, .int .i64 0], []⟩ 8 (by kernel_rfl) (by kernel_rfl) (by kernel_rfl) (by kernel_rfl)) ?_
  intro W base args ds gs before hval0 hW _ _ _
  have hval : ∀ (j : Nat) t v, Try.f6.params[j]? = some t → args[j]? = some v → Value.okWide Try.prog W .any base t v := hval0
  have hW' := hW
  obtain ⟨p, q, hA0, hV, rfl, _, _⟩ := hW
  have hA : DataW.TrodAll enc Try.prog W 0 (fun _ => true) true Try.f6.params.toList args.toList ds p := hA0
  rw [Try.params6] at hA hval
  obtain ⟨v0, vs0, d0, ds0, p0, q0, hargs, rfl, rfl, h0, r0⟩ := trodAll_cons hA
  obtain ⟨v1, vs1, d1, ds1, p1, q1, rfl, rfl, rfl, h1, r1⟩ := trodAll_cons r0
  obtain ⟨rfl, rfl, rfl⟩ := trodAll_nil r1
  obtain rfl : args = #[v0, v1] := by cases args; simp_all
  obtain ⟨rfl, rfl⟩ := trodVars_none hV
  obtain ⟨ad0, len0, cap0, rfl⟩ := okWide_slice Try.underlying22 (hval 0 22 v0 rfl rfl)
  have k0 := h0
  have lt0 : ∀ x ∈ p0, x.block < W.heap.size := by obtain ⟨m, hm⟩ := k0; exact DataW.trod_lt m _ _ _ hm
  obtain ⟨L0, hrd0, _, hwf0⟩ := reads_of Try.underlying22 Try.underlying41 Try.cells41 h0
  obtain ⟨a1, rfl, rfl, rfl, w1⟩ := open_int Try.underlying3 (hval 1 3 v1 rfl rfl) h1
  clear hA0 hval0
  obtain ⟨M, last, o, w', t', e1, e2, e3, e4⟩ := law_run (f := 6) (args := #[.slice ad0 len0 cap0, .int .i64 a1]) (W := W) (by kernel_rfl) rfl (by decide) (fun τ e => feeds_walk _ L0 a1 (re W τ e) hrd0)
  refine ⟨M, last, o, w', t', e1, e2, e3, e4.mono fun v hF => ?_⟩
  obtain ⟨rfl, bel⟩ := hF
  exact ⟨_, _, _, [], _, [], hW', trodAll_mk1 (shut_bool Try.underlying4 _), (trodAll_cons_mk (Below.trod Try.laidOut (by kernel_rfl) (of_decide_eq_true (by kernel_rfl)) k0 bel lt0) (trodAll_cons_mk (shut_int Try.underlying3 w1) trodAll_mk0)), rfl, bel.frame _, fun h => by cases h⟩

/-- THE STATEMENT. -/
theorem orderFeeds_proved : Rows.OrderFeedsSaid :=
  OpenClaim.holds_of_wide_leaving 6 Try.f6 rfl rfl rfl rfl rfl rfl rfl ⟨rfl, rfl, rfl, rfl, rfl⟩ rfl rfl rfl rfl rfl (by kernel_rfl) Try.func6 (by kernel_rfl)
    (of_decide_eq_true (by kernel_rfl)) (by unfold Func.isWrapper; first | (rw [if_pos (by decide +kernel)]; kernel_rfl) | (rw [if_neg (by decide +kernel)]; exact ⟨rfl, rfl⟩))
    (fun os started H enc _ => orderFeeds_lifted os started H enc)
#print axioms orderFeeds_proved
end Go.Proofs.Ytminoelijdpmeaa
