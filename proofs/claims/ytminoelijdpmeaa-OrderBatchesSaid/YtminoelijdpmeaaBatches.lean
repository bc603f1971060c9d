/- Proved: for every list and size the law OrderBatches returns true, on every schedule (Rows.OrderBatchesSaid). No condition. -/
import Derived.Test.YtminoelijdpmeaaQa
import Derived.Test.YtminoelijdpmeaaOj
import Derived.Test.YtminoelijdpmeaaOk
namespace Go.Proofs.Ytminoelijdpmeaa
open Go.ChangeShapes Go.WideShapes Go.ChangeAt Go.RowKit Go.Conc Lift
set_option linter.unusedVariables false

theorem nBat_unique {n s m m' : Nat} (h : nBat n s m) (h' : nBat n s m') : m = m' := by
  rcases Nat.lt_trichotomy m m' with hlt | h0 | hlt
  · have h1 := h'.2 (by omega)
    have h2 : m * s ≤ (m' - 1) * s := Nat.mul_le_mul_right s (by omega)
    have := h.1
    omega
  · exact h0
  · have h1 := h.2 (by omega)
    have h2 : m' * s ≤ (m - 1) * s := Nat.mul_le_mul_right s (by omega)
    have := h'.1
    omega
/-- How long the i-th batch is. -/
theorem chunk_facts {L : List Int} {s m i : Nat} (h : nBat L.length s m) (h1 : 1 ≤ s) (hi : i < m) : 1 ≤ (chunk L s i).length ∧ (chunk L s i).length ≤ s ∧ (i + 1 < m → (chunk L s i).length = s) := by
  have hlt := h.2 (by omega)
  have a : i * s ≤ (m - 1) * s := Nat.mul_le_mul_right s (by omega)
  rw [chunk_length]
  refine ⟨by omega, by omega, fun h2 => ?_⟩
  have b : (i + 1) * s ≤ (m - 1) * s := Nat.mul_le_mul_right s (by omega)
  rw [Nat.succ_mul] at b
  omega
theorem take_chunk (L : List Int) (s i : Nat) : L.take ((i + 1) * s) = L.take (i * s) ++ chunk L s i := by
  rw [Nat.succ_mul, List.take_add]; rfl
theorem owns_grown {w w' : World} {B : Nat} {e : TypeId} {size n : Nat} {v : Value} {xs : List Value} {g : Nat} (h : w.ownsRow B e size v n xs) (hg : w.grownBy w' (some g)) (hne : v.ownBlock ≠ some g) : w'.ownsRow B e size v n xs := by
  refine ⟨h.1, ?_⟩
  rcases h.2 with h | ⟨k, cap, cur, h1, h2, h3, h4⟩
  · exact .inl h
  · refine .inr ⟨k, cap, cur, h1, h2, ?_, h4⟩
    rw [hg.block k (lt_of_block h3) (fun e => hne (by rw [h1]; exact e))]; exact h3
theorem RowPre.keep {g : Nat} {L : List Int} {w w' : World} (h : RowPre g L w) (hb : w'.heap[g]? = w.heap[g]?) : RowPre g L w' := by
  obtain ⟨cur, h1, h2⟩ := h
  exact ⟨cur, by rw [hb]; exact h1, h2⟩
theorem grown_setCell {w w' : World} {g j : Nat} (h : w.grownBy w' (some g)) (v : Value) : w.grownBy (w'.setCell ⟨g, j, none⟩ v) (some g) :=
  ⟨h.os, h.tape, h.output, by simp [World.setCell]; exact h.size, fun k hk hne => by
    rw [Below.heap_setCell _ _ _ _ (by show k ≠ g; exact fun e => hne (by rw [e]))]
    exact h.block k hk hne⟩
theorem grown_refl (w : World) (r : Option Nat) : w.grownBy w r := ⟨rfl, rfl, rfl, Nat.le_refl _, fun _ _ _ => rfl⟩

/-- What is known while the batches are gone through: of u's own row, and of the batches that are still to come. -/
structure Rest (m i : Nat) (bu : Option Addr) (B : Nat → List Int) (G K : Nat → Nat) (cur : Array Value) (gu : Nat) (w : World) : Prop where
  base : 0 < m → bu = some ⟨gu, 0, none⟩
  blk : 0 < m → w.heap[gu]? = some (.cells cur 24 (0, 0))
  cur : ∀ j, j < m → cur[j]? = some (.slice (some ⟨G j, 0, none⟩) (B j).length (K j))
  row : ∀ j, i ≤ j → j < m → RowPre (G j) (B j) w
theorem Rest.keep {m i : Nat} {bu : Option Addr} {B : Nat → List Int} {G K : Nat → Nat} {cur : Array Value} {gu : Nat} {w w' : World} (h : Rest m i bu B G K cur gu w) {i' : Nat} (hi : i ≤ i') (hu : 0 < m → w'.heap[gu]? = w.heap[gu]?) (hr : ∀ j, i' ≤ j → j < m → w'.heap[G j]? = w.heap[G j]?) : Rest m i' bu B G K cur gu w' :=
  ⟨h.base, fun h0 => by rw [hu h0]; exact h.blk h0, h.cur, fun j h1 h2 => (h.row j (by omega) h2).keep (hr j h1 h2)⟩

set_option maxRecDepth 100000 in
set_option maxHeartbeats 3200000 in
theorem batches_walk (v : Value) (L : List Int) (size : Int) (w : World) (hL : Reads .i64 v L w) :
    Calls Tw 5 #[v, .int .i64 size] w fun e w' => e = .returned (.bool true) ∧ Below w.heap.size w w' := by
  obtain ⟨b, c, hv, hprt⟩ := hL.parts
  clear hprt
  have HL := Lib.hid hL
  clear hL
  obtain ⟨n, hN⟩ : ∃ n, n = L.length := ⟨_, rfl⟩
  rw [← hN] at hv
  have HN := Lib.hid hN
  clear hN
  subst hv
  by_cases h3 : 300 < n
  · have t3 : 300 < (n : Int) := by omega
    go_enter Tw.func5, Try.ntmps5
    go_wp2_with fail
    refine (awake_any _).mono ?_
    rintro e w1 ⟨rfl, hb1⟩
    go_wp2_with fail
    go_ret
    exact ⟨rfl, hb1⟩
  have t3 : ¬ 300 < (n : Int) := by omega
  have hn : L.length ≤ 300 := by have := HN.out; omega
  by_cases h4 : size < 1
  · have HH := Lib.hid (show size < 1 ∨ 64 < size from .inl h4)
    go_enter Tw.func5, Try.ntmps5
    go_wp2_with fail
    refine (batches_no size _ _ HH.out).mono ?_
    rintro e w1 ⟨rfl, rfl⟩
    go_wp2_with fail
    refine (awake_any _).mono ?_
    rintro e w1 ⟨rfl, hb1⟩
    go_wp2_with fail
    go_ret
    exact ⟨rfl, hb1⟩
  by_cases h5 : 64 < size
  · have HH := Lib.hid (show size < 1 ∨ 64 < size from .inr h5)
    go_enter Tw.func5, Try.ntmps5
    go_wp2_with fail
    refine (batches_no size _ _ HH.out).mono ?_
    rintro e w1 ⟨rfl, rfl⟩
    go_wp2_with fail
    refine (awake_any _).mono ?_
    rintro e w1 ⟨rfl, hb1⟩
    go_wp2_with fail
    go_ret
    exact ⟨rfl, hb1⟩
  obtain ⟨s, rfl⟩ : ∃ s : Nat, size = s := ⟨size.toNat, by omega⟩
  have hs1 : 1 ≤ s := by omega
  have hs2 : s ≤ 64 := by omega
  obtain ⟨i0, hi, hz0, hz1, hz2⟩ := info_parts Tw.info3
  go_enter Tw.func5, Try.ntmps5
  go_wp2_with fail
  refine (batches_yes s _ L _ hs1 hs2 (by omega) HL.out).mono ?_
  rintro e w1 ⟨u, m, G, K, rfl, hm, hBat, hB1⟩
  obtain ⟨bu, cu, rfl⟩ := owns_len hBat.own
  obtain ⟨gu, cur, hRest, hgu⟩ : ∃ gu cur, Rest m 0 bu (chunk L s) G K cur gu w1 ∧ (0 < m → w.heap.size ≤ gu ∧ gu < w1.heap.size ∧ ∀ j, j < m → G j ≠ gu) := by
    rcases Nat.eq_zero_or_pos m with rfl | h0
    · exact ⟨0, #[], ⟨fun h => absurd h (by omega), fun h => absurd h (by omega), fun j h => by omega, fun j _ h => by omega⟩, fun h => by omega⟩
    · obtain ⟨g, cap, cur, e1, hg, _, hblk, hcur⟩ := bat_second hBat h0
      have e2 : bu = some ⟨g, 0, none⟩ := by injection e1
      refine ⟨g, cur, ⟨fun _ => e2, fun _ => hblk, hcur, fun j _ h => hBat.row j h⟩, fun _ => ⟨hg, lt_of_block hblk, fun j hj e => ?_⟩⟩
      exact hBat.off j hj (by rw [e2, e]; rfl)
  have hglo : ∀ j, j < m → w.heap.size ≤ G j ∧ G j < w1.heap.size := fun j hj => ⟨hBat.lo j hj, (hBat.row j hj).lt⟩
  have hapart := hBat.apart
  have hcapK := hBat.cap
  have hsz1 := hB1.size
  have hm300 : m ≤ 300 := by
    rcases Nat.eq_zero_or_pos m with rfl | h0
    · omega
    · have a := hm.2 h0
      have b : (m - 1) * 1 ≤ (m - 1) * s := Nat.mul_le_mul_left _ hs1
      omega
  have HM := Lib.hid hm
  have HGU := Lib.hid hgu
  have HGL := Lib.hid hglo
  have HAP := Lib.hid hapart
  have HCK := Lib.hid hcapK
  have HRS := Lib.hid hRest
  clear hm hgu hglo hapart hcapK hRest hBat
  go_wp2_with fail
  go_loopw [7, 41] (fun a x wr => ∃ i q : Nat, i ≤ m ∧ x = .int .i64 i ∧ Hid (q = (L.take (i * s)).length) ∧ q ≤ 300 ∧ wr.ownsRow w1.heap.size 3 1 a q ((L.take (i * s)).map (Value.int .i64)) ∧ Rest m i bu (chunk L s) G K cur gu wr ∧ Below w.heap.size w wr ∧ w1.heap.size ≤ wr.heap.size) (fun _ x _ => m - (intOf x).toNat)
  case atStart => exact ⟨0, 0, by omega, rfl, by simp [Hid], by omega, by simpa using World.ownsRow_nil _ _ _ _, HRS.out, hB1, Nat.le_refl _⟩
  case round =>
    clear HRS
    obtain ⟨i, q, hi', rfl, hq, hq3, hown, hRest, hB, hsz⟩ := hrel
    obtain ⟨bA, cA, rfl⟩ := owns_len hown
    by_cases hlt : i < m
    · have t4 : (i : Int) < (m : Int) := by omega
      obtain ⟨x1, x2, x3⟩ := chunk_facts HM.out hs1 hlt
      obtain ⟨lx, hlx⟩ : ∃ lx, lx = (chunk L s i).length := ⟨_, rfl⟩
      have hbase := hRest.base (by omega)
      subst hbase
      have hcell : wr.cell? ⟨gu, i, none⟩ = some (.slice (some ⟨G i, 0, none⟩) lx (K i)) := by
        have := hRest.cur i hlt
        rw [← hlx] at this
        simp [World.cell?, hRest.blk (by omega), this]
      rw [← hlx] at x1 x2 x3
      have hrow := hRest.row i (Nat.le_refl _) hlt
      have hrdx : Reads .i64 (.slice (some ⟨G i, 0, none⟩) lx (K i)) (chunk L s i) wr := by
        rw [hlx]; exact hrow.reads (HCK.out i hlt)
      obtain ⟨gl1, gl2⟩ := HGL.out i hlt
      obtain ⟨gu1, gu2, gu3⟩ := HGU.out (by omega)
      have y1 : ¬ (lx : Int) < 1 := by omega
      have y2 : ¬ (s : Int) < (lx : Int) := by omega
      have HLX := Lib.hid hlx
      have HRX := Lib.hid hrdx
      have HRW := Lib.hid hrow
      have HRE := Lib.hid hRest
      have HG3 := Lib.hid gu3
      have hlx64 : lx ≤ 64 := by omega
      have hx3 : (i + 1 < m → (lx : Int) = (s : Int)) := fun h => by rw [x3 h]
      have HX3 := Lib.hid hx3
      clear hlx hrdx hrow hRest x3 gu3 hx3
      have hlast : ((i : Int) < (m : Int) - 1 ∧ (lx : Int) = (s : Int)) ∨ ¬ (i : Int) < (m : Int) - 1 := by
        by_cases h : i + 1 < m
        · exact .inl ⟨by omega, HX3.out h⟩
        · exact .inr (by omega)
      rcases hlast with ⟨z1, z2⟩ | z1
      all_goals
        go_wp2_with (at_builtin; refine wpList_append_reads _ rfl _ _ 24 rfl w1.heap.size 3 i0 _ Tw.und24 hi hz0 hz1 hz2 rfl _ _ _ rfl hown .i64 _ (chunk L s i) rfl HRX.out (by have := HLX.out; omega) hsz ?_)
      all_goals
        intro v2 w2 hown2 hgr2 hblk2
        have hlo : ∀ k, (Value.slice bA q cA).ownBlock = some k → w1.heap.size ≤ k := fun k hk => (hown.lt k hk).1
        have key : ∀ k, k < w1.heap.size → w2.heap[k]? = wr.heap[k]? := fun k hk => hgr2.block k (by omega) (fun e => by have := hlo k e.symm; omega)
        have hB2 : Below w.heap.size w w2 := hB.grown hgr2 (by omega) (fun k hk => by have := hlo k hk; omega)
        have hRe2 := HRE.out.keep (Nat.le_refl _) (fun _ => key gu gu2) (fun j _ hj => key (G j) (HGL.out j hj).2)
        have hRw2 := HRW.out.keep (key (G i) gl2)
        have hs2w := hgr2.size
        have hown3 : w2.ownsRow w1.heap.size 3 1 v2 (q + lx) ((L.take ((i + 1) * s)).map (Value.int .i64)) := by
          rw [take_chunk, List.map_append, HLX.out, List.map_take]; exact hown2
        have hv2 : ∀ k, v2.ownBlock = some k → w1.heap.size ≤ k := fun k hk => (hown3.lt k hk).1
        have hq2 : q + lx = (L.take ((i + 1) * s)).length := by
          rw [take_chunk, List.length_append, ← HLX.out, ← hq.out]
        have hq300 : q + lx ≤ 300 := by rw [hq2]; exact Nat.le_trans (List.length_take_le' _ _) hn
        obtain ⟨q2, hqq⟩ : ∃ q2, q2 = q + lx := ⟨_, rfl⟩
        rw [← hqq] at hown3 hq2 hq300
        obtain ⟨bV, cV, rfl⟩ := owns_len hown3
        have HO3 := Lib.hid hown3
        have HV2 := Lib.hid hv2
        have HQ2 := Lib.hid hq2
        have HRe2 := Lib.hid hRe2
        have HRw2 := Lib.hid hRw2
        clear hown2 hgr2 hblk2 hlo key hRe2 hRw2 hown3 hv2 hq2 hqq hown HRE HRX HRW hB
        go_wp2_with fail
        go_loopw [73] (fun x wi => ∃ (k : Nat) (M : List Int), k ≤ lx ∧ x = .int .i64 k ∧ Hid (M.length = lx) ∧ RowPre (G i) M wi ∧ w2.grownBy wi (some (G i))) (fun x _ => lx - (intOf x).toNat)
        case atStart => exact ⟨0, chunk L s i, by omega, rfl, HLX.out.symm, HRw2.out, grown_refl _ _⟩
        case round =>
          obtain ⟨k, M, hk, rfl, hM, hRk, hGk⟩ := hrel
          by_cases hkl : k < lx
          · have t5 : (k : Int) < (lx : Int) := by omega
            obtain ⟨y, hy⟩ : ∃ y, M[k]? = some y := ⟨_, List.getElem?_eq_getElem (by have := hM.out; omega)⟩
            have q1 := hRk.cell hy
            have q2' := hRk.free k
            have HRk := Lib.hid hRk
            have HGk := Lib.hid hGk
            clear hy hRk hGk
            go_wp2_with fail
            go_roundw
            case rel => exact ⟨k + 1, M.set k _, by omega, by go_num, by show (M.set k _).length = lx; rw [List.length_set]; exact hM.out, HRk.out.set k _, grown_setCell HGk.out _⟩
            case measure => simp [intOf]; omega
          · have t5 : ¬ (k : Int) < (lx : Int) := by omega
            have HGk := Lib.hid hGk
            clear hRk hGk
            go_wp2_with fail
            go_roundw
            case rel =>
              have hg := HGk.out
              have hne : (Value.slice bV q2 cV).ownBlock ≠ some (G i) := fun e => by have := HV2.out _ e; omega
              refine ⟨i + 1, q2, by omega, by go_num, HQ2.out, hq300, owns_grown HO3.out hg hne, HRe2.out.keep (by omega) (fun _ => ?_) (fun j h1 h2 => ?_), hB2.grown hg (by omega) (fun k hk => by have := Option.some.inj hk; omega), by have := hg.size; omega⟩
              · exact hg.block gu (by omega) (fun e => HG3.out i hlt (Option.some.inj e).symm)
              · have hjl := HGL.out j h2
                exact hg.block (G j) (by omega) (fun e => HAP.out i j (by omega) h2 (Option.some.inj e).symm)
            case measure => simp [intOf]; omega
    · have t4 : ¬ (i : Int) < (m : Int) := by omega
      obtain rfl : i = m := by omega
      have hall : L.take (i * s) = L := List.take_of_length_le HM.out.1
      have hqL : q = L.length := by rw [hq.out, hall]
      rw [hall, hqL] at hown
      have hrdA : Reads .i64 (.slice bA L.length cA) L wr := by
        rcases Nat.eq_zero_or_pos L.length with h0 | h0
        · exact .inl ⟨List.eq_nil_of_length_eq_zero h0, _, _, by rw [h0]⟩
        · obtain ⟨g', cap', e, _, hc', hR⟩ := owns_pre hown h0
          rw [e]; exact hR.reads hc'
      rw [← hqL] at hrdA
      have hrdL := HL.out.below (Nat.le_refl _) hB
      have HRA := Lib.hid hrdA
      have HRL := Lib.hid hrdL
      have hszB := hB.size
      clear hall hqL hown hrdA hrdL hRest
      go_wp2_with fail
      refine (batches_yes s _ L _ hs1 hs2 (by omega) HRL.out).mono ?_
      rintro e w3 ⟨u2, m2, G2, K2, rfl, hm2, hBat2, hB3⟩
      obtain ⟨b2, c2, rfl⟩ := owns_len hBat2.own
      have hmm : m2 = i := nBat_unique hm2 HM.out
      subst hmm
      have hrdA3 := HRA.out.below (Nat.le_refl _) hB3
      have hrdL3 := HRL.out.below (Nat.le_refl _) hB3
      have HRA3 := Lib.hid hrdA3
      have HRL3 := Lib.hid hrdL3
      have hsz3 := hB3.size
      clear hm2 hBat2 hrdA3 hrdL3
      go_wp2_with fail
      refine (same_t _ _ L _ (by omega) HRA3.out HRL3.out).mono ?_
      rintro e w4 ⟨rfl, m4, rfl⟩
      go_wp2_with fail
      refine (awake_any _).mono ?_
      rintro e w5 ⟨rfl, hb5⟩
      go_wp2_with fail
      go_ret
      exact ⟨rfl, (below_drewN (hB.trans (hB3.mono (by omega))) m4).trans (hb5.mono (by simp; omega))⟩

/-! ### The row over the walk -/
set_option maxRecDepth 100000 in
theorem orderBatches_lifted (os : Os) (started : os.Started) (H : Type) (enc : TypeId × Value → H) :
    ReturnsInLeavingWide {} Try.checked os 5 .any (Rows.orderBatchesSpec.pre6 enc Try.prog Try.f5 Rows.orderBatchesRow.domain false) (Rows.orderBatchesSpec.post enc Try.prog Try.f5 false true false false) := by
  refine returnsInLeavingWide_of_change_sized (C := Try.checked) Try.own started Try.func5
    (ChangeSpec.witness6 (enc := enc) (C := Try.checked) false ⟨#[], #[.slice none 0 0, .int .i64 0], []⟩ 8 (by kernel_rfl) (by kernel_rfl) (by kernel_rfl) (by kernel_rfl)) ?_
  intro W base args ds gs before hval0 hW _ _ _
  have hval : ∀ (j : Nat) t v, Try.f5.params[j]? = some t → args[j]? = some v → Value.okWide Try.prog W .any base t v := hval0
  have hW' := hW
  obtain ⟨p, q, hA0, hV, rfl, _, _⟩ := hW
  have hA : DataW.TrodAll enc Try.prog W 0 (fun _ => true) true Try.f5.params.toList args.toList ds p := hA0
  rw [Try.params5] at hA hval
  obtain ⟨v0, vs0, d0, ds0, p0, q0, hargs, rfl, rfl, h0, r0⟩ := trodAll_cons hA
  obtain ⟨v1, vs1, d1, ds1, p1, q1, rfl, rfl, rfl, h1, r1⟩ := trodAll_cons r0
  obtain ⟨rfl, rfl, rfl⟩ := trodAll_nil r1
  obtain rfl : args = #[v0, v1] := by cases args; simp_all
  obtain ⟨rfl, rfl⟩ := trodVars_none hV
  obtain ⟨ad0, len0, cap0, rfl⟩ := okWide_slice Try.underlying24 (hval 0 24 v0 rfl rfl)
  have k0 := h0
  have lt0 : ∀ x ∈ p0, x.block < W.heap.size := by obtain ⟨m, hm⟩ := k0; exact DataW.trod_lt m _ _ _ hm
  obtain ⟨L0, hrd0, _, hwf0⟩ := reads_of Try.underlying24 Try.underlying3 Try.cells3 h0
  obtain ⟨a1, rfl, rfl, rfl, w1⟩ := open_int Try.underlying3 (hval 1 3 v1 rfl rfl) h1
  clear hA0 hval0
  obtain ⟨M, last, o, w', t', e1, e2, e3, e4⟩ := law_run (f := 5) (args := #[.slice ad0 len0 cap0, .int .i64 a1]) (W := W) (by kernel_rfl) rfl (by decide) (fun τ e => batches_walk _ L0 a1 (re W τ e) hrd0)
  refine ⟨M, last, o, w', t', e1, e2, e3, e4.mono fun v hF => ?_⟩
  obtain ⟨rfl, bel⟩ := hF
  exact ⟨_, _, _, [], _, [], hW', trodAll_mk1 (shut_bool Try.underlying4 _), (trodAll_cons_mk (Below.trod Try.laidOut (by kernel_rfl) (of_decide_eq_true (by kernel_rfl)) k0 bel lt0) (trodAll_cons_mk (shut_int Try.underlying3 w1) trodAll_mk0)), rfl, bel.frame _, fun h => by cases h⟩

/-- THE STATEMENT. -/
theorem orderBatches_proved : Rows.OrderBatchesSaid :=
  OpenClaim.holds_of_wide_leaving 5 Try.f5 rfl rfl rfl rfl rfl rfl rfl ⟨rfl, rfl, rfl, rfl, rfl⟩ rfl rfl rfl rfl rfl (by kernel_rfl) Try.func5 (by kernel_rfl)
    (of_decide_eq_true (by kernel_rfl)) (by unfold Func.isWrapper; first | (rw [if_pos (by decide +kernel)]; kernel_rfl) | (rw [if_neg (by decide +kernel)]; exact ⟨rfl, rfl⟩))
    (fun os started H enc _ => orderBatches_lifted os started H enc)
#print axioms orderBatches_proved
end Go.Proofs.Ytminoelijdpmeaa
