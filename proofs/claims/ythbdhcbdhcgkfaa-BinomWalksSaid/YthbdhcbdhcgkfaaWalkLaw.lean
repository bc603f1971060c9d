/- Proved: for every l, s and acts the law BinomWalks returns true (Rows.BinomWalksSaid). No condition. -/
import Derived.Test.YthbdhcbdhcgkfaaWn
import Derived.Test.YthbdhcbdhcgkfaaMath5
import Derived.WalkKit
import Derived.ProofKit
import Derived.OpenShut
import Derived.ChangeOld
import Derived.Below
import Derived.Deep.SlicePairs
namespace Go.Proofs.Ythbdhcbdhcgkfaa
open Go.ChangeShapes Go.WideShapes Go.ChangeAt Go.RowKit
set_option linter.unusedVariables false

theorem walkR_range {l s : Nat} {acts : List (Int × Int)} {g : Int} (h : walkR l s acts = some g) : 0 ≤ g := by
  have := walk_least h; omega


set_option maxRecDepth 100000 in
set_option maxHeartbeats 1600000 in
theorem binomWalks_walk (a0 a1 : Int) (v : Value) (acts : List (Int × Int)) (w : World) (hr : ReadsActs v acts w) :
    Calls Try.prog 4 #[.int .i64 a0, .int .i64 a1, v] w fun e w' => e = .returned (.bool true) ∧ Below w.heap.size w w' := by
  obtain ⟨ad, cap, hv⟩ : ∃ ad cap, v = .slice ad acts.length cap := by
    rcases hr with ⟨rfl, a, cap, rfl⟩ | ⟨g, off, cap, rfl, _⟩
    · exact ⟨a, cap, rfl⟩
    · exact ⟨_, _, rfl⟩
  subst hv
  by_cases hbig1 : 300 < (acts.length : Int)
  · go_enter Try.func4, Try.ntmps4
    go_wp2_with fail
    refine (awake_any _).mono ?_
    rintro e w5 ⟨rfl, hb5⟩
    go_wp2_with fail
    go_ret
    exact ⟨rfl, hb5⟩
  by_cases hbig : 100 < a0
  · go_enter Try.func4, Try.ntmps4
    go_wp2_with fail
    refine (awake_any _).mono ?_
    rintro e w5 ⟨rfl, hb5⟩
    go_wp2_with fail
    go_ret
    exact ⟨rfl, hb5⟩
  cases hin : insB a0 a1 with
  | false =>
    have H := Lib.hid hin
    clear hin
    go_enter Try.func4, Try.ntmps4
    go_wp2_with fail
    refine (Walk_no _ _ _ _ H.out).mono ?_
    rintro e w' ⟨rfl, rfl⟩
    go_wp2_with fail
    refine (in_no _ _ _ H.out).mono ?_
    rintro e w' ⟨rfl, rfl⟩
    go_wp2_with fail
    refine (awake_any _).mono ?_
    rintro e w5 ⟨rfl, hb5⟩
    go_wp2_with fail
    go_ret
    exact ⟨rfl, hb5⟩
  | true =>
    obtain ⟨b1, b2, b3, b4⟩ := insB_t hin
    have H := Lib.hid hin
    clear hin
    obtain ⟨l, rfl⟩ := Int.eq_ofNat_of_zero_le (show 0 ≤ a0 by omega)
    obtain ⟨s, rfl⟩ := Int.eq_ofNat_of_zero_le b3
    have hL : Hid (∀ w : World, Calls Try.prog 13 #[.int .i64 l, .int .i64 s] w fun e w' => e = .returned (.tuple #[.int .i64 (BM.T l s), .int .i64 0]) ∧ w = w') := fun w => by
      have := Least_yes l s w H.out
      rwa [Int.toNat_natCast, Int.toNat_natCast] at this
    cases hres : walkR l s acts with
    | none =>
      have HRES := Lib.hid hres
      clear hres
      go_enter Try.func4, Try.ntmps4
      go_wp2_with fail
      refine (Walk_yes l s _ _ _ acts _ rfl rfl (by omega) (by omega) (by omega) hr (by omega)).mono ?_
      rw [HRES.out]
      rintro e w2 ⟨rfl, hb2⟩
      have hr2 := hr.below (Nat.le_refl _) hb2
      simp only [walkV]
      go_wp2_with fail
      refine (in_yes _ _ _ H.out).mono ?_
      rintro e w' ⟨rfl, rfl⟩
      go_wp2_with fail
      refine (pairs_any _ acts _ hr2 (by omega)).mono ?_
      rintro e w3 ⟨v3, rfl, hr3, hb3⟩
      go_wp2_with fail
      refine (refWalk_any l s v3 _ _ (by omega) (by omega) (by omega) hr3 (by omega)).mono ?_
      rw [HRES.out]
      rintro e w4 ⟨rfl, hb4⟩
      simp only [refV, Option.getD_none]
      go_wp2_with fail
      refine (awake_any _).mono ?_
      rintro e w5 ⟨rfl, hb5⟩
      have s2 := hb2.size
      have s3 := hb3.size
      have s4 := hb4.size
      have hb : Below w.heap.size w w5 := ((hb2.trans (hb3.mono (by omega))).trans (hb4.mono (by omega))).trans (hb5.mono (by omega))
      clear hb2 hb3 hb4 hb5
      go_wp2_with fail
      go_ret
      exact ⟨rfl, hb⟩
    | some n =>
      have hle := walk_least hres
      have hn0 := walkR_range hres
      have HRES := Lib.hid hres
      clear hres
      go_enter Try.func4, Try.ntmps4
      go_wp2_with fail
      refine (Walk_yes l s _ _ _ acts _ rfl rfl (by omega) (by omega) (by omega) hr (by omega)).mono ?_
      rw [HRES.out]
      rintro e w2 ⟨rfl, hb2⟩
      have hr2 := hr.below (Nat.le_refl _) hb2
      simp only [walkV]
      go_wp2_with fail
      refine (in_yes _ _ _ H.out).mono ?_
      rintro e w' ⟨rfl, rfl⟩
      go_wp2_with fail
      refine (pairs_any _ acts _ hr2 (by omega)).mono ?_
      rintro e w3 ⟨v3, rfl, hr3, hb3⟩
      go_wp2_with fail
      refine (refWalk_any l s v3 _ _ (by omega) (by omega) (by omega) hr3 (by omega)).mono ?_
      rw [HRES.out]
      rintro e w4 ⟨rfl, hb4⟩
      simp only [refV, Option.getD_some]
      go_wp2_with fail
      refine (hL.out _).mono ?_
      rintro e w' ⟨rfl, rfl⟩
      go_wp2_with fail
      refine (awake_any _).mono ?_
      rintro e w5 ⟨rfl, hb5⟩
      have s2 := hb2.size
      have s3 := hb3.size
      have s4 := hb4.size
      have hb : Below w.heap.size w w5 := ((hb2.trans (hb3.mono (by omega))).trans (hb4.mono (by omega))).trans (hb5.mono (by omega))
      clear hb2 hb3 hb4 hb5
      go_wp2_with fail
      go_ret
      exact ⟨rfl, hb⟩

/-! ### The row over the walk -/
theorem binomWalks_own : ownKnob Try.prog.godebug = none := by kernel_rfl
theorem binomWalks_laid : laidOutB Try.prog = true := by kernel_rfl
theorem Try.cells47 : Try.prog.cellsOf 47 = 2 := by kernel_rfl
theorem Try.cells3 : Try.prog.cellsOf 3 = 1 := by kernel_rfl

theorem reads_of {H : Type} {enc : TypeId × Value → H} {W : World} {base : Nat} {spare : Nat → Bool} {held : Bool} {fuel : Nat} {a : Option Addr} {len cap : Nat} {x : DataW H × List MemPlace}
    (h : DataW.trod enc Try.prog W base spare held fuel 23 [.slice a len cap] = some x) : ∃ acts, ReadsActs (.slice a len cap) acts W := by
  rcases Deep.open_slice_pairs Try.underlying23 Try.underlying47 Try.cells47 rfl rfl Try.cells3 Try.cells3 h with ⟨hcs, _⟩ | ⟨ad, ln, cp, m, n, V0, V1, D0, D1, P0, P1, hcs, _, hl, hm, hmm, _, hat⟩
  · simp at hcs
    obtain ⟨rfl, rfl, rfl⟩ := hcs
    exact ⟨[], .inl ⟨rfl, _, _, rfl⟩⟩
  · simp at hcs
    obtain ⟨rfl, rfl, rfl⟩ := hcs
    have hlm : len ≤ m := by rw [hmm]; split <;> omega
    by_cases h0 : len = 0
    · subst h0; exact ⟨[], .inl ⟨rfl, _, _, rfl⟩⟩
    · have h00 := (hat 0 (by omega)).1
      rw [Nat.zero_mul] at h00
      obtain ⟨g, off, spot⟩ := ad
      have hsp : spot = none := by
        cases spot with
        | none => rfl
        | some s =>
          exfalso
          simp only [Addr.add, if_true, World.cell?] at h00
          split at h00 <;> simp at h00
      subst hsp
      have hadd : ∀ j, (⟨g, off, none⟩ : Addr).add j = ⟨g, off + j, none⟩ := by
        intro j; unfold Addr.add; split
        · subst_vars; rfl
        · rfl
      refine ⟨(List.range len).map fun i => (intOf (V0 i), intOf (V1 i)), .inr ⟨g, off, cap, by simp, World.block_lt_of_cell? W ⟨g, off, none⟩ (by simpa [Addr.add] using h00), fun i k b hi => ?_⟩⟩
      have hil : i < len := by
        rcases Nat.lt_or_ge i len with h | h
        · exact h
        · rw [List.getElem?_eq_none (by simpa using h)] at hi; cases hi
      simp only [List.getElem?_map, List.getElem?_range hil, Option.map_some, Option.some.injEq, Prod.mk.injEq] at hi
      obtain ⟨rfl, rfl⟩ := hi
      obtain ⟨c0, c1, t0, t1⟩ := hat i (by omega)
      obtain ⟨y0, e0, _, _⟩ := DataW.trod_int Try.underlying3 t0
      obtain ⟨y1, e1, _, _⟩ := DataW.trod_int Try.underlying3 t1
      simp at e0 e1
      rw [hadd, e0] at c0
      rw [hadd, e1, ← Nat.add_assoc] at c1
      rw [e0, e1]
      exact ⟨c0, c1⟩

set_option maxRecDepth 100000 in
theorem binomWalks_lifted (os : Os) (started : os.Started) (H : Type) (enc : TypeId × Value → H) :
    ReturnsInHanded {} Try.checked os 4 .any (Rows.binomWalksSpec.pre6 enc Try.prog Try.f4 Rows.binomWalksRow.domain false) (Rows.binomWalksSpec.post enc Try.prog Try.f4 false true false false) := by
  refine returnsInHanded_of_change (C := Try.checked) binomWalks_own started (by kernel_rfl) Try.func4
    (ChangeSpec.witness6 (enc := enc) (C := Try.checked) false ⟨#[], #[.int .i64 0, .int .i64 0, .slice none 0 0], []⟩ 8 (by kernel_rfl) (by kernel_rfl) (by kernel_rfl) (by kernel_rfl)) ?_
  intro W base args ds gs before hval0 hW hcnd _
  have hval : ∀ (j : Nat) t v, Try.f4.params[j]? = some t → args[j]? = some v → Value.okWide Try.prog W .any base t v := hval0
  have hW' := hW
  obtain ⟨p, q, hA0, hV, rfl, hfz, hnd⟩ := hW
  have hA : DataW.TrodAll enc Try.prog W 0 (fun _ => true) true Try.f4.params.toList args.toList ds p := hA0
  rw [Try.params4] at hA hval
  obtain ⟨v0, vs0, d0, ds0, p0, q0, hargs, rfl, rfl, h0, r0⟩ := trodAll_cons hA
  obtain ⟨v1, vs1, d1, ds1, p1, q1, rfl, rfl, rfl, h1, r1⟩ := trodAll_cons r0
  obtain ⟨v2, vs2, d2, ds2, p2, q2, rfl, rfl, rfl, h2, r2⟩ := trodAll_cons r1
  obtain ⟨rfl, rfl, rfl⟩ := trodAll_nil r2
  obtain rfl : args = #[v0, v1, v2] := by cases args; simp_all
  obtain ⟨rfl, rfl⟩ := trodVars_none hV
  obtain ⟨a0, rfl, rfl, rfl, w0⟩ := open_int Try.underlying3 (hval 0 3 v0 rfl rfl) h0
  obtain ⟨a1, rfl, rfl, rfl, w1⟩ := open_int Try.underlying3 (hval 1 3 v1 rfl rfl) h1
  obtain ⟨ad, len, cap, rfl⟩ := okWide_slice Try.underlying23 (hval 2 23 v2 rfl rfl)
  have k2 := h2
  have lt2 : ∀ x ∈ p2, x.block < W.heap.size := by obtain ⟨m, hm⟩ := k2; exact DataW.trod_lt m _ _ _ hm
  obtain ⟨acts, hrd⟩ : ∃ acts, ReadsActs (.slice ad len cap) acts W := by
    obtain ⟨fuel, hf⟩ := h2
    exact reads_of hf
  clear hA0 hval0
  refine (binomWalks_walk a0 a1 _ acts W hrd).mono fun e W' ⟨he, bel⟩ => ?_
  subst he
  exact ⟨_, rfl, _, _, _, [], _, [], hW', trodAll_mk1 (shut_bool Try.underlying4 _), (trodAll_cons_mk (shut_int Try.underlying3 w0) (trodAll_cons_mk (shut_int Try.underlying3 w1) (trodAll_cons_mk (Below.trod binomWalks_laid (by kernel_rfl) (of_decide_eq_true (by kernel_rfl)) k2 bel lt2) trodAll_mk0))), rfl, bel.frame _, fun h => by cases h⟩

theorem binomWalks_over : Rows.binomWalksRow.holds Try.pinned (OpenSpec.ofChange Rows.binomWalksSpec) :=
  OpenClaim.holds_of_wide 4 Try.f4 rfl rfl rfl rfl rfl rfl rfl ⟨rfl, rfl, rfl, rfl, rfl⟩ rfl rfl rfl rfl rfl (by kernel_rfl) Try.func4 (by kernel_rfl)
    (of_decide_eq_true (by kernel_rfl)) (by unfold Func.isWrapper; first | (rw [if_pos (by decide +kernel)]; kernel_rfl) | (rw [if_neg (by decide +kernel)]; exact ⟨rfl, rfl⟩))
    (fun os started H enc _ => binomWalks_lifted os started H enc)

/-- THE STATEMENT. -/
theorem binomWalks_proved : Rows.BinomWalksSaid := binomWalks_over
#print axioms binomWalks_proved

end Go.Proofs.Ythbdhcbdhcgkfaa
