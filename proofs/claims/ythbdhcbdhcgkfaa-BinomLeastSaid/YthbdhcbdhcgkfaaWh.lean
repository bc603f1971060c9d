/- The walk of (*walk).do, its acts that are allowed; do whole. -/
import Derived.Test.YthbdhcbdhcgkfaaWg
namespace Go.Proofs.Ythbdhcbdhcgkfaa
open Go.RowKit
set_option linter.unusedVariables false

set_option maxHeartbeats 800000 in
theorem do_mark (N b g l s : Nat) (st : St) (j : Nat) (w : World) (h : WalkAt b g l s st w) (hl : l ≤ 512) (hs : s ≤ 512) (ok : StOk l st) (hb : N ≤ b) (hg : N ≤ g)
    (c1 : (j : Int) = st.pos) (c2 : hasB l st.on j = false) (c3 : st.marks < s) :
    Calls Try.prog 24 #[.pointer (some ⟨b, 0, none⟩), .agg #[.int .i64 2, .int .i64 j]] w (DoPost N b g l s st 2 j w) := by
  have h0 := h.c0
  have h1 := h.c1
  have h2 := h.c2
  have h3 := h.c3
  have h6 := h.c6
  have f3 := h.free 3
  have nb := h.ltb
  have ng := h.ltg
  have ne := h.ne
  obtain ⟨p0, p1, m0, m1, l0, l1, g0, g1⟩ := ok
  have hj : j ≤ l := by omega
  have hm := h.mark hj
  have fm := h.freeG j
  have hsome : stepW l s st 2 j = some { st with on := st.on.set j true, marks := st.marks + 1 } := by simp [stepW, c1, c3]; rw [← c1]; exact ⟨c2, by simp⟩
  have HS := Lib.hid hsome
  have t1 : ((j : Int) != st.pos) = false := by simp [c1]
  have t2 : decide ((s : Int) ≤ st.marks) = false := by simp; omega
  have HV := Lib.hid c2
  clear c1 c2 c3 hsome
  go_enter Try.func24, Try.ntmps24
  go_wp2
  go_quiet ((go_at_call 29; exact Calls.quiet_of_same (has_v b g l s st _ false _ ((h.alloc _).drewN _) HV.out)))
  go_wp2
  go_region
  go_wp2
  go_ret
  exact ⟨(((below_drewN ((Below.refl _ _).alloc (by omega) _) _).setCell hg _).setCell hb _), .inl ⟨_, HS.out, rfl, (((h.alloc _).drewN _).setMark j true).field _ 3 _ rfl rfl⟩⟩

set_option maxHeartbeats 800000 in
theorem do_drop (N b g l s : Nat) (st : St) (j : Nat) (w : World) (h : WalkAt b g l s st w) (hl : l ≤ 512) (hs : s ≤ 512) (ok : StOk l st) (hb : N ≤ b) (hg : N ≤ g)
    (c1 : (j : Int) ≠ 0) (hj : j ≤ l) (c2 : hasB l st.on j = true) :
    Calls Try.prog 24 #[.pointer (some ⟨b, 0, none⟩), .agg #[.int .i64 3, .int .i64 j]] w (DoPost N b g l s st 3 j w) := by
  have h3 := h.c3
  have h6 := h.c6
  have f3 := h.free 3
  have nb := h.ltb
  have ng := h.ltg
  have ne := h.ne
  obtain ⟨p0, p1, m0, m1, l0, l1, g0, g1⟩ := ok
  have hm := h.mark hj
  have fm := h.freeG j
  have hsome : stepW l s st 3 j = some { st with on := st.on.set j false, marks := st.marks - 1 } := by simp [stepW, c2]; exact fun h => c1 (by omega)
  have HS := Lib.hid hsome
  have t1 : ((j : Int) == 0) = false := by simp; omega
  have HV := Lib.hid c2
  clear c1 c2 hsome
  go_enter Try.func24, Try.ntmps24
  go_wp2_with (go_at_call 29; refine (has_v b g l s st _ true _ (h.alloc _) HV.out).mono ?_; rintro e w' ⟨rfl, rfl⟩)
  go_region
  go_wp2
  go_ret
  exact ⟨((((Below.refl _ _).setCell hg _).setCell hb _).alloc (by simp; omega) _).drew, .inl ⟨_, HS.out, rfl, (((h.setMark j false).field { st with on := st.on.set j false, marks := st.marks - 1 } 3 _ rfl rfl).alloc _).drewN 1⟩⟩

set_option maxHeartbeats 800000 in
theorem do_back (N b g l s : Nat) (st : St) (a : Int) (w : World) (h : WalkAt b g l s st w) (hl : l ≤ 512) (hs : s ≤ 512) (ok : StOk l st) (hb : N ≤ b) (hg : N ≤ g)
    (c1 : st.last ≠ 0) (c2 : a = st.last) (c3 : st.pos = st.last - 1) :
    Calls Try.prog 24 #[.pointer (some ⟨b, 0, none⟩), .agg #[.int .i64 4, .int .i64 a]] w (DoPost N b g l s st 4 a w) := by
  have h2 := h.c2
  have h4 := h.c4
  have f4 := h.free 4
  have nb := h.ltb
  obtain ⟨p0, p1, m0, m1, l0, l1, g0, g1⟩ := ok
  have hsome : stepW l s st 4 a = some { st with last := st.last - 1 } := by simp [stepW, c1, c2, c3]
  have HS := Lib.hid hsome
  have t1 : (st.last == 0) = false := by simp [c1]
  have t2 : (a != st.last) = false := by simp [c2]
  have t3 : (st.pos != st.last - 1) = false := by simp [c3]
  clear c1 c2 c3 hsome
  go_enter Try.func24, Try.ntmps24
  go_wp2
  have ew : IntKind.i64.wrap (st.last - 1) = st.last - 1 := IntWalk.i64_in _ (by omega)
  go_quiet (fail)
  clear ew
  go_wp2
  go_ret
  exact ⟨(below_drewN ((Below.refl _ _).alloc (by omega) _) _).setCell hb _, .inl ⟨_, HS.out, rfl, ((h.alloc _).drewN _).field _ 4 _ rfl rfl⟩⟩

set_option maxHeartbeats 800000 in
theorem do_jump (N b g l s : Nat) (st : St) (a : Int) (w : World) (h : WalkAt b g l s st w) (hl : l ≤ 512) (hs : s ≤ 512) (ok : StOk l st) (hb : N ≤ b) (hg : N ≤ g)
    (c2 : hasB l st.on a = true) :
    Calls Try.prog 24 #[.pointer (some ⟨b, 0, none⟩), .agg #[.int .i64 5, .int .i64 a]] w (DoPost N b g l s st 5 a w) := by
  have h2 := h.c2
  have f2 := h.free 2
  have nb := h.ltb
  obtain ⟨p0, p1, m0, m1, l0, l1, g0, g1⟩ := ok
  have hsome : stepW l s st 5 a = some { st with pos := a } := by simp [stepW, c2]
  have HS := Lib.hid hsome
  have HV := Lib.hid c2
  clear c2 hsome
  go_enter Try.func24, Try.ntmps24
  go_wp2_with (go_at_call 29; refine (has_v b g l s st _ true _ (h.alloc _) HV.out).mono ?_; rintro e w' ⟨rfl, rfl⟩)
  go_ret
  exact ⟨((Below.refl _ _).setCell hb _).alloc (by simp; omega) _, .inl ⟨_, HS.out, rfl, (h.field { st with pos := a } 2 _ rfl rfl).alloc _⟩⟩

set_option maxHeartbeats 800000 in
theorem do_other (N b g l s : Nat) (st : St) (k a : Int) (w : World) (h : WalkAt b g l s st w) (hb : N ≤ b) (hg : N ≤ g)
    (c1 : k ≠ 1) (c2 : k ≠ 2) (c3 : k ≠ 3) (c4 : k ≠ 4) (c5 : k ≠ 5) :
    Calls Try.prog 24 #[.pointer (some ⟨b, 0, none⟩), .agg #[.int .i64 k, .int .i64 a]] w (DoPost N b g l s st k a w) := by
  have nb := h.ltb
  have hnone : stepW l s st k a = none := by simp [stepW, c1, c2, c3, c4, c5]
  have HN := Lib.hid hnone
  have t1 : (k == 1) = false := by simp [c1]
  have t2 : (k == 2) = false := by simp [c2]
  have t3 : (k == 3) = false := by simp [c3]
  have t4 : (k == 4) = false := by simp [c4]
  have t5 : (k == 5) = false := by simp [c5]
  clear c1 c2 c3 c4 c5 hnone
  go_enter Try.func24, Try.ntmps24
  go_wp2
  go_ret
  exact ⟨(Below.refl _ _).alloc (by omega) _, .inr ⟨HN.out, rfl⟩⟩

theorem hasB_range {l : Nat} {on : List Bool} {a : Int} (h : hasB l on a = true) : ∃ j : Nat, a = j ∧ j ≤ l := by
  simp only [hasB, Bool.and_eq_true, decide_eq_true_eq] at h
  exact ⟨a.toNat, by omega, by omega⟩

theorem do_any (N b g l s : Nat) (st : St) (k a : Int) (w : World) (h : WalkAt b g l s st w) (hl : l ≤ 512) (hs : s ≤ 512) (ok : StOk l st) (hb : N ≤ b) (hg : N ≤ g) :
    Calls Try.prog 24 #[.pointer (some ⟨b, 0, none⟩), .agg #[.int .i64 k, .int .i64 a]] w (DoPost N b g l s st k a w) := by
  by_cases k1 : k = 1
  · subst k1
    by_cases c1 : a = st.pos + 1
    · by_cases c2 : a ≤ l
      · exact do_go N b g l s st a w h hl ok hb hg c1 c2
      · exact do_go_no2 N b g l s st a w h hl hs ok hb hg c1 c2
    · exact do_go_no1 N b g l s st a w h hl hs ok hb hg c1
  by_cases k2 : k = 2
  · subst k2
    by_cases c1 : a = st.pos
    · cases c2 : hasB l st.on a with
      | true => exact do_mark_no2 N b g l s st a w h hl hs ok hb hg c1 c2
      | false =>
        by_cases c3 : st.marks < s
        · obtain ⟨j, rfl⟩ := Int.eq_ofNat_of_zero_le (show 0 ≤ a by have := ok.p0; omega)
          exact do_mark N b g l s st j w h hl hs ok hb hg c1 c2 c3
        · exact do_mark_no3 N b g l s st a w h hl hs ok hb hg c1 c2 c3
    · exact do_mark_no1 N b g l s st a w h hl hs ok hb hg c1
  by_cases k3 : k = 3
  · subst k3
    by_cases c1 : a = 0
    · exact do_drop_no1 N b g l s st a w h hl hs ok hb hg c1
    · cases c2 : hasB l st.on a with
      | false => exact do_drop_no2 N b g l s st a w h hl hs ok hb hg c1 c2
      | true =>
        obtain ⟨j, rfl, hj⟩ := hasB_range c2
        exact do_drop N b g l s st j w h hl hs ok hb hg c1 hj c2
  by_cases k4 : k = 4
  · subst k4
    by_cases c1 : st.last = 0
    · exact do_back_no1 N b g l s st a w h hl hs ok hb hg c1
    · by_cases c2 : a = st.last
      · by_cases c3 : st.pos = st.last - 1
        · exact do_back N b g l s st a w h hl hs ok hb hg c1 c2 c3
        · exact do_back_no3 N b g l s st a w h hl hs ok hb hg c1 c2 c3
      · exact do_back_no2 N b g l s st a w h hl hs ok hb hg c1 c2
  by_cases k5 : k = 5
  · subst k5
    cases c2 : hasB l st.on a with
    | false => exact do_jump_no N b g l s st a w h hl hs ok hb hg c2
    | true => exact do_jump N b g l s st a w h hl hs ok hb hg c2
  exact do_other N b g l s st k a w h hb hg k1 k2 k3 k4 k5

end Go.Proofs.Ythbdhcbdhcgkfaa
