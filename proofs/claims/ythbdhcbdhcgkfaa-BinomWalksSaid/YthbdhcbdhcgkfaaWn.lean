/- The walk of athanorref19.Walk: the reference answers what the plain traversal answers. -/
import Derived.Test.YthbdhcbdhcgkfaaWm
namespace Go.Proofs.Ythbdhcbdhcgkfaa
open Go.RowKit
set_option linter.unusedVariables false

/-- Marks as the reference keeps them. -/
def markI (on : List Bool) : List Int := on.map fun b => if b then 1 else 0

theorem markI_get (on : List Bool) (j : Nat) (hj : j < on.length) : (markI on)[j]? = some (if on.getD j false then 1 else 0) := by
  simp [markI, List.getD_eq_getElem?_getD, List.getElem?_eq_getElem hj]
theorem markI_set (on : List Bool) (j : Nat) (b : Bool) : (markI on).set j (if b then 1 else 0) = markI (on.set j b) := by
  simp [markI]
theorem hasB_in {l : Nat} {on : List Bool} {j : Nat} (hj : j ≤ l) : hasB l on j = on.getD j false := by
  simp [hasB]; omega

theorem step_out {l s : Nat} {st : St} {k a : Int} (ok : StOk l st) (h : ¬ (0 ≤ a ∧ a ≤ l)) : stepW l s st k a = none := by
  obtain ⟨p0, p1, m0, m1, l0, l1, g0, g1⟩ := ok
  have hf : hasB l st.on a = false := by simp [hasB]; omega
  unfold stepW
  rw [hf]
  split
  · rw [if_neg (by omega)]
  split
  · rw [if_neg (by omega)]
  split
  · simp
  split
  · rw [if_neg (by omega)]
  split <;> simp

def refV (r : Option Int) : Int := r.getD (-1)

/-- What the reference's loop holds beyond StN: marks and flags fit. -/
structure StR (l s : Nat) (st : St) : Prop where
  len : st.on.length = l + 1
  top : st.marks ≤ s

theorem StR.zero (l s : Nat) : StR l s (st0 l) := ⟨by simp [st0], by simp [st0]⟩
theorem StR.step {l s : Nat} {st st' : St} {k a : Int} (h : StR l s st) (hs : stepW l s st k a = some st') : StR l s st' := by
  obtain ⟨h1, h2⟩ := h
  unfold stepW at hs
  split at hs
  · split at hs
    · simp only [Option.some.injEq] at hs; subst hs; exact ⟨h1, h2⟩
    · cases hs
  split at hs
  · split at hs
    · simp only [Option.some.injEq] at hs; subst hs; exact ⟨by simpa using h1, by simp only; omega⟩
    · cases hs
  split at hs
  · split at hs
    · simp only [Option.some.injEq] at hs; subst hs; exact ⟨by simpa using h1, by simp only; omega⟩
    · cases hs
  split at hs
  · split at hs
    · simp only [Option.some.injEq] at hs; subst hs; exact ⟨h1, h2⟩
    · cases hs
  split at hs
  · split at hs
    · simp only [Option.some.injEq] at hs; subst hs; exact ⟨h1, h2⟩
    · cases hs
  · cases hs

theorem walkR_none {l s k : Nat} {acts : List (Int × Int)} {st : St} {kk aa : Int} (hka : acts[k]? = some (kk, aa)) (hfold : foldW l s (st0 l) (acts.take k) = some st) (hn : stepW l s st kk aa = none) : walkR l s acts = none := by
  unfold walkR
  have e1 : foldW l s (st0 l) (acts.take (k + 1)) = none := by rw [take_snoc acts k _ hka, foldW_snoc, hfold]; exact hn
  have e2 := foldW_none l s (st0 l) (acts.take (k + 1)) (acts.drop (k + 1)) e1
  rw [List.take_append_drop] at e2
  rw [e2]; rfl

theorem fold_next {l s k : Nat} {acts : List (Int × Int)} {st st' : St} {kk aa : Int} (hka : acts[k]? = some (kk, aa)) (hfold : foldW l s (st0 l) (acts.take k) = some st) (hn : stepW l s st kk aa = some st') : foldW l s (st0 l) (acts.take (k + 1)) = some st' := by
  rw [take_snoc acts k _ hka, foldW_snoc, hfold]; exact hn

set_option maxRecDepth 100000 in
set_option maxHeartbeats 6400000 in
theorem refWalk_any (l s : Nat) (v : Value) (acts : List (Int × Int)) (w : World) (h1 : 1 ≤ l) (h2 : l ≤ 512) (h3 : s ≤ 512) (hr : ReadsActs v acts w) (hlen : acts.length ≤ 1000000) :
    Calls Try.prog 14 #[.int .i64 l, .int .i64 s, v] w fun e w' => e = .returned (.int .i64 (refV (walkR l s acts))) ∧ Below w.heap.size w w' := by
  have hmk := make_ints l l rfl (by omega)
  obtain ⟨a0, cap, hv⟩ : ∃ a0 cap, v = .slice a0 acts.length cap := by
    rcases hr with ⟨rfl, a, cap, rfl⟩ | ⟨g, off, cap, rfl, _⟩
    · exact ⟨a, cap, rfl⟩
    · exact ⟨_, _, rfl⟩
  subst hv
  go_enter Try.func14, Try.ntmps14
  go_wp2_with fail
  have hrow0 : RowAt w.heap.size (markI (st0 l).on) (w.alloc (.cells ((intCells (List.replicate (l + 1) 0)).setIfInBounds 0 (.int .i64 1)) 3)) := by
    unfold RowAt; rw [heap_alloc_new]
    simp [intCells, markI, st0, List.replicate_succ]
  go_loopw [7, 8, 9, 11, 12] (fun xp xl xg xm xi wr => ∃ (k : Nat) (st : St), k ≤ acts.length ∧ xp = .int .i64 st.pos ∧ xl = .int .i64 st.last ∧ xg = .int .i64 st.gos ∧ xm = .int .i64 st.marks ∧ xi = .int .i64 k ∧ Hid (foldW l s (st0 l) (acts.take k) = some st) ∧ StN l k st ∧ StR l s st ∧ RowAt w.heap.size (markI st.on) wr ∧ Below w.heap.size w wr) (fun _ _ _ _ xi _ => acts.length - (intOf xi).toNat)
  case atStart => exact ⟨0, st0 l, by omega, rfl, rfl, rfl, rfl, rfl, rfl, StN.zero l, StR.zero l s, hrow0, (Below.refl _ _).alloc (Nat.le_refl _) _⟩
  case round =>
    clear hrow0
    obtain ⟨k, st, hk, rfl, rfl, rfl, rfl, rfl, hfold, hst, hsr, hrow, hbk⟩ := hrel
    have hok := hst.ok (by omega)
    obtain ⟨p0, p1, m0, m1, l0, l1, g0, g1⟩ := hok
    by_cases hlt : k < acts.length
    · rcases hr with ⟨rfl, _⟩ | ⟨g, off, cap', hv, hgl, hcell⟩
      · simp at hlt
      have hv' : a0 = some ⟨g, off, none⟩ := by injection hv
      subst hv'
      obtain ⟨⟨kk, aa⟩, hka⟩ : ∃ x, acts[k]? = some x := ⟨_, List.getElem?_eq_getElem hlt⟩
      obtain ⟨q1, q2⟩ := hcell k kk aa hka
      have q3 : wr.cell? ⟨g, off + k * 2, none⟩ = some (.int .i64 kk) := by rw [hbk.cell hgl]; exact q1
      have q4 : wr.cell? ⟨g, off + k * 2 + 1, none⟩ = some (.int .i64 aa) := by rw [hbk.cell hgl]; exact q2
      have HKA := Lib.hid hka
      clear q1 q2 hcell hv hka
      have hki : (k : Int) < (acts.length : Int) := by omega
      by_cases hin : 0 ≤ aa ∧ aa ≤ (l : Int)
      · obtain ⟨i1, i2⟩ := hin
        obtain ⟨j, rfl⟩ := Int.eq_ofNat_of_zero_le i1
        have hj : j ≤ l := by omega
        have hm := hrow.cell (markI_get st.on j (by have := hsr.len; omega))
        have hmf := hrow.free j
        have d1 : decide ((j : Int) < 0) = false := by simp
        have d2 : decide ((l : Int) < (j : Int)) = false := by simp; omega
        have htop := hsr.top
        cases hon : st.on.getD j false with
        | false =>
          rw [hon] at hm
          have hb := (hasB_in (on := st.on) hj).trans hon
          have HB := Lib.hid hb
          clear hon hb
          simp only [if_false, Bool.false_eq_true] at hm
          by_cases k1 : kk = 1
          · subst k1
            by_cases c1 : (j : Int) = st.pos + 1
            · have hsome : stepW l s st 1 j = some { st with pos := (j : Int), gos := st.gos + 1 } := by simp [stepW, c1]; omega
              have HF := Lib.hid (fold_next HKA.out hfold.out hsome)
              have HN := hst.step hsome
              have HM := hsr.step hsome
              clear hsome
              have t1 : ((j : Int) != st.pos + 1) = false := by simp [c1]
              clear c1
              go_wp2
              go_quiet (fail)
              go_wp2
              go_roundw
              case rel => exact ⟨k + 1, { st with pos := (j : Int), gos := st.gos + 1 }, by omega, rfl, rfl, rfl, rfl, by go_num, HF, HN, HM, hrow.drewN _, below_drewN hbk _⟩
              case measure => simp [intOf]; omega
            · have hnone : stepW l s st 1 j = none := by simp [stepW, c1]
              have HR := Lib.hid (walkR_none HKA.out hfold.out hnone)
              clear hnone
              have t1 : ((j : Int) != st.pos + 1) = true := by simp [c1]
              clear c1
              go_wp2
              go_quiet (fail)
              go_wp2
              go_ret
              exact ⟨ret_int (by rw [HR.out]; rfl), below_drewN hbk _⟩
          by_cases k2 : kk = 2
          · subst k2
            by_cases c1 : (j : Int) = st.pos
            · by_cases c2 : st.marks < (s : Int)
              · have hsome : stepW l s st 2 j = some { st with on := st.on.set j true, marks := st.marks + 1 } := by simp only [stepW, HB.out]; simp [c1, c2]; rw [← c1]; simp
                have HF := Lib.hid (fold_next HKA.out hfold.out hsome)
                have HN := hst.step hsome
                have HM := hsr.step hsome
                clear hsome
                have t1 : ((j : Int) != st.pos) = false := by simp [c1]
                have t2 : (st.marks == (s : Int)) = false := by simp; omega
                clear c1
                go_wp2
                go_quiet (fail)
                go_wp2
                go_roundw
                case rel => exact ⟨k + 1, { st with on := st.on.set j true, marks := st.marks + 1 }, by omega, rfl, rfl, rfl, rfl, by go_num, HF, HN, HM, ((hrow.drewN _).fin (markI_set st.on j true)), (below_drewN hbk _).setCell (Nat.le_refl _) _⟩
                case measure => simp [intOf]; omega
              · have hnone : stepW l s st 2 j = none := by simp [stepW, c2]
                have HR := Lib.hid (walkR_none HKA.out hfold.out hnone)
                clear hnone
                have t1 : ((j : Int) != st.pos) = false := by simp [c1]
                have t2 : (st.marks == (s : Int)) = true := by simp; omega
                clear c1
                go_wp2
                go_quiet (fail)
                go_wp2
                go_ret
                exact ⟨ret_int (by rw [HR.out]; rfl), below_drewN hbk _⟩
            · have hnone : stepW l s st 2 j = none := by simp [stepW, c1]
              have HR := Lib.hid (walkR_none HKA.out hfold.out hnone)
              clear hnone
              have t1 : ((j : Int) != st.pos) = true := by simp [c1]
              clear c1
              go_wp2
              go_quiet (fail)
              go_wp2
              go_ret
              exact ⟨ret_int (by rw [HR.out]; rfl), below_drewN hbk _⟩
          by_cases k3 : kk = 3
          · subst k3
            by_cases c1 : (j : Int) = 0
            · have hnone : stepW l s st 3 j = none := by simp [stepW, HB.out]
              have HR := Lib.hid (walkR_none HKA.out hfold.out hnone)
              clear hnone
              have t1 : ((j : Int) == 0) = true := by simp; omega
              clear c1
              go_wp2
              go_quiet (fail)
              go_wp2
              go_ret
              exact ⟨ret_int (by rw [HR.out]; rfl), below_drewN hbk _⟩
            · have hnone : stepW l s st 3 j = none := by simp [stepW, HB.out]
              have HR := Lib.hid (walkR_none HKA.out hfold.out hnone)
              clear hnone
              have t1 : ((j : Int) == 0) = false := by simp; omega
              clear c1
              go_wp2
              go_quiet (fail)
              go_wp2
              go_ret
              exact ⟨ret_int (by rw [HR.out]; rfl), below_drewN hbk _⟩
          by_cases k4 : kk = 4
          · subst k4
            by_cases c1 : st.last = 0
            · have hnone : stepW l s st 4 j = none := by simp [stepW, c1]
              have HR := Lib.hid (walkR_none HKA.out hfold.out hnone)
              clear hnone
              have t1 : (st.last == 0) = true := by simp [c1]
              clear c1
              go_wp2
              go_quiet (fail)
              go_wp2
              go_ret
              exact ⟨ret_int (by rw [HR.out]; rfl), below_drewN hbk _⟩
            · by_cases c2 : (j : Int) = st.last
              · by_cases c3 : st.pos = (j : Int) - 1
                · have hsome : stepW l s st 4 j = some { st with last := st.last - 1 } := by simp [stepW, ← c2, c3]; omega
                  have HF := Lib.hid (fold_next HKA.out hfold.out hsome)
                  have HN := hst.step hsome
                  have HM := hsr.step hsome
                  clear hsome
                  have t1 : (st.last == 0) = false := by simp [c1]
                  have t2 : ((j : Int) != st.last) = false := by simp [c2]
                  have t3 : (st.pos != (j : Int) - 1) = false := by simp [c3]
                  clear c1 c2 c3
                  go_wp2
                  go_quiet (fail)
                  go_wp2
                  go_roundw
                  case rel => exact ⟨k + 1, { st with last := st.last - 1 }, by omega, rfl, rfl, rfl, rfl, by go_num, HF, HN, HM, hrow.drewN _, below_drewN hbk _⟩
                  case measure => simp [intOf]; omega
                · have hnone : stepW l s st 4 j = none := by simp [stepW, ← c2, c3]
                  have HR := Lib.hid (walkR_none HKA.out hfold.out hnone)
                  clear hnone
                  have t1 : (st.last == 0) = false := by simp [c1]
                  have t2 : ((j : Int) != st.last) = false := by simp [c2]
                  have t3 : (st.pos != (j : Int) - 1) = true := by simp [c3]
                  clear c1 c2 c3
                  go_wp2
                  go_quiet (fail)
                  go_wp2
                  go_ret
                  exact ⟨ret_int (by rw [HR.out]; rfl), below_drewN hbk _⟩
              · have hnone : stepW l s st 4 j = none := by simp [stepW, c2]
                have HR := Lib.hid (walkR_none HKA.out hfold.out hnone)
                clear hnone
                have t1 : (st.last == 0) = false := by simp [c1]
                have t2 : ((j : Int) != st.last) = true := by simp [c2]
                clear c1 c2
                go_wp2
                go_quiet (fail)
                go_wp2
                go_ret
                exact ⟨ret_int (by rw [HR.out]; rfl), below_drewN hbk _⟩
          by_cases k5 : kk = 5
          · subst k5
            have hnone : stepW l s st 5 j = none := by simp [stepW, HB.out]
            have HR := Lib.hid (walkR_none HKA.out hfold.out hnone)
            clear hnone
            go_wp2
            go_quiet (fail)
            go_wp2
            go_ret
            exact ⟨ret_int (by rw [HR.out]; rfl), below_drewN hbk _⟩
          have hnone : stepW l s st kk j = none := by simp [stepW, k1, k2, k3, k4, k5]
          have HR := Lib.hid (walkR_none HKA.out hfold.out hnone)
          clear hnone
          have t1 : (kk == 1) = false := by simp [k1]
          have t2 : (kk == 2) = false := by simp [k2]
          have t3 : (kk == 3) = false := by simp [k3]
          have t4 : (kk == 4) = false := by simp [k4]
          have t5 : (kk == 5) = false := by simp [k5]
          clear k1 k2 k3 k4 k5
          go_wp2
          go_quiet (fail)
          go_wp2
          go_ret
          exact ⟨ret_int (by rw [HR.out]; rfl), below_drewN hbk _⟩
        | true =>
          rw [hon] at hm
          have hb := (hasB_in (on := st.on) hj).trans hon
          have HB := Lib.hid hb
          clear hon hb
          simp only [if_true] at hm
          by_cases k1 : kk = 1
          · subst k1
            by_cases c1 : (j : Int) = st.pos + 1
            · have hsome : stepW l s st 1 j = some { st with pos := (j : Int), gos := st.gos + 1 } := by simp [stepW, c1]; omega
              have HF := Lib.hid (fold_next HKA.out hfold.out hsome)
              have HN := hst.step hsome
              have HM := hsr.step hsome
              clear hsome
              have t1 : ((j : Int) != st.pos + 1) = false := by simp [c1]
              clear c1
              go_wp2
              go_quiet (fail)
              go_wp2
              go_roundw
              case rel => exact ⟨k + 1, { st with pos := (j : Int), gos := st.gos + 1 }, by omega, rfl, rfl, rfl, rfl, by go_num, HF, HN, HM, hrow.drewN _, below_drewN hbk _⟩
              case measure => simp [intOf]; omega
            · have hnone : stepW l s st 1 j = none := by simp [stepW, c1]
              have HR := Lib.hid (walkR_none HKA.out hfold.out hnone)
              clear hnone
              have t1 : ((j : Int) != st.pos + 1) = true := by simp [c1]
              clear c1
              go_wp2
              go_quiet (fail)
              go_wp2
              go_ret
              exact ⟨ret_int (by rw [HR.out]; rfl), below_drewN hbk _⟩
          by_cases k2 : kk = 2
          · subst k2
            by_cases c1 : (j : Int) = st.pos
            · have hnone : stepW l s st 2 j = none := by simp [stepW, HB.out]
              have HR := Lib.hid (walkR_none HKA.out hfold.out hnone)
              clear hnone
              have t1 : ((j : Int) != st.pos) = false := by simp [c1]
              clear c1
              go_wp2
              go_quiet (fail)
              go_wp2
              go_ret
              exact ⟨ret_int (by rw [HR.out]; rfl), below_drewN hbk _⟩
            · have hnone : stepW l s st 2 j = none := by simp [stepW, c1]
              have HR := Lib.hid (walkR_none HKA.out hfold.out hnone)
              clear hnone
              have t1 : ((j : Int) != st.pos) = true := by simp [c1]
              clear c1
              go_wp2
              go_quiet (fail)
              go_wp2
              go_ret
              exact ⟨ret_int (by rw [HR.out]; rfl), below_drewN hbk _⟩
          by_cases k3 : kk = 3
          · subst k3
            by_cases c1 : (j : Int) = 0
            · have hnone : stepW l s st 3 j = none := by simp [stepW]; omega
              have HR := Lib.hid (walkR_none HKA.out hfold.out hnone)
              clear hnone
              have t1 : ((j : Int) == 0) = true := by simp; omega
              clear c1
              go_wp2
              go_quiet (fail)
              go_wp2
              go_ret
              exact ⟨ret_int (by rw [HR.out]; rfl), below_drewN hbk _⟩
            · have hsome : stepW l s st 3 j = some { st with on := st.on.set j false, marks := st.marks - 1 } := by simp [stepW, HB.out]; omega
              have HF := Lib.hid (fold_next HKA.out hfold.out hsome)
              have HN := hst.step hsome
              have HM := hsr.step hsome
              clear hsome
              have t1 : ((j : Int) == 0) = false := by simp; omega
              clear c1
              go_wp2
              go_quiet (fail)
              go_wp2
              go_roundw
              case rel => exact ⟨k + 1, { st with on := st.on.set j false, marks := st.marks - 1 }, by omega, rfl, rfl, rfl, rfl, by go_num, HF, HN, HM, ((hrow.drewN _).fin (markI_set st.on j false)), (below_drewN hbk _).setCell (Nat.le_refl _) _⟩
              case measure => simp [intOf]; omega
          by_cases k4 : kk = 4
          · subst k4
            by_cases c1 : st.last = 0
            · have hnone : stepW l s st 4 j = none := by simp [stepW, c1]
              have HR := Lib.hid (walkR_none HKA.out hfold.out hnone)
              clear hnone
              have t1 : (st.last == 0) = true := by simp [c1]
              clear c1
              go_wp2
              go_quiet (fail)
              go_wp2
              go_ret
              exact ⟨ret_int (by rw [HR.out]; rfl), below_drewN hbk _⟩
            · by_cases c2 : (j : Int) = st.last
              · by_cases c3 : st.pos = (j : Int) - 1
                · have hsome : stepW l s st 4 j = some { st with last := st.last - 1 } := by simp [stepW, ← c2, c3]; omega
                  have HF := Lib.hid (fold_next HKA.out hfold.out hsome)
                  have HN := hst.step hsome
                  have HM := hsr.step hsome
                  clear hsome
                  have t1 : (st.last == 0) = false := by simp [c1]
                  have t2 : ((j : Int) != st.last) = false := by simp [c2]
                  have t3 : (st.pos != (j : Int) - 1) = false := by simp [c3]
                  clear c1 c2 c3
                  go_wp2
                  go_quiet (fail)
                  go_wp2
                  go_roundw
                  case rel => exact ⟨k + 1, { st with last := st.last - 1 }, by omega, rfl, rfl, rfl, rfl, by go_num, HF, HN, HM, hrow.drewN _, below_drewN hbk _⟩
                  case measure => simp [intOf]; omega
                · have hnone : stepW l s st 4 j = none := by simp [stepW, ← c2, c3]
                  have HR := Lib.hid (walkR_none HKA.out hfold.out hnone)
                  clear hnone
                  have t1 : (st.last == 0) = false := by simp [c1]
                  have t2 : ((j : Int) != st.last) = false := by simp [c2]
                  have t3 : (st.pos != (j : Int) - 1) = true := by simp [c3]
                  clear c1 c2 c3
                  go_wp2
                  go_quiet (fail)
                  go_wp2
                  go_ret
                  exact ⟨ret_int (by rw [HR.out]; rfl), below_drewN hbk _⟩
              · have hnone : stepW l s st 4 j = none := by simp [stepW, c2]
                have HR := Lib.hid (walkR_none HKA.out hfold.out hnone)
                clear hnone
                have t1 : (st.last == 0) = false := by simp [c1]
                have t2 : ((j : Int) != st.last) = true := by simp [c2]
                clear c1 c2
                go_wp2
                go_quiet (fail)
                go_wp2
                go_ret
                exact ⟨ret_int (by rw [HR.out]; rfl), below_drewN hbk _⟩
          by_cases k5 : kk = 5
          · subst k5
            have hsome : stepW l s st 5 j = some { st with pos := (j : Int) } := by simp [stepW, HB.out]
            have HF := Lib.hid (fold_next HKA.out hfold.out hsome)
            have HN := hst.step hsome
            have HM := hsr.step hsome
            clear hsome
            go_wp2
            go_quiet (fail)
            go_wp2
            go_roundw
            case rel => exact ⟨k + 1, { st with pos := (j : Int) }, by omega, rfl, rfl, rfl, rfl, by go_num, HF, HN, HM, hrow.drewN _, below_drewN hbk _⟩
            case measure => simp [intOf]; omega
          have hnone : stepW l s st kk j = none := by simp [stepW, k1, k2, k3, k4, k5]
          have HR := Lib.hid (walkR_none HKA.out hfold.out hnone)
          clear hnone
          have t1 : (kk == 1) = false := by simp [k1]
          have t2 : (kk == 2) = false := by simp [k2]
          have t3 : (kk == 3) = false := by simp [k3]
          have t4 : (kk == 4) = false := by simp [k4]
          have t5 : (kk == 5) = false := by simp [k5]
          clear k1 k2 k3 k4 k5
          go_wp2
          go_quiet (fail)
          go_wp2
          go_ret
          exact ⟨ret_int (by rw [HR.out]; rfl), below_drewN hbk _⟩
      · have HO := Lib.hid hin
        clear hin
        by_cases c1 : aa < 0
        · have hnone : stepW l s st kk aa = none := by exact step_out ⟨p0, p1, m0, m1, l0, l1, g0, g1⟩ HO.out
          have HR := Lib.hid (walkR_none HKA.out hfold.out hnone)
          clear hnone
          have d1 : decide (aa < 0) = true := by simp [c1]
          go_wp2
          go_quiet (fail)
          go_wp2
          go_ret
          exact ⟨ret_int (by rw [HR.out]; rfl), below_drewN hbk _⟩
        · have hnone : stepW l s st kk aa = none := by exact step_out ⟨p0, p1, m0, m1, l0, l1, g0, g1⟩ HO.out
          have HR := Lib.hid (walkR_none HKA.out hfold.out hnone)
          clear hnone
          have d1 : decide (aa < 0) = false := by simp; omega
          have d2 : decide ((l : Int) < aa) = true := by have := HO.out; simp; omega
          go_wp2
          go_quiet (fail)
          go_wp2
          go_ret
          exact ⟨ret_int (by rw [HR.out]; rfl), below_drewN hbk _⟩
    · obtain rfl : k = acts.length := by omega
      have e0 := hfold.out
      rw [List.take_length] at e0
      by_cases hlast : 0 < st.last
      · have hres : walkR l s acts = none := by unfold walkR; rw [e0]; simp [hlast]
        have HR := Lib.hid hres
        clear hres e0
        go_wp2
        go_ret
        exact ⟨ret_int (by rw [HR.out]; rfl), hbk⟩
      · have hres : walkR l s acts = some st.gos := by unfold walkR; rw [e0]; simp [hlast]
        have HR := Lib.hid hres
        clear hres e0
        go_wp2
        go_ret
        exact ⟨ret_int (by rw [HR.out]; rfl), hbk⟩

end Go.Proofs.Ythbdhcbdhcgkfaa
