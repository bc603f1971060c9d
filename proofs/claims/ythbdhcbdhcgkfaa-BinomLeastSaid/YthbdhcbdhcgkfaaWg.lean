/- The walks of (*walk).has and do. -/
import Derived.Test.YthbdhcbdhcgkfaaWf
import Derived.RegionTactic
import Derived.ChangeAlike
import Derived.BigRegion
namespace Go.Proofs.Ythbdhcbdhcgkfaa
open Go.RowKit
set_option linter.unusedVariables false

/-- A traversal: where it is, how many marks, the last step that is not reversed, how many Gos, which positions are marked. -/
structure St where
  pos : Int
  marks : Int
  last : Int
  gos : Int
  on : List Bool

def markCells (mk : List Bool) : Array Value := (mk.map Value.bool).toArray

/-- Blocks b, g hold a traversal of l steps with s marks. -/
structure WalkAt (b g : Nat) (l s : Nat) (st : St) (w : World) : Prop where
  blk : w.heap[b]? = some (.cells #[.int .i64 l, .int .i64 s, .int .i64 st.pos, .int .i64 st.marks, .int .i64 st.last, .int .i64 st.gos, .slice (some ⟨g, 0, none⟩) (l + 1) (l + 1)] 45 (0, 0))
  row : w.heap[g]? = some (.cells (markCells st.on) 4 (0, 0))
  len : st.on.length = l + 1
  ne : b ≠ g

section
variable {b g l s : Nat} {st : St} {w : World}
theorem WalkAt.c0 (h : WalkAt b g l s st w) : w.cell? ⟨b, 0, none⟩ = some (.int .i64 l) := by simp [World.cell?, h.blk]
theorem WalkAt.c1 (h : WalkAt b g l s st w) : w.cell? ⟨b, 1, none⟩ = some (.int .i64 s) := by simp [World.cell?, h.blk]
theorem WalkAt.c2 (h : WalkAt b g l s st w) : w.cell? ⟨b, 2, none⟩ = some (.int .i64 st.pos) := by simp [World.cell?, h.blk]
theorem WalkAt.c3 (h : WalkAt b g l s st w) : w.cell? ⟨b, 3, none⟩ = some (.int .i64 st.marks) := by simp [World.cell?, h.blk]
theorem WalkAt.c4 (h : WalkAt b g l s st w) : w.cell? ⟨b, 4, none⟩ = some (.int .i64 st.last) := by simp [World.cell?, h.blk]
theorem WalkAt.c5 (h : WalkAt b g l s st w) : w.cell? ⟨b, 5, none⟩ = some (.int .i64 st.gos) := by simp [World.cell?, h.blk]
theorem WalkAt.c6 (h : WalkAt b g l s st w) : w.cell? ⟨b, 6, none⟩ = some (.slice (some ⟨g, 0, none⟩) (l + 1) (l + 1)) := by simp [World.cell?, h.blk]
theorem WalkAt.free (h : WalkAt b g l s st w) (j : Nat) : w.frozen? ⟨b, j, none⟩ = false := by simp [World.frozen?, h.blk]
theorem WalkAt.freeG (h : WalkAt b g l s st w) (j : Nat) : w.frozen? ⟨g, j, none⟩ = false := by simp [World.frozen?, h.row]
theorem WalkAt.mark (h : WalkAt b g l s st w) {j : Nat} (hj : j ≤ l) : w.cell? ⟨g, j, none⟩ = some (.bool (st.on.getD j false)) := by
  have := h.len
  simp [World.cell?, h.row, markCells, List.getD_eq_getElem?_getD, List.getElem?_eq_getElem (show j < st.on.length by omega)]
theorem WalkAt.ltb (h : WalkAt b g l s st w) : b < w.heap.size := lt_of_block h.blk
theorem WalkAt.ltg (h : WalkAt b g l s st w) : g < w.heap.size := lt_of_block h.row
end

theorem row_setCell {w : World} {b j : Nat} {cs : Array Value} {t : TypeId} {u : Value} (h : w.heap[b]? = some (.cells cs t (0, 0))) :
    (w.setCell ⟨b, j, none⟩ u).heap[b]? = some (.cells (cs.setIfInBounds j u) t (0, 0)) := by
  simp [World.setCell, Array.getElem?_modify, h]

section
variable {b g l s : Nat} {st : St} {w : World}
theorem WalkAt.alloc (h : WalkAt b g l s st w) (o : Obj) : WalkAt b g l s st (w.alloc o) :=
  ⟨by rw [Below.heap_alloc _ _ _ h.ltb]; exact h.blk, by rw [Below.heap_alloc _ _ _ h.ltg]; exact h.row, h.len, h.ne⟩
theorem WalkAt.drewN (h : WalkAt b g l s st w) (n : Nat) : WalkAt b g l s st (w.drewN n) := ⟨h.blk, h.row, h.len, h.ne⟩
theorem WalkAt.field (h : WalkAt b g l s st w) (st' : St) (j : Nat) (u : Value) (hs : (#[.int .i64 l, .int .i64 s, .int .i64 st.pos, .int .i64 st.marks, .int .i64 st.last, .int .i64 st.gos, .slice (some ⟨g, 0, none⟩) (l + 1) (l + 1)] : Array Value).setIfInBounds j u
    = #[.int .i64 l, .int .i64 s, .int .i64 st'.pos, .int .i64 st'.marks, .int .i64 st'.last, .int .i64 st'.gos, .slice (some ⟨g, 0, none⟩) (l + 1) (l + 1)]) (ho : st'.on = st.on) : WalkAt b g l s st' (w.setCell ⟨b, j, none⟩ u) :=
  ⟨by rw [row_setCell h.blk, hs], by rw [Below.heap_setCell _ _ _ _ (Ne.symm h.ne), ho]; exact h.row, by rw [ho]; exact h.len, h.ne⟩
theorem WalkAt.setMark (h : WalkAt b g l s st w) (j : Nat) (v : Bool) : WalkAt b g l s { st with on := st.on.set j v } (w.setCell ⟨g, j, none⟩ (.bool v)) :=
  ⟨by rw [Below.heap_setCell _ _ _ _ h.ne]; exact h.blk, by rw [row_setCell h.row]; simp [markCells], by simp [h.len], h.ne⟩
end

/-- Is the position marked? -/
def hasB (l : Nat) (mk : List Bool) (a : Int) : Bool := decide (0 ≤ a) && decide (a ≤ l) && mk.getD a.toNat false

set_option maxHeartbeats 400000 in
theorem has_any (b g l s : Nat) (st : St) (a : Int) (w : World) (h : WalkAt b g l s st w) :
    Calls Try.prog 29 #[.pointer (some ⟨b, 0, none⟩), .int .i64 a] w fun e w' => e = .returned (.bool (hasB l st.on a)) ∧ w = w' := by
  have h0 := h.c0
  have h6 := h.c6
  by_cases c1 : 0 ≤ a
  · by_cases c2 : a ≤ (l : Int)
    · obtain ⟨j, rfl⟩ := Int.eq_ofNat_of_zero_le c1
      have hm := h.mark (j := j) (by omega)
      have hb : hasB l st.on j = st.on.getD j false := by
        simp [hasB]; omega
      rw [hb]
      clear hb c1
      generalize st.on.getD j false = v at hm ⊢
      cases v
      all_goals
        go_enter Try.func29, Try.ntmps29
        go_wp2
        go_ret
        exact ⟨rfl, rfl⟩
    · have hb : hasB l st.on a = false := by simp [hasB]; omega
      rw [hb]
      clear hb
      go_enter Try.func29, Try.ntmps29
      go_wp2
      go_ret
      exact ⟨rfl, rfl⟩
  · have hb : hasB l st.on a = false := by simp [hasB]; omega
    rw [hb]
    clear hb
    go_enter Try.func29, Try.ntmps29
    go_wp2
    go_ret
    exact ⟨rfl, rfl⟩

theorem has_v (b g l s : Nat) (st : St) (a : Int) (v : Bool) (w : World) (h : WalkAt b g l s st w) (hv : hasB l st.on a = v) :
    Calls Try.prog 29 #[.pointer (some ⟨b, 0, none⟩), .int .i64 a] w fun e w' => e = .returned (.bool v) ∧ w' = w :=
  (has_any b g l s st a w h).mono fun _ _ ⟨he, hw⟩ => ⟨by rw [he, hv], hw.symm⟩

/-- One act. -/
def stepW (l s : Nat) (st : St) (k a : Int) : Option St :=
  if k = 1 then (if a = st.pos + 1 ∧ a ≤ l then some { st with pos := a, gos := st.gos + 1 } else none)
  else if k = 2 then (if a = st.pos ∧ hasB l st.on a = false ∧ st.marks < s then some { st with on := st.on.set a.toNat true, marks := st.marks + 1 } else none)
  else if k = 3 then (if a ≠ 0 ∧ hasB l st.on a = true then some { st with on := st.on.set a.toNat false, marks := st.marks - 1 } else none)
  else if k = 4 then (if st.last ≠ 0 ∧ a = st.last ∧ st.pos = st.last - 1 then some { st with last := st.last - 1 } else none)
  else if k = 5 then (if hasB l st.on a = true then some { st with pos := a } else none)
  else none

/-- What holds of every traversal on its way. -/
structure StOk (l : Nat) (st : St) : Prop where
  p0 : 0 ≤ st.pos
  p1 : st.pos ≤ l
  m0 : -1000000000000000 ≤ st.marks
  m1 : st.marks ≤ 1000000000000000
  l0 : 0 ≤ st.last
  l1 : st.last ≤ l
  g0 : 0 ≤ st.gos
  g1 : st.gos ≤ 1000000000000000

/-- What do leaves. -/
def DoPost (N b g l s : Nat) (st : St) (k a : Int) (w : World) (e : Ending) (w' : World) : Prop :=
  Below N w w' ∧ ((∃ st', stepW l s st k a = some st' ∧ e = .returned (.bool true) ∧ WalkAt b g l s st' w') ∨ (stepW l s st k a = none ∧ e = .returned (.bool false)))

set_option maxHeartbeats 400000 in
theorem do_go (N b g l s : Nat) (st : St) (a : Int) (w : World) (h : WalkAt b g l s st w) (hl : l ≤ 512) (ok : StOk l st) (hb : N ≤ b) (hg : N ≤ g) (c1 : a = st.pos + 1) (c2 : a ≤ l) :
    Calls Try.prog 24 #[.pointer (some ⟨b, 0, none⟩), .agg #[.int .i64 1, .int .i64 a]] w (DoPost N b g l s st 1 a w) := by
  have h0 := h.c0
  have h2 := h.c2
  have h5 := h.c5
  have f2 := h.free 2
  have f5 := h.free 5
  have nb := h.ltb
  obtain ⟨p0, p1, m0, m1, l0, l1, g0, g1⟩ := ok
  have t1 : (a != st.pos + 1) = false := by simp [c1]
  have t2 : decide ((l : Int) < a) = false := by simp; omega
  have C1 := Lib.hid c1
  clear c1
  go_enter Try.func24, Try.ntmps24
  go_wp2
  have ew : IntKind.i64.wrap (st.pos + 1) = st.pos + 1 := IntWalk.i64_in _ (by omega)
  go_quiet (fail)
  clear ew
  go_wp2
  go_ret
  refine ⟨(((below_drewN ((Below.refl _ _).alloc (by omega) _) _).setCell hb _).setCell hb _), .inl ⟨{ st with pos := a, gos := st.gos + 1 }, ?_, rfl, ?_⟩⟩
  · simp [stepW, C1.out]; have := C1.out; omega
  · exact (((h.alloc _).drewN nq).field { st with pos := a } 2 _ rfl rfl).field _ 5 _ rfl rfl

set_option maxHeartbeats 400000 in
theorem do_go_no1 (N b g l s : Nat) (st : St) (a : Int) (w : World) (h : WalkAt b g l s st w) (hl : l ≤ 512) (hs : s ≤ 512) (ok : StOk l st) (hb : N ≤ b) (hg : N ≤ g) (c1 : a ≠ st.pos + 1) :
    Calls Try.prog 24 #[.pointer (some ⟨b, 0, none⟩), .agg #[.int .i64 1, .int .i64 a]] w (DoPost N b g l s st 1 a w) := by
  have h0 := h.c0
  have h1 := h.c1
  have h2 := h.c2
  have h3 := h.c3
  have h4 := h.c4
  have nb := h.ltb
  have hnone : stepW l s st 1 a = none := by simp [stepW, c1]
  have HN := Lib.hid hnone
  clear hnone
  obtain ⟨p0, p1, m0, m1, l0, l1, g0, g1⟩ := ok
  have t1 : (a != st.pos + 1) = true := by simp [c1]
  clear c1
  go_enter Try.func24, Try.ntmps24
  go_wp2
  have ew : IntKind.i64.wrap (st.pos + 1) = st.pos + 1 := IntWalk.i64_in _ (by omega)
  go_quiet (fail)
  clear ew
  go_wp2
  go_ret
  exact ⟨by repeat (first | apply below_drewN | exact (Below.refl _ _).alloc (by omega) _), .inr ⟨HN.out, rfl⟩⟩

set_option maxHeartbeats 400000 in
theorem do_go_no2 (N b g l s : Nat) (st : St) (a : Int) (w : World) (h : WalkAt b g l s st w) (hl : l ≤ 512) (hs : s ≤ 512) (ok : StOk l st) (hb : N ≤ b) (hg : N ≤ g) (c1 : a = st.pos + 1) (c2 : ¬ a ≤ l) :
    Calls Try.prog 24 #[.pointer (some ⟨b, 0, none⟩), .agg #[.int .i64 1, .int .i64 a]] w (DoPost N b g l s st 1 a w) := by
  have h0 := h.c0
  have h1 := h.c1
  have h2 := h.c2
  have h3 := h.c3
  have h4 := h.c4
  have nb := h.ltb
  have hnone : stepW l s st 1 a = none := by simp [stepW]; omega
  have HN := Lib.hid hnone
  clear hnone
  obtain ⟨p0, p1, m0, m1, l0, l1, g0, g1⟩ := ok
  have t1 : (a != st.pos + 1) = false := by simp [c1]
  have t2 : decide ((l : Int) < a) = true := by simp; omega
  clear c1
  go_enter Try.func24, Try.ntmps24
  go_wp2
  have ew : IntKind.i64.wrap (st.pos + 1) = st.pos + 1 := IntWalk.i64_in _ (by omega)
  go_quiet (fail)
  clear ew
  go_wp2
  go_ret
  exact ⟨by repeat (first | apply below_drewN | exact (Below.refl _ _).alloc (by omega) _), .inr ⟨HN.out, rfl⟩⟩

set_option maxHeartbeats 400000 in
theorem do_mark_no1 (N b g l s : Nat) (st : St) (a : Int) (w : World) (h : WalkAt b g l s st w) (hl : l ≤ 512) (hs : s ≤ 512) (ok : StOk l st) (hb : N ≤ b) (hg : N ≤ g) (c1 : a ≠ st.pos) :
    Calls Try.prog 24 #[.pointer (some ⟨b, 0, none⟩), .agg #[.int .i64 2, .int .i64 a]] w (DoPost N b g l s st 2 a w) := by
  have h0 := h.c0
  have h1 := h.c1
  have h2 := h.c2
  have h3 := h.c3
  have h4 := h.c4
  have nb := h.ltb
  have hnone : stepW l s st 2 a = none := by simp [stepW, c1]
  have HN := Lib.hid hnone
  clear hnone
  obtain ⟨p0, p1, m0, m1, l0, l1, g0, g1⟩ := ok
  have t1 : (a != st.pos) = true := by simp [c1]
  clear c1
  go_enter Try.func24, Try.ntmps24
  go_wp2
  go_quiet (fail)
  go_wp2
  go_ret
  exact ⟨by repeat (first | apply below_drewN | exact (Below.refl _ _).alloc (by omega) _), .inr ⟨HN.out, rfl⟩⟩

set_option maxHeartbeats 400000 in
theorem do_mark_no2 (N b g l s : Nat) (st : St) (a : Int) (w : World) (h : WalkAt b g l s st w) (hl : l ≤ 512) (hs : s ≤ 512) (ok : StOk l st) (hb : N ≤ b) (hg : N ≤ g) (c1 : a = st.pos) (c2 : hasB l st.on a = true) :
    Calls Try.prog 24 #[.pointer (some ⟨b, 0, none⟩), .agg #[.int .i64 2, .int .i64 a]] w (DoPost N b g l s st 2 a w) := by
  have h0 := h.c0
  have h1 := h.c1
  have h2 := h.c2
  have h3 := h.c3
  have h4 := h.c4
  have nb := h.ltb
  have hnone : stepW l s st 2 a = none := by simp [stepW, c2]
  have HN := Lib.hid hnone
  clear hnone
  obtain ⟨p0, p1, m0, m1, l0, l1, g0, g1⟩ := ok
  have t1 : (a != st.pos) = false := by simp [c1]
  have HV := Lib.hid c2
  clear c1 c2
  go_enter Try.func24, Try.ntmps24
  go_wp2
  go_quiet ((go_at_call 29; exact Calls.quiet_of_same (has_v b g l s st _ true _ ((h.alloc _).drewN _) HV.out)))
  go_wp2
  go_ret
  exact ⟨by repeat (first | apply below_drewN | exact (Below.refl _ _).alloc (by omega) _), .inr ⟨HN.out, rfl⟩⟩

set_option maxHeartbeats 400000 in
theorem do_mark_no3 (N b g l s : Nat) (st : St) (a : Int) (w : World) (h : WalkAt b g l s st w) (hl : l ≤ 512) (hs : s ≤ 512) (ok : StOk l st) (hb : N ≤ b) (hg : N ≤ g) (c1 : a = st.pos) (c2 : hasB l st.on a = false) (c3 : ¬ st.marks < s) :
    Calls Try.prog 24 #[.pointer (some ⟨b, 0, none⟩), .agg #[.int .i64 2, .int .i64 a]] w (DoPost N b g l s st 2 a w) := by
  have h0 := h.c0
  have h1 := h.c1
  have h2 := h.c2
  have h3 := h.c3
  have h4 := h.c4
  have nb := h.ltb
  have hnone : stepW l s st 2 a = none := by simp [stepW, c3]
  have HN := Lib.hid hnone
  clear hnone
  obtain ⟨p0, p1, m0, m1, l0, l1, g0, g1⟩ := ok
  have t1 : (a != st.pos) = false := by simp [c1]
  have t2 : decide ((s : Int) ≤ st.marks) = true := by simp; omega
  have HV := Lib.hid c2
  clear c1 c2 c3
  go_enter Try.func24, Try.ntmps24
  go_wp2
  go_quiet ((go_at_call 29; exact Calls.quiet_of_same (has_v b g l s st _ false _ ((h.alloc _).drewN _) HV.out)))
  go_wp2
  go_ret
  exact ⟨by repeat (first | apply below_drewN | exact (Below.refl _ _).alloc (by omega) _), .inr ⟨HN.out, rfl⟩⟩

set_option maxHeartbeats 400000 in
theorem do_drop_no1 (N b g l s : Nat) (st : St) (a : Int) (w : World) (h : WalkAt b g l s st w) (hl : l ≤ 512) (hs : s ≤ 512) (ok : StOk l st) (hb : N ≤ b) (hg : N ≤ g) (c1 : a = 0) :
    Calls Try.prog 24 #[.pointer (some ⟨b, 0, none⟩), .agg #[.int .i64 3, .int .i64 a]] w (DoPost N b g l s st 3 a w) := by
  have h0 := h.c0
  have h1 := h.c1
  have h2 := h.c2
  have h3 := h.c3
  have h4 := h.c4
  have nb := h.ltb
  have hnone : stepW l s st 3 a = none := by simp [stepW, c1]
  have HN := Lib.hid hnone
  clear hnone
  obtain ⟨p0, p1, m0, m1, l0, l1, g0, g1⟩ := ok
  have t1 : (a == 0) = true := by simp [c1]
  clear c1
  go_enter Try.func24, Try.ntmps24
  go_wp2
  go_wp2
  go_ret
  exact ⟨by repeat (first | apply below_drewN | exact (Below.refl _ _).alloc (by omega) _), .inr ⟨HN.out, rfl⟩⟩

set_option maxHeartbeats 400000 in
theorem do_drop_no2 (N b g l s : Nat) (st : St) (a : Int) (w : World) (h : WalkAt b g l s st w) (hl : l ≤ 512) (hs : s ≤ 512) (ok : StOk l st) (hb : N ≤ b) (hg : N ≤ g) (c1 : a ≠ 0) (c2 : hasB l st.on a = false) :
    Calls Try.prog 24 #[.pointer (some ⟨b, 0, none⟩), .agg #[.int .i64 3, .int .i64 a]] w (DoPost N b g l s st 3 a w) := by
  have h0 := h.c0
  have h1 := h.c1
  have h2 := h.c2
  have h3 := h.c3
  have h4 := h.c4
  have nb := h.ltb
  have hnone : stepW l s st 3 a = none := by simp [stepW, c2]
  have HN := Lib.hid hnone
  clear hnone
  obtain ⟨p0, p1, m0, m1, l0, l1, g0, g1⟩ := ok
  have t1 : (a == 0) = false := by simp [c1]
  have HV := Lib.hid c2
  clear c1 c2
  go_enter Try.func24, Try.ntmps24
  go_wp2_with (go_at_call 29; refine (has_v b g l s st _ false _ (h.alloc _) HV.out).mono ?_; rintro e w' ⟨rfl, rfl⟩)
  go_ret
  exact ⟨by repeat (first | apply below_drewN | exact (Below.refl _ _).alloc (by omega) _), .inr ⟨HN.out, rfl⟩⟩

set_option maxHeartbeats 400000 in
theorem do_jump_no (N b g l s : Nat) (st : St) (a : Int) (w : World) (h : WalkAt b g l s st w) (hl : l ≤ 512) (hs : s ≤ 512) (ok : StOk l st) (hb : N ≤ b) (hg : N ≤ g) (c2 : hasB l st.on a = false) :
    Calls Try.prog 24 #[.pointer (some ⟨b, 0, none⟩), .agg #[.int .i64 5, .int .i64 a]] w (DoPost N b g l s st 5 a w) := by
  have h0 := h.c0
  have h1 := h.c1
  have h2 := h.c2
  have h3 := h.c3
  have h4 := h.c4
  have nb := h.ltb
  have hnone : stepW l s st 5 a = none := by simp [stepW, c2]
  have HN := Lib.hid hnone
  clear hnone
  obtain ⟨p0, p1, m0, m1, l0, l1, g0, g1⟩ := ok
  have HV := Lib.hid c2
  clear c2
  go_enter Try.func24, Try.ntmps24
  go_wp2_with (go_at_call 29; refine (has_v b g l s st _ false _ (h.alloc _) HV.out).mono ?_; rintro e w' ⟨rfl, rfl⟩)
  go_ret
  exact ⟨by repeat (first | apply below_drewN | exact (Below.refl _ _).alloc (by omega) _), .inr ⟨HN.out, rfl⟩⟩

set_option maxHeartbeats 400000 in
theorem do_back_no1 (N b g l s : Nat) (st : St) (a : Int) (w : World) (h : WalkAt b g l s st w) (hl : l ≤ 512) (hs : s ≤ 512) (ok : StOk l st) (hb : N ≤ b) (hg : N ≤ g) (c1 : st.last = 0) :
    Calls Try.prog 24 #[.pointer (some ⟨b, 0, none⟩), .agg #[.int .i64 4, .int .i64 a]] w (DoPost N b g l s st 4 a w) := by
  have h0 := h.c0
  have h1 := h.c1
  have h2 := h.c2
  have h3 := h.c3
  have h4 := h.c4
  have nb := h.ltb
  have hnone : stepW l s st 4 a = none := by simp [stepW, c1]
  have HN := Lib.hid hnone
  clear hnone
  obtain ⟨p0, p1, m0, m1, l0, l1, g0, g1⟩ := ok
  have t1 : (st.last == 0) = true := by simp [c1]
  have l2 : st.last ≤ 0 := by omega
  clear c1
  go_enter Try.func24, Try.ntmps24
  go_wp2
  have ew : IntKind.i64.wrap (st.last - 1) = st.last - 1 := IntWalk.i64_in _ (by omega)
  go_quiet (fail)
  clear ew
  go_wp2
  go_ret
  exact ⟨by repeat (first | apply below_drewN | exact (Below.refl _ _).alloc (by omega) _), .inr ⟨HN.out, rfl⟩⟩

set_option maxHeartbeats 400000 in
theorem do_back_no2 (N b g l s : Nat) (st : St) (a : Int) (w : World) (h : WalkAt b g l s st w) (hl : l ≤ 512) (hs : s ≤ 512) (ok : StOk l st) (hb : N ≤ b) (hg : N ≤ g) (c1 : st.last ≠ 0) (c2 : a ≠ st.last) :
    Calls Try.prog 24 #[.pointer (some ⟨b, 0, none⟩), .agg #[.int .i64 4, .int .i64 a]] w (DoPost N b g l s st 4 a w) := by
  have h0 := h.c0
  have h1 := h.c1
  have h2 := h.c2
  have h3 := h.c3
  have h4 := h.c4
  have nb := h.ltb
  have hnone : stepW l s st 4 a = none := by simp [stepW, c2]
  have HN := Lib.hid hnone
  clear hnone
  obtain ⟨p0, p1, m0, m1, l0, l1, g0, g1⟩ := ok
  have t1 : (st.last == 0) = false := by simp [c1]
  have t2 : (a != st.last) = true := by simp [c2]
  clear c1 c2
  go_enter Try.func24, Try.ntmps24
  go_wp2
  have ew : IntKind.i64.wrap (st.last - 1) = st.last - 1 := IntWalk.i64_in _ (by omega)
  go_quiet (fail)
  clear ew
  go_wp2
  go_ret
  exact ⟨by repeat (first | apply below_drewN | exact (Below.refl _ _).alloc (by omega) _), .inr ⟨HN.out, rfl⟩⟩

set_option maxHeartbeats 400000 in
theorem do_back_no3 (N b g l s : Nat) (st : St) (a : Int) (w : World) (h : WalkAt b g l s st w) (hl : l ≤ 512) (hs : s ≤ 512) (ok : StOk l st) (hb : N ≤ b) (hg : N ≤ g) (c1 : st.last ≠ 0) (c2 : a = st.last) (c3 : st.pos ≠ st.last - 1) :
    Calls Try.prog 24 #[.pointer (some ⟨b, 0, none⟩), .agg #[.int .i64 4, .int .i64 a]] w (DoPost N b g l s st 4 a w) := by
  have h0 := h.c0
  have h1 := h.c1
  have h2 := h.c2
  have h3 := h.c3
  have h4 := h.c4
  have nb := h.ltb
  have hnone : stepW l s st 4 a = none := by simp [stepW, c3]
  have HN := Lib.hid hnone
  clear hnone
  obtain ⟨p0, p1, m0, m1, l0, l1, g0, g1⟩ := ok
  have t1 : (st.last == 0) = false := by simp [c1]
  have t2 : (a != st.last) = false := by simp [c2]
  have t3 : (st.pos != st.last - 1) = true := by simp [c3]
  clear c1 c2 c3
  go_enter Try.func24, Try.ntmps24
  go_wp2
  have ew : IntKind.i64.wrap (st.last - 1) = st.last - 1 := IntWalk.i64_in _ (by omega)
  go_quiet (fail)
  clear ew
  go_wp2
  go_ret
  exact ⟨by repeat (first | apply below_drewN | exact (Below.refl _ _).alloc (by omega) _), .inr ⟨HN.out, rfl⟩⟩

end Go.Proofs.Ythbdhcbdhcgkfaa
