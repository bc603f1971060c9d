/- The walk of index, both ways. Condition: the invariant. -/
import Derived.Test.YthllilkafdgheaaAl
import Derived.Laws.ResultCell
namespace Go.Proofs.Ythllilkafdgheaa
open Go.RowKit
set_option linter.unusedVariables false
set_option linter.unusedSimpArgs false

set_option maxHeartbeats 1000000 in
theorem index_hit (p : Nat) (S : List Nat) (s : St) (j : Nat) (x : Blk) (w : World) (h : Ar p S s w) (hg : Good s) (hx : s.L[j]? = some x) :
    Calls Try.prog 30 #[.pointer (some ⟨p, 0, none⟩), .int .i64 x.h] w fun e w' => e = .returned (.tuple #[.int .i64 j, .bool true]) ∧ Oth [] w w' := by
  obtain ⟨cv, bv, mb, cs, hS, ha⟩ := h
  have hjl := (List.getElem?_eq_some_iff.1 hx).1
  obtain ⟨g, cap, hbv, _, hrow⟩ := row_of_owns ha.blocks (by omega)
  obtain ⟨n, hn⟩ : ∃ n, n = s.L.length := ⟨_, rfl⟩
  rw [← hn] at hbv hrow
  have c2 : w.cell? ⟨p, 2, none⟩ = some (.slice (some ⟨g, 0, none⟩) n cap) := by rw [← hbv]; exact ha.cell rfl
  have c3 : w.cell? ⟨p, 3, none⟩ = some (.map (some mb)) := ha.cell rfl
  have hxb := hg.blk x (List.mem_of_getElem? hx)
  have hnx := hg.next
  have hcp := hg.cap
  have hhi := hg.high
  have HBS : Hid (∀ w', Oth [] w w' → Calls Try.prog 42 #[.slice (some ⟨g, 0, none⟩) n cap, .int .i64 x.f, .func (.func 43) #[] #[]] w' fun e w'' => e = .returned (.tuple #[.int .i64 j, .bool true]) ∧ Oth [] w' w'') := fun w' ho =>
    bs_blk g n cap s.L j x w' (hrow.oth ho (by simp)) hn (fun b hb => by have := hg.blk b hb; omega) hg.srt hx (by rw [hn]; exact hg.cnt)
  obtain ⟨D, hown, hmd⟩ := ha.map
  have hy := hmd.yes x (List.mem_of_getElem? hx)
  have hkey := Maps.keyOf_int_mk Try.underlying3 (a := (x.h : Int)) (wf63 (by omega) (by omega))
  obtain ⟨k, hk⟩ : ∃ a, a = x.h := ⟨_, rfl⟩
  obtain ⟨f, hf⟩ : ∃ a, a = x.f := ⟨_, rfl⟩
  rw [← hf] at HBS
  rw [← hk] at hkey ⊢
  rw [← hk, ← hf] at hy
  have HY := Lib.hid hy
  have HOWN := Lib.hid hown
  have HKEY := Lib.hid hkey
  clear ha hx hjl hbv hrow hn hxb hnx hcp hhi hmd hy hk hf hown hkey hg hS
  go_enter Try.func30, Try.ntmps30
  go_wp2_with (first
    | (at_lookup; refine wpList_lookup_own_ok_int _ rfl _ _ 60 rfl 3 3 .i64 law3 Try.underlying60 Try.underlying3 (zero3 _) mb _ D rfl HOWN.out _ _ rfl HKEY.out ?_; intro c hc hwc; rw [HY.out.1]; rw [HY.out.2] at hc; injection hc with hc; injection hc with _ hc; subst hc))
  refine (HBS.out w (Oth.refl _ _)).mono ?_
  rintro e w' ⟨rfl, ho⟩
  go_wp2_with fail
  go_ret2
  exact ⟨rfl, ho⟩

set_option maxHeartbeats 1000000 in
theorem index_miss (p : Nat) (S : List Nat) (s : St) (k : Int) (w : World) (h : Ar p S s w) (hk : (Lit.int .i64 k).wf = true) (hx : ∀ b, b ∈ s.L → (b.h : Int) ≠ k) :
    Calls Try.prog 30 #[.pointer (some ⟨p, 0, none⟩), .int .i64 k] w fun e w' => e = .returned (.tuple #[.int .i64 0, .bool false]) ∧ w = w' := by
  obtain ⟨cv, bv, mb, cs, hS, ha⟩ := h
  have c3 : w.cell? ⟨p, 3, none⟩ = some (.map (some mb)) := ha.cell rfl
  obtain ⟨D, hown, hmd⟩ := ha.map
  have HY := Lib.hid (hmd.no k hx)
  have HKEY := Lib.hid (Maps.keyOf_int_mk Try.underlying3 (a := k) hk)
  have HOWN := Lib.hid hown
  clear ha hx hmd hown hS hk
  go_enter Try.func30, Try.ntmps30
  go_wp2_with (first
    | (at_lookup; refine wpList_lookup_own_ok_int _ rfl _ _ 60 rfl 3 3 .i64 law3 Try.underlying60 Try.underlying3 (zero3 _) mb _ D rfl HOWN.out _ _ rfl HKEY.out ?_; intro c hc hwc; rw [HY.out]; clear hc hwc))
  go_ret2
  exact ⟨rfl, rfl⟩

theorem obj_cell {w : World} {p : Nat} {A : Array Value} {t : TypeId} (h : w.heap[p]? = some (.cells A t (0, 0))) {i : Nat} {v : Value} (hv : A[i]? = some v) : w.cell? ⟨p, i, none⟩ = some v := by
  simp only [World.cell?, h]; exact hv
theorem obj_free {w : World} {p : Nat} {A : Array Value} {t : TypeId} (h : w.heap[p]? = some (.cells A t (0, 0))) (i : Nat) : w.frozen? ⟨p, i, none⟩ = false := by
  simp [World.frozen?, h]

theorem obj_put {w : World} {p : Nat} {A : Array Value} {t : TypeId} (h : w.heap[p]? = some (.cells A t (0, 0))) (i : Nat) (u : Value) : (w.setCell ⟨p, i, none⟩ u).heap[p]? = some (.cells (A.setIfInBounds i u) t (0, 0)) := by
  simp [World.setCell, Array.getElem?_modify, h]

/-- A block as a value. -/
def bval (b : Blk) : Value := .agg #[.int .i64 b.h, .int .i64 b.f, .int .i64 b.n]

set_option maxHeartbeats 1000000 in
theorem Find_hit (p : Nat) (S : List Nat) (s : St) (j : Nat) (x : Blk) (w : World) (h : Ar p S s w) (hg : Good s) (hx : s.L[j]? = some x) :
    Calls Try.prog 18 #[.pointer (some ⟨p, 0, none⟩), .int .i64 x.h] w fun e w' => e = .returned (.tuple #[bval x, .int .i64 0]) ∧ Oth [] w w' := by
  have HI : Hid (∀ w', Oth [] w w' → Calls Try.prog 30 #[.pointer (some ⟨p, 0, none⟩), .int .i64 x.h] w' fun e w'' => e = .returned (.tuple #[.int .i64 j, .bool true]) ∧ Oth [] w' w'') := fun w' ho => index_hit p S s j x w' (h.oth ho (by simp)) hg hx
  have HH := Lib.hid h
  have hjl := (List.getElem?_eq_some_iff.1 hx).1
  have HX := Lib.hid hx
  have hj1 : j ≤ 1000 := by have := hg.cnt; omega
  obtain ⟨k, hk⟩ : ∃ a, a = x.h := ⟨_, rfl⟩
  rw [← hk] at HI ⊢
  have HK := Lib.hid hk
  clear h hx hg hk hjl
  obtain ⟨W0, hW0⟩ : ∃ W0, W0 = w.alloc (.cells #[.int .i64 0, .int .i64 0, .int .i64 0] 45) := ⟨_, rfl⟩
  have ho0 : Oth [] w W0 := by rw [hW0]; exact (Oth.refl _ _).alloc _
  have hz : W0.heap[w.heap.size]? = some (.cells #[.int .i64 0, .int .i64 0, .int .i64 0] 45 (0, 0)) := by rw [hW0]; exact heap_alloc_new _ _
  go_enter Try.func18, Try.ntmps18
  go_wp2_with fail
  rw [← hW0]
  refine (HI.out W0 ho0).mono ?_
  rintro e w1 ⟨rfl, ho1⟩
  have hz1 := ho1.heap hz (by simp)
  have r0 := obj_cell hz1 (i := 0) rfl
  have r1 := obj_cell hz1 (i := 1) rfl
  have r2 := obj_cell hz1 (i := 2) rfl
  have rf0 := obj_free hz1 0
  have rf1 := obj_free hz1 1
  have rf2 := obj_free hz1 2
  have ho := ho0.trans ho1 (Fr.nil _ _)
  have HZ1 := Lib.hid hz1
  clear hW0 hz hz1
  obtain ⟨cv, bv, mb, cs, hS, ha⟩ := HH.out.oth ho (by simp)
  have hjl := (List.getElem?_eq_some_iff.1 HX.out).1
  obtain ⟨g, cap, hbv, _, hrow⟩ := row_of_owns ha.blocks (by omega)
  obtain ⟨n, hn⟩ : ∃ n, n = s.L.length := ⟨_, rfl⟩
  rw [← hn] at hbv hrow hjl
  have c2 : w1.cell? ⟨p, 2, none⟩ = some (.slice (some ⟨g, 0, none⟩) n cap) := by rw [← hbv]; exact ha.cell rfl
  have q1 : w1.cell? ⟨g, j * 3, none⟩ = some (.int .i64 k) := by rw [HK.out]; exact hrow.cell (bcs_get _ _ _ HX.out).1
  have q2 : w1.cell? ⟨g, j * 3 + 1, none⟩ = some (.int .i64 x.f) := hrow.cell (bcs_get _ _ _ HX.out).2.1
  have q3 : w1.cell? ⟨g, j * 3 + 2, none⟩ = some (.int .i64 x.n) := hrow.cell (bcs_get _ _ _ HX.out).2.2
  have t1 : (j : Int) < (n : Int) := by omega
  have t2 : ¬ (j : Int) < 0 := by omega
  clear ha hbv hrow hn hS
  go_wp2_with fail
  have hlt : w.heap.size < w1.heap.size := World.block_lt_of_cell? w1 _ r0
  obtain ⟨W2, hW2⟩ : ∃ W2, W2 = ((w1.setCell ⟨w.heap.size, 0, none⟩ (.int .i64 k)).setCell ⟨w.heap.size, 1, none⟩ (.int .i64 x.f)).setCell ⟨w.heap.size, 2, none⟩ (.int .i64 x.n) := ⟨_, rfl⟩
  have hz2 : W2.heap[w.heap.size]? = some (.cells #[.int .i64 k, .int .i64 x.f, .int .i64 x.n] 45 (0, 0)) := by
    rw [hW2, obj_put (obj_put (obj_put HZ1.out 0 _) 1 _) 2 _]; rfl
  rw [← hW2]
  have ho2 : Oth [] w W2 := by rw [hW2]; exact ((ho.setCell (.inr (by simp)) _).setCell (.inr (by simp)) _).setCell (.inr (by simp)) _
  have s0 := obj_cell hz2 (i := 0) rfl
  have s1 := obj_cell hz2 (i := 1) rfl
  have s2 := obj_cell hz2 (i := 2) rfl
  refine bodyPost_ret (v := .tuple #[.agg #[.int .i64 k, .int .i64 x.f, .int .i64 x.n], .int .i64 0]) ?_ rfl ?_
  · rw [results_cell_tmp rfl]
    simp [go_sem, s0, s1, s2, Result.andThen]
  · exact ⟨by unfold bval; rw [← HK.out], ho2⟩

set_option maxHeartbeats 1000000 in
theorem Find_miss (p : Nat) (S : List Nat) (s : St) (k : Int) (w : World) (h : Ar p S s w) (hk : (Lit.int .i64 k).wf = true) (hx : ∀ b, b ∈ s.L → (b.h : Int) ≠ k) :
    Calls Try.prog 18 #[.pointer (some ⟨p, 0, none⟩), .int .i64 k] w fun e w' => e = .returned (.tuple #[.agg #[.int .i64 0, .int .i64 0, .int .i64 0], .int .i64 14]) ∧ Oth [] w w' := by
  have HI : Hid (∀ w', Oth [] w w' → Calls Try.prog 30 #[.pointer (some ⟨p, 0, none⟩), .int .i64 k] w' fun e w'' => e = .returned (.tuple #[.int .i64 0, .bool false]) ∧ w' = w'') := fun w' ho => index_miss p S s k w' (h.oth ho (by simp)) hk hx
  clear h hx hk
  obtain ⟨W0, hW0⟩ : ∃ W0, W0 = w.alloc (.cells #[.int .i64 0, .int .i64 0, .int .i64 0] 45) := ⟨_, rfl⟩
  have ho0 : Oth [] w W0 := by rw [hW0]; exact (Oth.refl _ _).alloc _
  have hz1 : W0.heap[w.heap.size]? = some (.cells #[.int .i64 0, .int .i64 0, .int .i64 0] 45 (0, 0)) := by rw [hW0]; exact heap_alloc_new _ _
  have r0 := obj_cell hz1 (i := 0) rfl
  have r1 := obj_cell hz1 (i := 1) rfl
  have r2 := obj_cell hz1 (i := 2) rfl
  have rf0 := obj_free hz1 0
  have rf1 := obj_free hz1 1
  have rf2 := obj_free hz1 2
  clear hz1
  go_enter Try.func18, Try.ntmps18
  go_wp2_with fail
  rw [← hW0]
  refine (HI.out W0 ho0).mono ?_
  rintro e w1 ⟨rfl, rfl⟩
  clear hW0
  go_wp2_with fail
  refine bodyPost_ret (v := .tuple #[.agg #[.int .i64 0, .int .i64 0, .int .i64 0], .int .i64 14]) ?_ rfl ?_
  · rw [results_cell_tmp rfl]
    simp [go_sem, r0, r1, r2, Result.andThen]
  · exact ⟨rfl, ((ho0.setCell (.inr (by simp)) _).setCell (.inr (by simp)) _).setCell (.inr (by simp)) _⟩
end Go.Proofs.Ythllilkafdgheaa
