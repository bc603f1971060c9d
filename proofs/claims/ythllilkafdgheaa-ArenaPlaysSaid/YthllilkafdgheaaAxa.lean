/- The walk of awake, which returns true. No condition. -/
import Derived.Test.YthllilkafdgheaaAwa
namespace Go.Proofs.Ythllilkafdgheaa
open Go.RowKit
set_option linter.unusedVariables false
set_option linter.unusedSimpArgs false

theorem addr_add0 (g i : Nat) : (⟨g, 0, none⟩ : Addr).add i = ⟨g, i, none⟩ := by
  unfold Addr.add; split <;> simp_all
theorem Ar.one {p : Nat} {S T : List Nat} {s t : St} {w : World} (h : Ar p S s w) (k : Ar p T t w) : S = T := by
  obtain ⟨cv, bv, mb, cs, rfl, h⟩ := h
  obtain ⟨cv', bv', mb', cs', rfl, k⟩ := k
  have := h.obj.symm.trans k.obj
  simp only [arCells, Option.some.injEq, Obj.cells.injEq, Array.mk.injEq, List.cons.injEq, Value.map.injEq] at this
  obtain ⟨⟨_, h1, h2, h3, _⟩, _⟩ := this
  rw [h1, h2, h3]
theorem Fresh.ge {w : World} {p : Nat} {s : St} {w1 : World} (h : Fresh w p s w1) : ∀ S, Ar p S s w1 → ∀ k, k ∈ S → w.heap.size ≤ k ∧ k < w1.heap.size := by
  intro S hS k hk
  obtain ⟨T, hT, h1⟩ := h.ar
  rw [hS.one hT] at hk
  exact ⟨h1 k hk, hT.lt k hk⟩
theorem Fresh.live {w : World} {p : Nat} {s : St} {w1 : World} (h : Fresh w p s w1) : Calls Try.prog 13 #[.pointer (some ⟨p, 0, none⟩)] w1 fun e w' => e = .returned (.int .i64 s.live) ∧ w1 = w' := by
  obtain ⟨T, hT, h1⟩ := h.ar; exact Live_any hT
theorem Fresh.moves {w : World} {p : Nat} {s : St} {w1 : World} (h : Fresh w p s w1) : Calls Try.prog 19 #[.pointer (some ⟨p, 0, none⟩)] w1 fun e w' => e = .returned (.int .i64 s.moves) ∧ w1 = w' := by
  obtain ⟨T, hT, h1⟩ := h.ar; exact Moves_any hT
theorem Fresh.cap {w : World} {p : Nat} {s : St} {w1 : World} (h : Fresh w p s w1) : Calls Try.prog 20 #[.pointer (some ⟨p, 0, none⟩)] w1 fun e w' => e = .returned (.int .i64 s.cap) ∧ w1 = w' := by
  obtain ⟨T, hT, h1⟩ := h.ar; exact Cap_any hT
theorem Fresh.high {w : World} {p : Nat} {s : St} {w1 : World} (h : Fresh w p s w1) : Calls Try.prog 21 #[.pointer (some ⟨p, 0, none⟩)] w1 fun e w' => e = .returned (.int .i64 s.high) ∧ w1 = w' := by
  obtain ⟨T, hT, h1⟩ := h.ar; exact High_any hT
theorem Fresh.peak {w : World} {p : Nat} {s : St} {w1 : World} (h : Fresh w p s w1) : Calls Try.prog 23 #[.pointer (some ⟨p, 0, none⟩)] w1 fun e w' => e = .returned (.int .i64 s.peak) ∧ w1 = w' := by
  obtain ⟨T, hT, h1⟩ := h.ar; exact Peak_any hT

def A0 : St := st0 4
def A1 (pk : Nat) : St := ⟨4, [⟨1, 0, 1, [0]⟩], pk, 1, 1, 1, 1, 0⟩
def A2 (pk : Nat) : St := ⟨4, [⟨1, 0, 1, [0]⟩, ⟨2, 1, 2, [0, 0]⟩], pk, 2, 3, 3, 3, 0⟩
def A3 (pk : Nat) : St := ⟨4, [⟨1, 0, 1, [0]⟩, ⟨2, 1, 2, [0, 0]⟩, ⟨3, 3, 1, [0]⟩], pk, 3, 4, 4, 4, 0⟩
def A4 (pk : Nat) : St := ⟨4, [⟨1, 0, 1, [0]⟩, ⟨2, 1, 2, [7, 8]⟩, ⟨3, 3, 1, [0]⟩], pk, 3, 4, 4, 4, 0⟩
def A5 (pk : Nat) : St := ⟨4, [⟨2, 1, 2, [7, 8]⟩, ⟨3, 3, 1, [0]⟩], pk, 3, 3, 4, 4, 0⟩
def A6 (pk : Nat) : St := ⟨4, [⟨2, 1, 2, [7, 8]⟩], pk, 3, 2, 4, 4, 0⟩
def A7 (pk : Nat) : St := ⟨4, [⟨2, 0, 2, [7, 8]⟩, ⟨4, 2, 2, [0, 0]⟩], pk, 4, 4, 4, 4, 1⟩

section
variable {w : World} {p : Nat} {w1 : World}
theorem aw0 (w : World) : Calls Try.prog 10 #[.int .i64 4] w fun e w' => ∃ p, e = .returned (.tuple #[.pointer (some ⟨p, 0, none⟩), .int .i64 0]) ∧ Fresh w p A0 w' :=
  Fresh.new w 4 (by omega)
theorem aw1 (h : Fresh w p A0 w1) : Calls Try.prog 11 #[.pointer (some ⟨p, 0, none⟩), .int .i64 1] w1 fun e w' => e = .returned (.tuple #[.int .i64 1, .int .i64 0]) ∧ ∃ pk, Fresh w p (A1 pk) w' := by
  refine (h.give 1 (by simp [A0, st0]) (by omega) (by omega) (by simp [A0, st0])).mono ?_
  rintro e w' ⟨rfl, s', hgv, hf⟩
  obtain ⟨pk, rfl⟩ := awk1 hgv
  exact ⟨rfl, pk, hf⟩
theorem aw2 {pk : Nat} (h : Fresh w p (A1 pk) w1) : Calls Try.prog 11 #[.pointer (some ⟨p, 0, none⟩), .int .i64 2] w1 fun e w' => e = .returned (.tuple #[.int .i64 2, .int .i64 0]) ∧ ∃ pk, Fresh w p (A2 pk) w' := by
  refine (h.give 2 (by simp [A1]) (by omega) (by omega) (by simp [A1])).mono ?_
  rintro e w' ⟨rfl, s', hgv, hf⟩
  obtain ⟨pk, rfl⟩ := awk2 h.good hgv
  exact ⟨rfl, pk, hf⟩
theorem aw3 {pk : Nat} (h : Fresh w p (A2 pk) w1) : Calls Try.prog 11 #[.pointer (some ⟨p, 0, none⟩), .int .i64 1] w1 fun e w' => e = .returned (.tuple #[.int .i64 3, .int .i64 0]) ∧ ∃ pk, Fresh w p (A3 pk) w' := by
  refine (h.give 1 (by simp [A2]) (by omega) (by omega) (by simp [A2])).mono ?_
  rintro e w' ⟨rfl, s', hgv, hf⟩
  obtain ⟨pk, rfl⟩ := awk3 h.good hgv
  exact ⟨rfl, pk, hf⟩
theorem aw4 {pk : Nat} (h : Fresh w p (A3 pk) w1) (t : TypeId) : Calls Try.prog 14 #[.pointer (some ⟨p, 0, none⟩), .int .i64 2, .slice (some ⟨w1.heap.size, 0, none⟩) 2 2] (w1.alloc (.cells #[.int .i64 7, .int .i64 8] t)) fun e w' => e = .returned (.int .i64 0) ∧ Fresh w p (A4 pk) w' := by
  have hq := h.quiet ((Oth.refl [] w1).alloc (.cells #[.int .i64 7, .int .i64 8] t))
  have hn := heap_alloc_new w1 (.cells #[.int .i64 7, .int .i64 8] t)
  refine (hq.put (j := 1) (x := ⟨2, 1, 2, [0, 0]⟩) rfl ⟨w1.heap.size, 0, none⟩ 2 2 [7, 8] rfl rfl ?_ ?_).mono ?_
  · intro i v hv
    match i with
    | 0 => simp at hv; subst hv; rw [addr_add0]; simp only [World.cell?, hn]; rfl
    | 1 => simp at hv; subst hv; rw [addr_add0]; simp only [World.cell?, hn]; rfl
    | i + 2 => simp at hv
  · intro S hS hm
    obtain ⟨T, hT, h1⟩ := h.ar
    rw [hS.one (hT.oth ((Oth.refl [] w1).alloc _) (by simp))] at hm
    have := hT.lt _ hm
    simp at this
  · rintro e w' ⟨rfl, hf⟩
    exact ⟨rfl, hf⟩
theorem aw5 {pk : Nat} (h : Fresh w p (A4 pk) w1) : Calls Try.prog 11 #[.pointer (some ⟨p, 0, none⟩), .int .i64 1] w1 fun e w' => e = .returned (.tuple #[.int .i64 0, .int .i64 15]) ∧ Fresh w p (A4 pk) w' :=
  h.full 1 (by omega) (by omega) (by simp [A4])
theorem aw6 {pk : Nat} (h : Fresh w p (A4 pk) w1) : Calls Try.prog 12 #[.pointer (some ⟨p, 0, none⟩), .int .i64 1] w1 fun e w' => e = .returned (.int .i64 0) ∧ ∃ pk, Fresh w p (A5 pk) w' := by
  refine (h.free (j := 0) (x := ⟨1, 0, 1, [0]⟩) rfl).mono ?_
  rintro e w' ⟨rfl, hf⟩
  exact ⟨rfl, _, hf⟩
theorem aw7 {pk : Nat} (h : Fresh w p (A5 pk) w1) : Calls Try.prog 12 #[.pointer (some ⟨p, 0, none⟩), .int .i64 3] w1 fun e w' => e = .returned (.int .i64 0) ∧ ∃ pk, Fresh w p (A6 pk) w' := by
  refine (h.free (j := 1) (x := ⟨3, 3, 1, [0]⟩) rfl).mono ?_
  rintro e w' ⟨rfl, hf⟩
  exact ⟨rfl, _, hf⟩
theorem aw8 {pk : Nat} (h : Fresh w p (A6 pk) w1) : Calls Try.prog 11 #[.pointer (some ⟨p, 0, none⟩), .int .i64 2] w1 fun e w' => e = .returned (.tuple #[.int .i64 4, .int .i64 0]) ∧ ∃ pk, Fresh w p (A7 pk) w' := by
  refine (h.give 2 (by simp [A6]) (by omega) (by omega) (by simp [A6])).mono ?_
  rintro e w' ⟨rfl, s', hgv, hf⟩
  obtain ⟨pk, rfl⟩ := awk4 h.good hgv
  exact ⟨rfl, pk, hf⟩
theorem aw9 {pk : Nat} (h : Fresh w p (A7 pk) w1) : Calls Try.prog 18 #[.pointer (some ⟨p, 0, none⟩), .int .i64 4] w1 fun e w' => e = .returned (.tuple #[.agg #[.int .i64 4, .int .i64 2, .int .i64 2], .int .i64 0]) ∧ Fresh w p (A7 pk) w' :=
  h.find (j := 1) (x := ⟨4, 2, 2, [0, 0]⟩) rfl
theorem aw10 {pk : Nat} (h : Fresh w p (A7 pk) w1) : Calls Try.prog 15 #[.pointer (some ⟨p, 0, none⟩), .int .i64 2] w1 fun e w' => ∃ g cap, e = .returned (.tuple #[.slice (some ⟨g, 0, none⟩) 2 cap, .int .i64 0]) ∧ w'.cell? ⟨g, 1, none⟩ = some (.int .i64 8) ∧ Oth [] w1 w' := by
  obtain ⟨S, ha, hS⟩ := h.ar
  refine (Get_hit p S _ 0 ⟨2, 0, 2, [7, 8]⟩ w1 ha h.good rfl).mono ?_
  rintro e w' ⟨g, cap, rfl, h1, h2, h3⟩
  exact ⟨g, cap, rfl, h2.cell rfl, h3⟩
theorem aw11 {pk : Nat} (h : Fresh w p (A7 pk) w1) : Calls Try.prog 19 #[.pointer (some ⟨p, 0, none⟩)] w1 fun e w' => e = .returned (.int .i64 1) ∧ w1 = w' := h.moves
theorem aw12 {pk : Nat} (h : Fresh w p (A7 pk) w1) : Calls Try.prog 13 #[.pointer (some ⟨p, 0, none⟩)] w1 fun e w' => e = .returned (.int .i64 4) ∧ w1 = w' := h.live
theorem aw13 {pk : Nat} (h : Fresh w p (A7 pk) w1) : Calls Try.prog 21 #[.pointer (some ⟨p, 0, none⟩)] w1 fun e w' => e = .returned (.int .i64 4) ∧ w1 = w' := h.high
end

set_option maxHeartbeats 8000000 in
set_option maxRecDepth 100000 in
theorem awake_any (w : World) : Calls Try.prog 9 #[] w fun e w' => e = .returned (.bool true) ∧ Oth [] w w' := by
  go_enter Try.func9, Try.ntmps9
  go_wp2_with fail
  refine (aw0 w).mono ?_
  rintro e w1 ⟨p, rfl, h1⟩
  have H1 := Lib.hid h1
  clear h1
  go_wp2_with fail
  refine (aw1 H1.out).mono ?_
  rintro e w2 ⟨rfl, pk2, h1⟩
  have H2 := Lib.hid h1
  clear h1 H1
  go_wp2_with fail
  refine (aw2 H2.out).mono ?_
  rintro e w3 ⟨rfl, pk3, h1⟩
  have H3 := Lib.hid h1
  clear h1 H2
  go_wp2_with fail
  refine (aw3 H3.out).mono ?_
  rintro e w4 ⟨rfl, pk4, h1⟩
  have H4 := Lib.hid h1
  clear h1 H3
  go_wp2_with fail
  refine (aw4 H4.out _).mono ?_
  rintro e w5 ⟨rfl, h1⟩
  have H5 := Lib.hid h1
  clear h1 H4
  go_wp2_with fail
  refine (aw5 H5.out).mono ?_
  rintro e w6 ⟨rfl, h1⟩
  have H6 := Lib.hid h1
  clear h1 H5
  go_wp2_with fail
  refine (aw6 H6.out).mono ?_
  rintro e w7 ⟨rfl, pk7, h1⟩
  have H7 := Lib.hid h1
  clear h1 H6
  go_wp2_with fail
  refine (aw7 H7.out).mono ?_
  rintro e w8 ⟨rfl, pk8, h1⟩
  have H8 := Lib.hid h1
  clear h1 H7
  go_wp2_with fail
  refine (aw8 H8.out).mono ?_
  rintro e w9 ⟨rfl, pk9, h1⟩
  have H9 := Lib.hid h1
  clear h1 H8
  go_wp2_with fail
  refine (aw9 H9.out).mono ?_
  rintro e w10 ⟨rfl, h1⟩
  have H10 := Lib.hid (h1.quiet ((Oth.refl [] w10).alloc (Obj.cells #[Value.int IntKind.i64 4, Value.int IntKind.i64 2, Value.int IntKind.i64 2] 45)))
  clear h1 H9
  have hb : (w10.alloc (Obj.cells #[Value.int IntKind.i64 4, Value.int IntKind.i64 2, Value.int IntKind.i64 2] 45)).cell? ⟨w10.heap.size, 1, none⟩ = some (.int .i64 2) := by
    simp only [World.cell?, heap_alloc_new]; rfl
  go_wp2_with fail
  refine (aw10 H10.out).mono ?_
  rintro e w11 ⟨g, cap, rfl, hc, h1⟩
  have hb := h1.cell hb (by simp)
  have H11 := Lib.hid (H10.out.quiet h1)
  clear h1 H10
  go_wp2_with fail
  refine (aw11 H11.out).mono ?_
  rintro e w12 ⟨rfl, rfl⟩
  go_wp2_with fail
  refine (aw12 H11.out).mono ?_
  rintro e w12 ⟨rfl, rfl⟩
  go_wp2_with fail
  refine (aw13 H11.out).mono ?_
  rintro e w12 ⟨rfl, rfl⟩
  go_wp2_with fail
  go_ret
  exact ⟨rfl, H11.out.oth⟩
end Go.Proofs.Ythllilkafdgheaa
