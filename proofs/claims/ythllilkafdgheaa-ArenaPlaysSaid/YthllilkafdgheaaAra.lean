/- The walks of slices.Clone at words and of Get. Condition: the invariant. -/
import Derived.Test.YthllilkafdgheaaAq
import Derived.Maps.AppendAt
import Derived.Laws.MakeOwn
namespace Go.Proofs.Ythllilkafdgheaa
open Go.RowKit
set_option linter.unusedVariables false
set_option linter.unusedSimpArgs false

set_option maxHeartbeats 400000 in
theorem clone_words (g o m c : Nat) (ds : List Int) (w : World) (h0 : 0 < m) (h1 : m ≤ 16777216) (hl : ds.length = m) (hrd : ∀ i v, ds[i]? = some v → w.cell? ⟨g, o + i, none⟩ = some (.int .i64 v)) :
    Calls Try.prog 32 #[.slice (some ⟨g, o, none⟩) m c] w fun e w' => ∃ g' cap', e = .returned (.slice (some ⟨g', 0, none⟩) m cap') ∧ w.heap.size ≤ g' ∧ Row 59 1 g' m cap' (ds.map (Value.int .i64)) w' ∧ Oth [] w w' := by
  obtain ⟨i0, hi, hz0, hz1, hz2⟩ := info_parts Try.info59
  have hel : (ds.map (Value.int .i64)).length = m * 1 := by simpa using hl
  have hone : ∀ u ∈ ds.map (Value.int .i64), u.oneCell' = true := by simp [Value.oneCell']
  have HR : Hid (∀ i u, (ds.map (Value.int .i64))[i]? = some u → w.cell? ⟨g, o + i, none⟩ = some u) := fun i u hu => by
    rw [List.getElem?_map] at hu
    cases hq : ds[i]? with
    | none => rw [hq] at hu; cases hu
    | some d => rw [hq] at hu; cases hu; exact hrd i d hq
  obtain ⟨xs, hxs⟩ : ∃ xs, xs = ds.map (Value.int .i64) := ⟨_, rfl⟩
  rw [← hxs] at hel hone HR ⊢
  clear hrd hl hxs
  have hown : (w.alloc (.cells #[] 59)).ownsRow w.heap.size 59 1 (.slice (some ⟨w.heap.size, 0, none⟩) 0 0) 0 [] := ⟨rfl, .inr ⟨w.heap.size, 0, #[], rfl, Nat.le_refl _, heap_alloc_new _ _, Nat.le_refl _, by unfold maxLen; omega, rfl, rfl⟩⟩
  have heq : ∀ w, (binOp .eql 23 (.slice (some ⟨g, o, none⟩) m c) (.slice none 0 0)).run Try.prog w = .ok (.bool false) w := fun w => by
    have := Lib.run_eql_slice_nil (P := Try.prog) w 23 59 (some ⟨g, o, none⟩) m c 0 0 Try.underlying23
    simpa using this
  have HON := Lib.hid hone
  have HEL := Lib.hid hel
  clear hone hel
  go_enter Try.func32, Try.ntmps32
  go_wp2_with (at_builtin; refine wpList_append_own_at _ rfl _ _ 23 rfl w.heap.size 59 i0 _ 1 8 Try.underlying23 hi hz0 hz1 hz2 rfl (by decide) _ _ _ rfl hown ⟨g, o, none⟩ m c xs rfl ?c0 ?c1 ?c2 ?c3 ?c4 ?c5 ?_)
  case c0 => exact HEL.out
  case c1 =>
    intro j u hu
    rw [Addr.add_lit]
    exact ((Oth.refl [] w).alloc _).cell (HR.out j u hu) (by simp)
  case c2 => exact HON.out
  case c3 => unfold maxLen; omega
  case c4 => omega
  case c5 => simp
  intro v' w1 hown1 hgrow1 _ _
  have hb1 : Oth [] w w1 := ((Oth.refl _ w).alloc _).grown hgrow1 (fun k hk => by simp [Value.ownBlock] at hk; exact .inr (by omega))
  obtain ⟨g', cap', rfl, hg', hR⟩ := row_of_owns hown1 (by omega)
  have HO := Lib.hid hR
  clear hown1 hgrow1 hR
  go_wp2
  go_ret
  exact ⟨g', cap', rfl, hg', by simpa using HO.out, hb1⟩

theorem Get_miss (p : Nat) (S : List Nat) (s : St) (k : Int) (w : World) (h : Ar p S s w) (hk : (Lit.int .i64 k).wf = true) (hx : ∀ b, b ∈ s.L → (b.h : Int) ≠ k) :
    Calls Try.prog 15 #[.pointer (some ⟨p, 0, none⟩), .int .i64 k] w fun e w' => e = .returned (.tuple #[.slice none 0 0, .int .i64 14]) ∧ Oth [] w w' := by
  have HI := Lib.hid (fun w' (ho : Oth [] w w') => Find_miss p S s k w' (h.oth ho (by simp)) hk hx)
  clear h hx hk
  go_enter Try.func15, Try.ntmps15
  go_wp2_with fail
  refine (HI.out w (Oth.refl _ _)).mono ?_
  rintro e w1 ⟨rfl, ho⟩
  go_wp2_with fail
  go_ret2
  exact ⟨rfl, ho.alloc _⟩

set_option maxHeartbeats 4000000 in
theorem Get_hit (p : Nat) (S : List Nat) (s : St) (j : Nat) (x : Blk) (w : World) (h : Ar p S s w) (hg : Good s) (hx : s.L[j]? = some x) :
    Calls Try.prog 15 #[.pointer (some ⟨p, 0, none⟩), .int .i64 x.h] w fun e w' => ∃ g' cap', e = .returned (.tuple #[.slice (some ⟨g', 0, none⟩) x.n cap', .int .i64 0]) ∧ w.heap.size ≤ g' ∧ Row 59 1 g' x.n cap' (x.d.map (Value.int .i64)) w' ∧ Oth [] w w' := by
  have HI := Lib.hid (Find_hit p S s j x w h hg hx)
  have HH := Lib.hid h
  have HX := Lib.hid hx
  have hxb := hg.blk x (List.mem_of_getElem? hx)
  have hhi := hg.high
  have hcp := hg.cap
  obtain ⟨k, hk⟩ : ∃ a, a = x.h := ⟨_, rfl⟩
  obtain ⟨xf, hxf⟩ : ∃ a, a = x.f := ⟨_, rfl⟩
  obtain ⟨m, hm⟩ : ∃ a, a = x.n := ⟨_, rfl⟩
  obtain ⟨H, hH⟩ : ∃ a, a = s.high := ⟨_, rfl⟩
  have t0 : 1 ≤ m := by omega
  have tf : xf + m ≤ H := by omega
  have tH : H ≤ 16777216 := by omega
  have hdl : x.d.length = m := by omega
  unfold bval at HI
  rw [← hk, ← hxf, ← hm] at HI
  rw [← hk, ← hm]
  have HXF := Lib.hid hxf
  have HXM := Lib.hid hm
  have HHH := Lib.hid hH
  have HDL := Lib.hid hdl
  clear h hx hg hk hxf hm hH hxb hhi hcp hdl
  go_enter Try.func15, Try.ntmps15
  go_wp2_with fail
  refine HI.out.mono ?_
  rintro e w1 ⟨rfl, ho⟩
  obtain ⟨W2, hW2⟩ : ∃ W2, W2 = w1.alloc (.cells #[.int .i64 k, .int .i64 xf, .int .i64 m] 45) := ⟨_, rfl⟩
  have ho2 : Oth [] w W2 := by rw [hW2]; exact ho.alloc _
  obtain ⟨cv, bv, mb, cs, hS, ha⟩ := HH.out.oth ho2 (by simp)
  have hce := ha.cells
  rw [← HHH.out] at hce
  obtain ⟨g, cap, hcv, _, hrow⟩ := row_of_owns hce (by omega)
  have hob : W2.heap[w1.heap.size]? = some (.cells #[.int .i64 k, .int .i64 xf, .int .i64 m] 45 (0, 0)) := by rw [hW2]; exact heap_alloc_new _ _
  have s1 : W2.cell? ⟨p, 1, none⟩ = some (.slice (some ⟨g, 0, none⟩) H cap) := by rw [← hcv]; exact ha.cell rfl
  have s2 : W2.cell? ⟨w1.heap.size, 1, none⟩ = some (.int .i64 xf) := obj_cell hob rfl
  have s3 : W2.cell? ⟨w1.heap.size, 2, none⟩ = some (.int .i64 m) := obj_cell hob rfl
  have hcc := hrow.cap_le
  have b5 : xf + m ≤ cap := by omega
  have b6 : cap ≤ 9223372036854775807 := by have := hcc.2; unfold maxLen at this; omega
  have b7 : (xf : Int) + (m : Int) ≤ (cap : Int) := by omega
  have b8 : ¬ (cap = xf) := by omega
  have b9 : xf + m - xf = m := by omega
  have b10 : (xf : Int) ≤ (xf : Int) + (m : Int) := by omega
  have b11 : (xf : Int) ≤ (cap : Int) := by omega
  have b12 : ((xf : Int) + (m : Int)).toNat - xf = m := by omega
  have t7 : IntKind.i64.wrap ((xf : Int) + (m : Int)) = (xf : Int) + (m : Int) := by rw [IntKind.wrap_i64]; omega
  have HCL : Hid (∀ W dc, Oth [] W2 W → Calls Try.prog 32 #[.slice (some ⟨g, xf, none⟩) m dc] W fun e w' => ∃ g' cap', e = .returned (.slice (some ⟨g', 0, none⟩) m cap') ∧ w'.cell? ⟨p, 1, none⟩ = some (.slice (some ⟨g, 0, none⟩) H cap) ∧ w'.cell? ⟨w1.heap.size, 1, none⟩ = some (.int .i64 xf) ∧ w'.cell? ⟨w1.heap.size, 2, none⟩ = some (.int .i64 m) ∧ Hid (w.heap.size ≤ g' ∧ Row 59 1 g' m cap' (x.d.map (Value.int .i64)) w' ∧ Oth [] w w')) := by
    intro W dc hoW
    refine (clone_words g xf m dc x.d W (by omega) (by omega) HDL.out (fun i v hv => ?_)).mono ?_
    · have hd := ha.data x (List.mem_of_getElem? HX.out)
      rw [← HXF.out, ← HXM.out] at hd
      rw [← hd, List.getElem?_take] at hv
      split at hv
      · rw [List.getElem?_drop] at hv
        exact hoW.cell (hrow.cell (by rw [List.getElem?_map, hv]; rfl)) (by simp)
      · cases hv
    · rintro e w' ⟨g', cap', rfl, q1, q2, q3⟩
      have hz := ho2.trans (hoW.trans q3 (Fr.nil _ _)) (Fr.nil _ _)
      have hz2 := hoW.trans q3 (Fr.nil _ _)
      exact ⟨g', cap', rfl, hz2.cell s1 (by simp), hz2.cell s2 (by simp), hz2.cell s3 (by simp), by have := (ho2.trans hoW (Fr.nil _ _)).size; omega, q2, hz⟩
  have HW2 := Lib.hid hW2
  have c1' : (w1.alloc (.cells #[.int .i64 k, .int .i64 xf, .int .i64 m] 45)).cell? ⟨p, 1, none⟩ = some (.slice (some ⟨g, 0, none⟩) H cap) := by rw [← hW2]; exact s1
  have hp1 : p < w1.heap.size := (HH.out.oth ho (by simp)).lt p (by rw [hS]; simp [own4])
  clear ha hrow hcv hS ho2 hce hcc hW2 hob
  go_wp2_with fail
  rw [← HW2.out]
  go_region_held3 (fun w' => w'.cell? ⟨p, 1, none⟩ = some (.slice (some ⟨g, 0, none⟩) H cap) ∧ w'.cell? ⟨w1.heap.size, 1, none⟩ = some (.int .i64 xf) ∧ w'.cell? ⟨w1.heap.size, 2, none⟩ = some (.int .i64 m)) (first | exact ⟨s1, s2, s3⟩ | exact ⟨u1, u2, u3⟩)
    (first | (go_at_call 32; refine (HCL.out _ _ ?_).mono ?_; exact (Oth.refl _ _).drew; rintro e w3 ⟨g', cap', rfl, u1, u2, u3, HF⟩))
  go_wp2_with fail
  go_ret2
  exact ⟨g', cap', rfl, HF.out⟩
end Go.Proofs.Ythllilkafdgheaa
