/- The walk of slices.Delete of one block. Condition: at most 1000 blocks. -/
import Derived.Test.YthllilkafdgheaaAb
namespace Go.Proofs.Ythllilkafdgheaa
open Go.RowKit
set_option linter.unusedVariables false
set_option linter.unusedSimpArgs false

set_option maxHeartbeats 4000000 in
set_option maxRecDepth 100000 in
theorem delete_ent (g n cap i m : Nat) (xs : List Value) (w : World) (hr : Row 45 3 g n cap xs w) (h1c : ∀ v ∈ xs, v.oneCell' = true) (hn : n = i + 1 + m) (hn2 : n ≤ 1000) :
    Calls Try.prog 31 #[.slice (some ⟨g, 0, none⟩) n cap, .int .i64 i, .int .i64 ((i : Int) + 1)] w fun e w' => e = .returned (.slice (some ⟨g, 0, none⟩) (i + m) cap) ∧ w' = (w.drew.setCells g (i * 3) (xs.drop ((i + 1) * 3))).setCells g ((i + m) * 3) [.int .i64 0, .int .i64 0, .int .i64 0] := by
  obtain ⟨i0, hi0, hz0, hzs, hzb⟩ := info_parts Try.info45
  obtain ⟨hnc, hcm⟩ := hr.cap_le
  have hc63 : cap ≤ 9223372036854775807 := by unfold maxLen at hcm; omega
  have hlen := hr.len
  have hdl : (xs.drop ((i + 1) * 3)).length = m * 3 := by rw [List.length_drop, hlen]; omega
  obtain ⟨A, hA⟩ : ∃ A : Addr, A = if cap = i + 1 then ⟨g, 0, none⟩ else ⟨g, (i + 1) * 3, none⟩ := ⟨_, rfl⟩
  have hsrc : ∀ j u, (xs.drop ((i + 1) * 3))[j]? = some u → w.drew.cell? (A.add j) = some u := fun j u hj => by
    have hm : 0 < m := by
      rcases Nat.eq_zero_or_pos m with h | h
      · subst h; rw [List.getElem?_eq_none (by omega)] at hj; cases hj
      · exact h
    rw [hA, if_neg (by omega), Addr.add_lit]
    exact hr.drew.cell (by rwa [List.getElem?_drop] at hj)
  have happ : ∀ ty c', (Builtin.append_ #[61, 61] ty #[.slice (some ⟨g, 0, none⟩) i cap, .slice (some A) m c']).run Try.prog w.drew = .ok (.slice (some ⟨g, 0, none⟩) (i + m) cap) (w.drew.setCells g (i * 3) (xs.drop ((i + 1) * 3))) := fun ty c' => by
    have := run_append_room_src (P := Try.prog) w.drew 61 61 ty 45 i0 Try.underlying61 hi0 g 0 i cap (.slice (some A) m c') m (xs.drop ((i + 1) * 3)) (Src.ofSlice _ Try.underlying61 A m c' _ (by rw [hzs]; exact hdl) hsrc (fun v hv => h1c v (List.mem_of_mem_drop hv))) (by omega)
      (fun j hj => hr.drew.there (by rw [hzs]; omega)) (fun j hj => hr.drew.free _)
    rw [hzs, Nat.zero_add] at this
    exact this
  obtain ⟨W1, hW1⟩ : ∃ W1, W1 = w.drew.setCells g (i * 3) (xs.drop ((i + 1) * 3)) := ⟨_, rfl⟩
  have hclr : ∀ ty c', (Builtin.clear_ #[61] ty #[.slice (some ⟨g, (i + m) * 3, none⟩) 1 c']).run Try.prog W1 = .ok (.tuple #[]) (W1.setCells g ((i + m) * 3) [.int .i64 0, .int .i64 0, .int .i64 0]) := fun ty c' => by
    refine run_clear_one W1 61 45 ty (.agg #[.int .i64 0, .int .i64 0, .int .i64 0]) Try.underlying61 (fun w => by simp [zeroValue, typeInfo, hi0, hz0]) [.int .i64 0, .int .i64 0, .int .i64 0] (by kernel_rfl) (by simp [Value.oneCell']) g _ c' (fun j hj => ?_) (fun j hj => ?_)
    · obtain ⟨cur, hh, _, _, hs, _⟩ := hr
      have := heap_setCells g (xs.drop ((i + 1) * 3)) (i * 3) w.drew cur 45 hh
      rw [hW1]
      simp only [World.cell?, this]
      simp at hj
      rw [Array.getElem?_eq_getElem (by rw [wr_size]; omega)]; rfl
    · rw [hW1, World.frozen?_setCells]; exact hr.free _
  rw [← hW1] at happ ⊢
  have t1 : (i : Int) + 1 ≤ (n : Int) := by omega
  have t2 : ¬ ((i : Int) = (i : Int) + 1) := by omega
  have t3 : n - (i + 1) = m := by omega
  have t4 : (n : Int) ≤ (cap : Int) := by omega
  have t5 : n - (i + m) = 1 := by omega
  have t6 : ¬ (cap = i + m) := by omega
  have t7 : ((i : Int) + 1).toNat = i + 1 := by omega
  have t8 : (0 : Int) ≤ (i : Int) + 1 := by omega
  have t9 : IntKind.i64.wrap ((i : Int) + 1) = (i : Int) + 1 := by rw [IntKind.wrap_i64]; omega
  have t10 : (i : Int) ≤ (n : Int) := by omega
  have t11 : i ≤ n := by omega
  have t12 : i + 1 ≤ n := by omega
  have t13 : (i : Int) + (m : Int) ≤ (n : Int) := by omega
  have t14 : (i : Int) ≤ (cap : Int) := by omega
  have t15 : i ≤ cap := by omega
  have t16 : (0 : Int) ≤ (i : Int) := by omega
  have HN := Lib.hid hn
  have t17 : (i : Int) ≤ (i : Int) + 1 := by omega
  by_cases hq : cap = i + 1
  · subst hq
    rw [if_pos rfl] at hA
    subst hA
    clear hr h1c hlen hdl hsrc hn hW1
    go_enter Try.func31, Try.ntmps31
    go_wp2_with fail
    go_region_law (refine step_append_runI rfl _ _ 61 61 rfl (.slice (some ⟨g, 0, none⟩) i (i + 1)) (.slice (some ⟨g, 0, none⟩) m 0) (by simp [Act.eval, Act.put]) (by simp [Act.eval, Act.put]) (happ _ _) ?_)
    all_goals go_wp2_with (at_builtin; refine wpList_clear_run _ rfl _ 61 rfl _ rfl (hclr _ _) ?_)
    all_goals go_ret
    all_goals exact ⟨rfl, rfl⟩
  · have hq2 : ¬ (cap = i + 1) := hq
    rw [if_neg hq] at hA
    subst hA
    clear hr h1c hlen hdl hsrc hn hW1
    go_enter Try.func31, Try.ntmps31
    go_wp2_with fail
    go_region_law (refine step_append_runI rfl _ _ 61 61 rfl (.slice (some ⟨g, 0, none⟩) i cap) (.slice (some ⟨g, (i + 1) * 3, none⟩) m (cap - (i + 1))) (by simp [Act.eval, Act.put]) (by simp [Act.eval, Act.put]) (happ _ _) ?_)
    all_goals go_wp2_with (at_builtin; refine wpList_clear_run _ rfl _ 61 rfl _ rfl (hclr _ _) ?_)
    all_goals go_ret
    all_goals exact ⟨rfl, rfl⟩
end Go.Proofs.Ythllilkafdgheaa
