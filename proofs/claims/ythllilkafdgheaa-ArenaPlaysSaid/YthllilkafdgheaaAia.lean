/- Zeros appended to words, words cleared: the builtins' runs. Condition: small numbers. -/
import Derived.Test.YthllilkafdgheaaAh
namespace Go.Proofs.Ythllilkafdgheaa
open Go.RowKit
set_option linter.unusedVariables false
set_option linter.unusedSimpArgs false

theorem zeros_list (m : Nat) : (Builtin.zeroCells (Value.int .i64 0).cells m).toList = List.replicate m (.int .i64 0) := by
  apply List.ext_getElem?
  intro j
  simp [Builtin.zeroCells, Value.cells]
  by_cases c : j < m
  · simp [c, List.getElem?_replicate, Nat.mod_one]
  · simp [c, List.getElem?_replicate]

theorem run_room_zeros (w : World) (ty : TypeId) (b n cap m : Nat) (xs : List Value) (h : Row 59 1 b n cap xs w) (hm : 0 < m) (hroom : n + m ≤ cap) (hb : n + m ≤ 100000000) :
    (Builtin.append_ #[23, 3] ty #[.slice (some ⟨b, 0, none⟩) n cap, .int .i64 m]).run Try.prog w = .ok (.slice (some ⟨b, 0, none⟩) (n + m) cap) (w.setCells b n (List.replicate m (.int .i64 0))) := by
  obtain ⟨i0, hi0, hz0, hzs, hzb⟩ := info_parts Try.info59
  have hst := run_storeCells_cells (P := Try.prog) b n (List.replicate m (.int .i64 0)) 0 w (fun j hj => by simp at hj; simpa using h.there (j := n + j) (by omega)) (fun j hj => by simpa using h.free _) (fun v hv => by have := List.eq_of_mem_replicate hv; subst this; rfl)
  have hk : m ≠ 0 := by omega
  have hw : IntKind.i64.wrap (m : Int) = m := by rw [IntKind.wrap_i64]; omega
  have h63' : ¬ (9223372036854775807 < ((n : Int) + (m : Int))) := by omega
  have h48i : ¬ (281474976710656 < (m : Int) * (8 : Int)) := by omega
  have hneg : ¬ ((m : Int) < 0) := by omega
  have hz := zeros_list m
  simp only [Nat.add_zero] at hst
  simp [Builtin.append_, run_underlying Try.underlying23, run_underlying Try.underlying3, sizeOf, typeInfo, zeroValue, hi0, hz0, hzs, hzb, asInt, asIntOf, hw, hroom, hneg, hk, h63', h48i, hz, Addr.add_lit, hst]

theorem run_zeros (w : World) (ty : TypeId) (v : Value) (n m : Nat) (xs : List Int) (h : w.ownsRow 0 59 1 v n (xs.map (Value.int .i64))) (hm : 0 < m) (hb : n + m ≤ 100000000) :
    ∃ g' cap' w', (Builtin.append_ #[23, 3] ty #[v, .int .i64 m]).run Try.prog w = .ok (.slice (some ⟨g', 0, none⟩) (n + m) cap') w' ∧ Row 59 1 g' (n + m) cap' ((xs ++ List.replicate m 0).map (Value.int .i64)) w' ∧ Oth v.ownBlock.toList w w' ∧ (v.ownBlock = some g' ∨ w.heap.size ≤ g') := by
  obtain ⟨i0, hi0, hz0, hzs, hzb⟩ := info_parts Try.info59
  have hxl : xs.length = n := by have := h.1; simpa using this
  have hgrow : ∀ (base : Option Addr) (cap : Nat), v = .slice base n cap → cap < n + m → (Builtin.firstCells i0.size n (.slice base n cap)).run Try.prog w.drew = .ok (xs.map (Value.int .i64)).toArray w.drew →
      ∃ g' cap' w', (Builtin.append_ #[23, 3] ty #[v, .int .i64 m]).run Try.prog w = .ok (.slice (some ⟨g', 0, none⟩) (n + m) cap') w' ∧ Row 59 1 g' (n + m) cap' ((xs ++ List.replicate m 0).map (Value.int .i64)) w' ∧ Oth v.ownBlock.toList w w' ∧ (v.ownBlock = some g' ∨ w.heap.size ≤ g') := fun base cap hv hc hold => by
    have hrun := Lib.run_append_grow_zeros w 23 3 ty 59 i0 _ .i64 .i64 Try.underlying23 Try.underlying3 hi0 hz0 base n cap _ hold m hm (by omega) hc (by omega) (by rw [hzb]; omega) (by rw [hzb]; exact growslice_fits hc (by omega))
    have hGn : n + m ≤ grownCap w (n + m) cap 59 := grownCap_ge w _ _ _
    have hGm : grownCap w (n + m) cap 59 ≤ maxLen := grownCap_le_maxLen w (n + m) cap 59 (by unfold maxLen; omega)
    obtain ⟨G, hG⟩ : ∃ G, G = grownCap w (n + m) cap 59 := ⟨_, rfl⟩
    rw [← hG] at hrun hGn hGm
    refine ⟨w.heap.size, G, _, by rw [hv]; exact hrun, ⟨_, heap_alloc_new w.drew _, hGn, hGm, ?_, ?_, fun j hj => ?_⟩, ((Oth.refl _ _).drew).alloc _, .inr (Nat.le_refl _)⟩
    · simp [Builtin.zeroCells, Value.cells, hxl]; omega
    · simp [hxl]
    · rw [Nat.mul_one] at hj
      rw [List.map_append, Array.append_assoc]
      by_cases c : j < n
      · rw [Array.getElem?_append_left (by simp [hxl]; exact c), List.getElem?_append_left (by simp [hxl]; exact c)]
        simp
      · rw [Array.getElem?_append_right (by simp [hxl]; omega), List.getElem?_append_right (by simp [hxl]; omega)]
        have h1 : j - n < m := by omega
        rw [Array.getElem?_append_left (by simp [Builtin.zeroCells, Value.cells, hxl]; omega)]
        have hz := zeros_list m
        rw [← Array.getElem?_toList, hz]
        simp [hxl, h1]
  rcases h.2 with ⟨h5, h6⟩ | ⟨g, c, cur, h5, h6, h7, h8, h9, h10, h11⟩
  · subst h6
    have hx0 : xs = [] := List.eq_nil_of_length_eq_zero hxl
    refine hgrow none 0 h5 (by omega) ?_
    rw [hx0]
    simp [Builtin.firstCells]
  · have hr : Row 59 1 g n c (xs.map (Value.int .i64)) w := by
      rcases Nat.eq_zero_or_pos n with h0 | h0
      · refine ⟨cur, h7, h8, h9, h10, h.1, fun j hj => by omega⟩
      · obtain ⟨g2, c2, he, _, hr⟩ := row_of_owns h h0
        rw [h5] at he
        injection he with e1 e2 e3
        cases e1; subst e3; exact hr
    rcases Nat.lt_or_ge c (n + m) with hc | hc
    · refine hgrow (some ⟨g, 0, none⟩) c h5 hc ?_
      rw [hzs]
      exact run_firstCells_some w.drew 1 n ⟨g, 0, none⟩ n c _ (by simp [hxl]) (fun j u hj => by rw [Addr.add_lit, Nat.zero_add]; exact hr.drew.cell hj)
    · refine ⟨g, c, _, by rw [h5]; exact run_room_zeros w ty g n c m _ hr hm hc hb, ?_, ?_, .inl (by rw [h5]; rfl)⟩
      · have hl := hr.len
        obtain ⟨cur2, hh, q1, q2, q3, q4, q5⟩ := hr
        refine ⟨_, heap_setCells g _ _ _ _ 59 hh, hc, q2, by rw [wr_size]; exact q3, by simp [hxl], fun j hj => ?_⟩
        rw [wr_get _ _ _ _ (by simp; omega), List.map_append]
        simp only [List.length_replicate]
        by_cases c1 : j < n
        · rw [if_neg (by omega), List.getElem?_append_left (by simp [hxl]; exact c1)]; exact q5 j (by omega)
        · rw [if_pos (by omega), List.getElem?_append_right (by simp [hxl]; omega)]; simp [hxl]
      · rw [h5]; exact (Oth.refl _ _).setCells (.inl (by simp [Value.ownBlock])) _ _

/-- 'clear' of m words. -/
theorem run_clear_words (w : World) (ty : TypeId) (b o m c : Nat) (hm : 0 < m) (hc : ∀ j, j < m → (w.cell? ⟨b, o + j, none⟩).isSome = true) (hf : ∀ j, j < m → w.frozen? ⟨b, o + j, none⟩ = false) :
    (Builtin.clear_ #[23] ty #[.slice (some ⟨b, o, none⟩) m c]).run Try.prog w = .ok (.tuple #[]) (w.setCells b o (List.replicate m (.int .i64 0))) := by
  obtain ⟨i0, hi0, hz0, hzs, hzb⟩ := info_parts Try.info59
  have hst := run_storeCells_cells (P := Try.prog) b o (List.replicate m (.int .i64 0)) 0 w (by simpa using hc) (by simpa using hf) (fun v hv => by have := List.eq_of_mem_replicate hv; subst this; rfl)
  simp only [Nat.add_zero] at hst
  have hz := zeros_list m
  obtain ⟨m', rfl⟩ : ∃ m', m = m' + 1 := ⟨m - 1, by omega⟩
  simp [Builtin.clear_, run_underlying Try.underlying23, zeroValue, typeInfo, hi0, hz0, hz, hst]
end Go.Proofs.Ythllilkafdgheaa
