/- The walks of Delete at pieces; an entry taken out of a row. No condition. -/
import Derived.Test.YtbjfojdhdjehpaaTj
import Derived.Test.YtbjfojdhdjehpaaTh
namespace Go.Proofs.Ytbjfojdhdjehpaa
open Go.RowKit
set_option linter.unusedVariables false
set_option linter.unusedSimpArgs false

theorem Try.info72 : (Try.prog.info? 72).map (fun i => (i.zero, i.size, i.bytes)) = some (some (.slice none 0 0), 1, 24) := by kernel_rfl

theorem delAt_get (xs : List Value) (a b j : Nat) (ha : a ≤ b) (hb : b ≤ xs.length) : (xs.take a ++ xs.drop b)[j]? = if j < a then xs[j]? else xs[j - a + b]? := by
  have hl : (xs.take a).length = a := by rw [List.length_take]; omega
  by_cases h : j < a
  · rw [if_pos h, List.getElem?_append_left (by omega), List.getElem?_take, if_pos h]
  · rw [if_neg h, List.getElem?_append_right (by omega), hl, List.getElem?_drop]; congr 1; omega

theorem row_del {g n cap i m : Nat} {xs : List Value} {w : World} (h : Row 71 2 g n cap xs w) (hn : n = i + 1 + m) (z1 z2 : Value) :
    Row 71 2 g (i + m) cap (xs.take (i * 2) ++ xs.drop ((i + 1) * 2)) ((w.drew.setCells g (i * 2) (xs.drop ((i + 1) * 2))).setCells g ((i + m) * 2) [z1, z2]) := by
  have hl := h.len
  obtain ⟨cur, hh, h1, h2, h3, h4, h5⟩ := h
  refine ⟨_, heap_setCells g _ _ _ _ 71 (heap_setCells g _ _ w.drew cur 71 hh), by omega, h2, by rw [wr_size, wr_size]; exact h3, by simp; omega, fun j hj => ?_⟩
  rw [delAt_get _ _ _ _ (by omega) (by omega), wr_get _ _ _ _ (by rw [wr_size]; simp; omega), wr_get _ _ _ _ (by simp; omega)]
  simp only [List.length_cons, List.length_nil, List.length_drop, List.getElem?_drop]
  rw [if_neg (by omega)]
  by_cases c1 : j < i * 2
  · rw [if_neg (by omega), if_pos c1]; exact h5 j (by omega)
  · rw [if_pos (by omega), if_neg c1]; congr 1; omega

set_option maxHeartbeats 4000000 in
set_option maxRecDepth 100000 in
theorem delete_part (gp c : Nat) (v : Value) (w : World) (hp : w.heap[gp]? = some (.cells #[v] 72 (0, 0))) (hc : 1 ≤ c) (hc2 : c ≤ maxLen) :
    Calls Try.prog 55 #[.slice (some ⟨gp, 0, none⟩) 1 c, .int .i64 0, .int .i64 1] w fun e w' => e = .returned (.slice (some ⟨gp, 0, none⟩) 0 c) ∧ Oth [gp] w w' := by
  obtain ⟨i0, hi0, hz0, hzs, hzb⟩ := info_parts Try.info72
  have hc63 : c ≤ 9223372036854775807 := by unfold maxLen at hc2; omega
  have happ : ∀ ty A c', (Builtin.append_ #[33, 33] ty #[.slice (some ⟨gp, 0, none⟩) 0 c, .slice (some A) 0 c']).run Try.prog w.drew = .ok (.slice (some ⟨gp, 0, none⟩) 0 c) w.drew := fun ty A c' => by
    have := run_append_room_src (P := Try.prog) w.drew 33 33 ty 72 i0 Try.underlying33 hi0 gp 0 0 c (.slice (some A) 0 c') 0 [] (Src.ofSlice _ Try.underlying33 A 0 c' _ (by simp) (fun j u hj => by simp at hj) (fun v hv => by simp at hv)) (by omega)
      (fun j hj => by simp at hj) (fun j hj => by simp at hj)
    exact this
  have hclr : ∀ ty c', (Builtin.clear_ #[33] ty #[.slice (some ⟨gp, 0, none⟩) 1 c']).run Try.prog w.drew = .ok (.tuple #[]) (w.drew.setCells gp 0 [.slice none 0 0]) := fun ty c' => by
    have hp' : w.drew.heap[gp]? = some (.cells #[v] 72 (0, 0)) := hp
    refine run_clear_one w.drew 33 72 ty (.slice none 0 0) Try.underlying33 (fun w => by simp [zeroValue, typeInfo, hi0, hz0]) [.slice none 0 0] (by kernel_rfl) (by simp [Value.oneCell']) gp 0 c' (fun j hj => ?_) (fun j hj => ?_)
    · simp at hj; subst hj; simp [World.cell?, hp']
    · simp [World.frozen?, hp']
  have t1 : (1 : Int) ≤ (c : Int) := by omega
  have t2 : (0 : Int) ≤ (c : Int) := by omega
  have t3 : ¬ (c = 0) := by omega
  clear hp
  by_cases hq : c = 1
  · subst hq
    go_enter Try.func55, Try.ntmps55
    go_wp2_with fail
    go_region_law (refine step_append_runI rfl _ _ 33 33 rfl (.slice (some ⟨gp, 0, none⟩) 0 1) (.slice (some ⟨gp, 0, none⟩) 0 0) (by simp [Act.eval, Act.put]) (by simp [Act.eval, Act.put]) (happ _ _ _) ?_)
    all_goals go_wp2_with (at_builtin; refine wpList_clear_run _ rfl _ 33 rfl _ rfl (hclr _ _) ?_)
    all_goals go_ret
    all_goals exact ⟨rfl, ((Oth.refl _ _).drew).setCells (.inl (by simp)) _ _⟩
  · go_enter Try.func55, Try.ntmps55
    go_wp2_with fail
    go_region_law (refine step_append_runI rfl _ _ 33 33 rfl (.slice (some ⟨gp, 0, none⟩) 0 c) (.slice (some ⟨gp, 1, none⟩) 0 (c - 1)) (by simp [Act.eval, Act.put]) (by simp [Act.eval, Act.put]) (happ _ _ _) ?_)
    all_goals go_wp2_with (at_builtin; refine wpList_clear_run _ rfl _ 33 rfl _ rfl (hclr _ _) ?_)
    all_goals go_ret
    all_goals exact ⟨rfl, ((Oth.refl _ _).drew).setCells (.inl (by simp)) _ _⟩

end Go.Proofs.Ytbjfojdhdjehpaa
