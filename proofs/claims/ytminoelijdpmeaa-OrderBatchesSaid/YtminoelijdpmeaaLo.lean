/- Feed's twin, alone: where its argument is a slice whose cells are there, it does what Feed does; elsewhere its run ends. -/
import Derived.Test.YtminoelijdpmeaaLn
import Derived.Test.YtminoelijdpmeaaLja
set_option linter.unusedSimpArgs false
namespace Go.Proofs.Ytminoelijdpmeaa
open Go.Conc Go.RowKit Lift
namespace FeedRun

/-- The run is about to end, refused by nothing in the text. -/
def AtDeath (P : Program) (g : Goroutine) (w : World) : Prop := ∃ fr C, g = G fr C ∧ ∃ o w' es, stepG P true (G fr C) w = .ended o w' es ∧ ¬ Refused o
theorem ends_of_loneTo {P : Program} {fr : Frame} {C : List Frame} {w : World} (h : LoneTo P (AtDeath P) (G fr C) w) : ∃ n o w', runN P n (lone fr C w) = .ended o w' ∧ ¬ Refused o := by
  obtain ⟨g', w', ⟨n, hn⟩, fr', C', rfl, o, w'', es, hs, hr⟩ := h
  refine ⟨n + 1, o, w'', ?_, hr⟩
  have e : lone fr C w = solo (G fr C) w := rfl
  rw [e, runN_add, hn]
  have := lone_end (fr := fr') (cs := C') hs
  simp only [runN]
  have h' : step P (solo (G fr' C') w') = .ended o w'' := this
  rw [h']
theorem runT_of {P : Program} {s : Sem Next} {w w' : World} {h : Halt} (hr : s.run P w = .halt h w') : ∃ es, s.runT P w #[] = (.halt h w', es) := ⟨(s.runT P w #[]).2, Prod.ext (by rw [Sem.runT_fst]; exact hr) rfl⟩

section
variable {b : Frame} {a : Act} {k : List Item} {cs : List Frame} {w w' : World} {ops : Array Oper} {i : Nat} {rest : List Nat} {o : Oper}
theorem dies_stuck {P : Program} {x : String} (ho : ops[i]? = some o) (hw : Region.wanted o (yielded ops a.tmps) = true) (hr : (execOp a.eval o).run P w = .halt (.stuck x) w') : AtDeath P (G (b.at a (.inRegion ops (i :: rest) :: k)) cs) w := by
  refine ⟨_, _, rfl, ?_⟩
  rw [stepG_oper ho hw]
  obtain ⟨es, hes⟩ := runT_of hr
  simp only [stepG.apply, if_true, hes]
  exact ⟨_, _, _, rfl, fun ⟨_, _, h⟩ => by cases h⟩
theorem dies_unsafe {P : Program} {x : String} (ho : ops[i]? = some o) (hw : Region.wanted o (yielded ops a.tmps) = true) (hr : (execOp a.eval o).run P w = .halt (.unsupported (.unsafePointer x)) w') : AtDeath P (G (b.at a (.inRegion ops (i :: rest) :: k)) cs) w := by
  refine ⟨_, _, rfl, ?_⟩
  rw [stepG_oper ho hw]
  obtain ⟨es, hes⟩ := runT_of hr
  simp only [stepG.apply, if_true, hes]
  exact ⟨_, _, _, rfl, fun ⟨_, _, h⟩ => by cases h⟩
theorem dies_early {g : Nat} (ho : ops[i]? = some o) (hw : Region.wanted o (yielded ops a.tmps) = true) (hr : (execOp a.eval o).run Tw w = .halt (.unsupported (.initOrder g)) w') : AtDeath Tw (G (b.at a (.inRegion ops (i :: rest) :: k)) cs) w := by
  refine ⟨_, _, rfl, ?_⟩
  rw [stepG_oper ho hw]
  have ha : Tw.follows .staticDataAhead = true := by kernel_rfl
  obtain ⟨es, hes⟩ := runT_of hr
  simp only [stepG.apply, if_true, hes, early, ha, tw_still]
  exact ⟨_, _, _, rfl, fun ⟨_, _, h⟩ => by cases h⟩
end

theorem enter16 (a : Value) : Frame.enter Tw 16 #[a] .normal = (base 16).at ⟨#[a, undef, undef, undef, undef, undef, undef, undef, undef, undef, undef, undef, undef, undef, undef, undef, undef, undef, undef, undef, undef, undef, undef, undef, undef, undef], []⟩ [.code feedBody] := by
  simp [Frame.enter, Frame.at, Tw.func16, base, feed, feedBody]

set_option maxRecDepth 100000 in
set_option maxHeartbeats 4000000 in
theorem bad1 (a : Value) (ha : ∀ b n cap, a ≠ .slice b n cap) (C : List Frame) (w : World) : LoneTo Tw (AtDeath Tw) (G (Frame.enter Tw 16 #[a] .normal) C) w := by
  rw [enter16]
  refine LoneTo.goes (n := 10) ?_
  simp only [feedBody]
  s_c stepG_seq
  s_reg
  s_stop
  refine LoneTo.done (dies_stuck (x := "len: string, array, pointer to array, slice, map or channel expected") (w' := w) rfl rfl ?_)
  cases a <;> first | (exact absurd rfl (ha _ _ _)) | simp [go_sem, execOp, Act.eval, Builtin.len_, resolve, invoke]

end FeedRun
end Go.Proofs.Ytminoelijdpmeaa
