/- Feed's twin, alone: the look at the first and the last cell. -/
import Derived.Test.YtminoelijdpmeaaLp
set_option linter.unusedSimpArgs false
namespace Go.Proofs.Ytminoelijdpmeaa
open Go.Conc Go.RowKit Lift
namespace FeedRun
section
variable {n cap : Nat} (h0 : 0 < n) (hn : n ≤ 1000) (hc : n ≤ cap) {C : List Frame} {w : World}
include h0 hn hc
theorem bad4 : LoneTo Tw (AtDeath Tw) (G (Frame.enter Tw 16 #[.slice none n cap] .normal) C) w :=
  look _ none n cap h0 hn hc C w (LoneTo.done (dies_unsafe (x := "Add: from nil") (w' := w) rfl rfl (by simp [go_sem, execOp, Act.eval, run_add_nil])))
theorem bad5 (a : Addr) (h : w.heap[a.block]? = none) : LoneTo Tw (AtDeath Tw) (G (Frame.enter Tw 16 #[.slice (some a) n cap] .normal) C) w :=
  look _ (some a) n cap h0 hn hc C w (LoneTo.done (dies_stuck (x := "getObj: no such block") (w' := w) rfl rfl (by simp [go_sem, execOp, Act.eval, run_add_gone w _ _ a h])))
theorem bad6 (a p : Addr) (u : TypeId) (h : w.heap[a.block]? = some (.view p u)) : LoneTo Tw (AtDeath Tw) (G (Frame.enter Tw 16 #[.slice (some a) n cap] .normal) C) w :=
  look _ (some a) n cap h0 hn hc C w (LoneTo.done (dies_unsafe (x := "Add: at a place where no cell lies") (w' := w) rfl rfl (by simp [go_sem, execOp, Act.eval, run_add_view w _ _ a p u h])))

set_option maxRecDepth 100000 in
set_option maxHeartbeats 4000000 in
theorem look2 (Q : Goroutine → World → Prop) (a : Addr) (o : Obj) (ho : w.heap[a.block]? = some o) (hv : ∀ p u, o ≠ .view p u)
    (h : LoneTo Tw Q (G ((base 16).at ⟨#[.slice (some a) n cap, undef, undef, undef, undef, undef, undef, undef, undef, undef, undef, undef, undef, .int .i64 n, .bool true, .bool true, .pointer (some a), .pointer (some a), .pointer (some (a.add 0)), undef, undef, undef, undef, undef, .int .i64 cap, .bool true], []⟩
      [.inRegion lookB [3, 4, 5, 6], .code ((Code.region 3 makeAll false).seq ((Code.block 0 fillLoop.loop).seq ((Code.region 6 shutOps false).seq Code.ret)))]) C) w) :
    LoneTo Tw Q (G (Frame.enter Tw 16 #[.slice (some a) n cap] .normal) C) w := by
  refine look _ (some a) n cap h0 hn hc C w ?_
  have h01 : (0 : Int) < n := by omega
  have hadd := fun ts t => run_add_ok w ts t a o ho hv
  refine LoneTo.goes (n := 60) ?_
  s_op
  s_op
  s_stop
  exact h

omit h0 hn hc in
theorem dies_load {b : Frame} {act : Act} {k : List Item} {cs : List Frame} {ops : Array Oper} {i : Nat} {rest : List Nat} {o : Oper} {x : Operand} (p : Addr) (ho : ops[i]? = some o) (hw : Region.wanted o (yielded ops act.tmps) = true) (hop : o.op = .load 41 x) (hx : act.eval x = .pointer (some p))
    (hl : w.cell? p = none) (hv : ∀ q u, w.heap[p.block]? ≠ some (.view q u)) : AtDeath Tw (G (b.at act (.inRegion ops (i :: rest) :: k)) cs) w := by
  have hr : (execOp act.eval o).run Tw w = .halt (w.noCell p "load: no such cell") w := by
    unfold execOp
    simp only [hop, hx]
    have hf : ∀ b, w.farLoad Tw p b = .error (w.noCell p "load: no such cell") := by
      intro b
      unfold World.farLoad
      split
      · rename_i q u hh; exact absurd hh (hv q u)
      · rfl
    simp [go_sem, hl, hf]
  unfold World.noCell at hr
  split at hr
  · exact dies_early ho hw hr
  · rename_i q u hh; exact absurd hh (hv q u)
  · exact dies_stuck ho hw hr

theorem bad7 (a : Addr) (o : Obj) (ho : w.heap[a.block]? = some o) (hv : ∀ p u, o ≠ .view p u) (hl : w.cell? (a.add 0) = none) : LoneTo Tw (AtDeath Tw) (G (Frame.enter Tw 16 #[.slice (some a) n cap] .normal) C) w :=
  look2 h0 hn hc _ a o ho hv (LoneTo.done (dies_load (a.add 0) rfl rfl rfl rfl hl (fun q u hh => by
    rw [addr_add_block, ho] at hh
    exact hv q u (Option.some.inj hh))))

set_option maxRecDepth 100000 in
set_option maxHeartbeats 4000000 in
theorem look3 (Q : Goroutine → World → Prop) (a : Addr) (o : Obj) (ho : w.heap[a.block]? = some o) (hv : ∀ p u, o ≠ .view p u) (v : Value) (hl : w.cell? (a.add 0) = some v)
    (h : LoneTo Tw Q (G ((base 16).at ⟨#[.slice (some a) n cap, undef, undef, undef, undef, undef, undef, undef, undef, undef, undef, undef, undef, .int .i64 n, .bool true, .bool true, .pointer (some a), .pointer (some a), .pointer (some (a.add 0)), v, .int .i64 ((n - 1 : Nat) : Int), .pointer (some (a.add (n - 1))), undef, undef, .int .i64 cap, .bool true], []⟩
      [.inRegion lookB [6], .code ((Code.region 3 makeAll false).seq ((Code.block 0 fillLoop.loop).seq ((Code.region 6 shutOps false).seq Code.ret)))]) C) w) :
    LoneTo Tw Q (G (Frame.enter Tw 16 #[.slice (some a) n cap] .normal) C) w := by
  refine look2 h0 hn hc Q a o ho hv ?_
  have e1 : IntKind.i64.wrap ((n : Int) - 1) = ((n - 1 : Nat) : Int) := by rw [wrap_small _ (by omega) (by omega)]; omega
  have e2 : ((n - 1 : Nat) : Int) < n := by omega
  have e3 : n - 1 < n := by omega
  have hl' : w.cell? a = some v := by simpa [Addr.add] using hl
  refine LoneTo.goes (n := 60) ?_
  s_op
  s_op
  s_op
  s_stop
  exact h

theorem bad8 (a : Addr) (o : Obj) (ho : w.heap[a.block]? = some o) (hv : ∀ p u, o ≠ .view p u) (v : Value) (hl : w.cell? (a.add 0) = some v) (hl2 : w.cell? (a.add (n - 1)) = none) : LoneTo Tw (AtDeath Tw) (G (Frame.enter Tw 16 #[.slice (some a) n cap] .normal) C) w :=
  look3 h0 hn hc _ a o ho hv v hl (LoneTo.done (dies_load (a.add (n - 1)) rfl rfl rfl rfl hl2 (fun q u hh => by
    rw [addr_add_block, ho] at hh
    exact hv q u (Option.some.inj hh))))

set_option maxRecDepth 100000 in
set_option maxHeartbeats 4000000 in
theorem look4 (Q : Goroutine → World → Prop) (a : Addr) (v v2 : Value) (hl : w.cell? (a.add 0) = some v) (hl2 : w.cell? (a.add (n - 1)) = some v2)
    (h : LoneTo Tw Q (G ((base 16).at ⟨#[.slice (some a) n cap, undef, undef, undef, undef, undef, undef, undef, undef, undef, undef, undef, undef, .int .i64 n, .bool true, .bool true, .pointer (some a), .pointer (some a), .pointer (some (a.add 0)), v, .int .i64 ((n - 1 : Nat) : Int), .pointer (some (a.add (n - 1))), v2, undef, .int .i64 cap, .bool true], []⟩
      [.code ((Code.region 3 makeAll false).seq ((Code.block 0 fillLoop.loop).seq ((Code.region 6 shutOps false).seq Code.ret)))]) C) w) :
    LoneTo Tw Q (G (Frame.enter Tw 16 #[.slice (some a) n cap] .normal) C) w := by
  have hb : ∃ c e f, w.heap[a.block]? = some (.cells c e f) := by
    have hl' := hl
    unfold World.cell? at hl'
    rw [addr_add_block] at hl'
    split at hl'
    · rename_i c e f hh; exact ⟨c, e, f, hh⟩
    · cases hl'
  obtain ⟨c, e, f, hb⟩ := hb
  refine look3 h0 hn hc Q a _ hb (fun p u hh => by cases hh) v hl ?_
  refine LoneTo.goes (n := 60) ?_
  s_op
  s_c stepG_region_end
  s_stop
  exact h
end
set_option maxRecDepth 100000 in
set_option maxHeartbeats 4000000 in
theorem look0 (Q : Goroutine → World → Prop) (b : Option Addr) (cap : Nat) (C : List Frame) (w : World)
    (h : LoneTo Tw Q (G ((base 16).at ⟨#[.slice b 0 cap, undef, undef, undef, undef, undef, undef, undef, undef, undef, undef, undef, undef, .int .i64 ((0 : Nat) : Int), .bool true, .bool false, undef, undef, undef, undef, undef, undef, undef, undef, .int .i64 cap, .bool true], []⟩
      [.code ((Code.region 3 makeAll false).seq ((Code.block 0 fillLoop.loop).seq ((Code.region 6 shutOps false).seq Code.ret)))]) C) w) :
    LoneTo Tw Q (G (Frame.enter Tw 16 #[.slice b 0 cap] .normal) C) w := by
  rw [enter16]
  have hc1 : (0 : Int) ≤ cap := by omega
  refine LoneTo.goes (n := 60) ?_
  simp only [feedBody]
  s_c stepG_seq
  s_reg
  s_op
  s_op
  s_op
  s_op
  s_op
  s_c stepG_region_end
  s_c stepG_seq
  s_cond true
  s_c stepG_skip
  s_c stepG_seq
  s_cond true
  s_c stepG_skip
  s_c stepG_seq
  s_cond false
  s_c stepG_skip
  s_stop
  exact h
end FeedRun
end Go.Proofs.Ytminoelijdpmeaa
