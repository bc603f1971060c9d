/- Feed's twin, alone: the ways on which its run ends. -/
import Derived.Test.YtminoelijdpmeaaLo
set_option linter.unusedSimpArgs false
namespace Go.Proofs.Ytminoelijdpmeaa
open Go.Conc Go.RowKit Lift
namespace FeedRun

theorem dies_exit {P : Program} {b : Frame} {a : Act} {k : List Item} {cs : List Frame} {w : World} {id : Nat} (h : exitTo id k = none) (hr : b.roundOf = none) : AtDeath P (G (b.at a (.code (.exit id) :: k)) cs) w := by
  refine ⟨_, _, rfl, ?_⟩
  simp only [G, stepG, Frame.at, stepG.exec, h, Option.elim, hr]
  exact ⟨_, _, _, rfl, fun ⟨_, _, h⟩ => by cases h⟩

set_option maxRecDepth 100000 in
set_option maxHeartbeats 4000000 in
theorem bad2 (b : Option Addr) (n cap : Nat) (hn : ¬ n ≤ 1000) (C : List Frame) (w : World) : LoneTo Tw (AtDeath Tw) (G (Frame.enter Tw 16 #[.slice b n cap] .normal) C) w := by
  rw [enter16]
  have hn1 : ¬ (n : Int) ≤ 1000 := by omega
  refine LoneTo.goes (n := 60) ?_
  simp only [feedBody]
  s_c stepG_seq
  s_reg
  s_op
  s_op
  s_op
  s_op
  s_op
  s_c stepG_region_end
  s_c stepG_seq
  s_cond false
  s_stop
  exact LoneTo.done (dies_exit rfl rfl)

set_option maxRecDepth 100000 in
set_option maxHeartbeats 4000000 in
theorem bad3 (b : Option Addr) (n cap : Nat) (hn : n ≤ 1000) (hc : ¬ n ≤ cap) (C : List Frame) (w : World) : LoneTo Tw (AtDeath Tw) (G (Frame.enter Tw 16 #[.slice b n cap] .normal) C) w := by
  rw [enter16]
  have hn1 : (n : Int) ≤ 1000 := by omega
  have hc1 : ¬ (n : Int) ≤ cap := by omega
  refine LoneTo.goes (n := 60) ?_
  simp only [feedBody]
  s_c stepG_seq
  s_reg
  s_op
  s_op
  s_op
  s_op
  s_op
  s_c stepG_region_end
  s_c stepG_seq
  s_cond true
  s_c stepG_skip
  s_c stepG_seq
  s_cond false
  s_stop
  exact LoneTo.done (dies_exit rfl rfl)

theorem add_nil (ts : Array TypeId) (t : TypeId) : Builtin.unsafeAdd_ ts t #[.pointer none, .int .i64 0] = unsupported (.unsafePointer "Add: from nil") := rfl
theorem add_some (ts : Array TypeId) (t : TypeId) (a : Addr) : Builtin.unsafeAdd_ ts t #[.pointer (some a), .int .i64 0] = (viewAt a.block >>= fun v => if v.isSome then unsupported (.unsafePointer "Add: at a place where no cell lies") else pure (.pointer (some a))) := rfl
theorem run_add_nil (w : World) (ts : Array TypeId) (t : TypeId) : (Builtin.unsafeAdd_ ts t #[.pointer none, .int .i64 0]).run Tw w = .halt (.unsupported (.unsafePointer "Add: from nil")) w := by
  rw [add_nil]; simp [go_sem]
theorem run_add_gone (w : World) (ts : Array TypeId) (t : TypeId) (a : Addr) (h : w.heap[a.block]? = none) : (Builtin.unsafeAdd_ ts t #[.pointer (some a), .int .i64 0]).run Tw w = .halt (.stuck "getObj: no such block") w := by
  rw [add_some]; simp [go_sem, viewAt, World.shape?, h, getObj, Sem.run, Result.andThen]
theorem run_add_view (w : World) (ts : Array TypeId) (t : TypeId) (a p : Addr) (u : TypeId) (h : w.heap[a.block]? = some (.view p u)) : (Builtin.unsafeAdd_ ts t #[.pointer (some a), .int .i64 0]).run Tw w = .halt (.unsupported (.unsafePointer "Add: at a place where no cell lies")) w := by
  rw [add_some]; simp [go_sem, viewAt, World.shape?, h, getObj, Sem.run, Result.andThen]
theorem run_add_ok (w : World) (ts : Array TypeId) (t : TypeId) (a : Addr) (o : Obj) (h : w.heap[a.block]? = some o) (hv : ∀ p u, o ≠ .view p u) : (Builtin.unsafeAdd_ ts t #[.pointer (some a), .int .i64 0]).run Tw w = .ok (.pointer (some a)) w := by
  rw [add_some]
  cases o <;> first | (exact absurd rfl (hv _ _)) | simp [go_sem, viewAt, World.shape?, h, getObj, Sem.run, Result.andThen]

set_option maxRecDepth 100000 in
set_option maxHeartbeats 4000000 in
/-- To the second operation of the look at the cells. -/
theorem look (Q : Goroutine → World → Prop) (b : Option Addr) (n cap : Nat) (h0 : 0 < n) (hn : n ≤ 1000) (hc : n ≤ cap) (C : List Frame) (w : World)
    (h : LoneTo Tw Q (G ((base 16).at ⟨#[.slice b n cap, undef, undef, undef, undef, undef, undef, undef, undef, undef, undef, undef, undef, .int .i64 n, .bool true, .bool true, .pointer b, undef, undef, undef, undef, undef, undef, undef, .int .i64 cap, .bool true], []⟩
      [.inRegion lookB [1, 2, 3, 4, 5, 6], .code ((Code.region 3 makeAll false).seq ((Code.block 0 fillLoop.loop).seq ((Code.region 6 shutOps false).seq Code.ret)))]) C) w) :
    LoneTo Tw Q (G (Frame.enter Tw 16 #[.slice b n cap] .normal) C) w := by
  rw [enter16]
  have hn1 : (n : Int) ≤ 1000 := by omega
  have hc1 : (n : Int) ≤ cap := by omega
  have h01 : (0 : Int) < n := by omega
  have hz : ¬ cap = 0 := by omega
  refine LoneTo.goes (n := 60) ?_
  simp only [feedBody]
  s_c stepG_seq
  s_reg
  s_op
  s_op
  s_op
  s_op
  s_op
  s_c stepG_region_end
  s_c stepG_seq
  s_cond true
  s_c stepG_skip
  s_c stepG_seq
  s_cond true
  s_c stepG_skip
  s_c stepG_seq
  s_cond true
  s_reg
  have hd : ∀ w, (Builtin.unsafeSliceData_ #[22] 0 #[.slice b n cap]).run Tw w = .ok (.pointer b) w := by
    intro w
    cases b with
    | none => rfl
    | some a =>
      show Sem.run Tw (if cap ≠ 0 then pure (Value.pointer (some a)) else _) w = _
      rw [if_pos hz]; rfl
  s_op
  s_stop
  exact h
end FeedRun
end Go.Proofs.Ytminoelijdpmeaa
