/- Feed beside leavers: the walks of the goroutine that fills the channel. -/
import Derived.Test.YtminoelijdpmeaaLk
import Derived.Laws.Runes
set_option linter.unusedSimpArgs false
namespace Go.Proofs.Ytminoelijdpmeaa
open Go.Conc Go.RowKit Lift
open Go.ConcN (upd upd_same upd_ne)

namespace FeedRun
noncomputable def LB19 : Code := match Try.f19.body with | some (.seq (.seq _ (.block _ (.loop c))) _) => c | _ => .skip
noncomputable def R5 : Code := match Try.f19.body with | some (.seq _ r) => r | _ => .skip
/-- The worker at its loop's head. -/
noncomputable def HW (N : Nat) (x : Value) (n k : Nat) (j4 j8 j9 j10 j11 j12 j13 : Value) : Goroutine :=
  G (b19.at ⟨#[.pointer (some (xv N)), .pointer (some (cv N)), .pointer (some (dv N)), undef, j4, x, .int .i64 n, .int .i64 k, j8, j9, j10, j11, j12, j13, undef, undef], []⟩ [.code LB19, .inLoop LB19, .inBlock 0, .code R5]) [bot]
def AtHead (N : Nat) (x : Value) (n k : Nat) (w : World) (g : Goroutine) (w' : World) : Prop :=
  (∃ d, w' = w.at d) ∧ ∃ j4 j8 j9 j10 j11 j12 j13, g = HW N x n k j4 j8 j9 j10 j11 j12 j13

theorem born_step (N : Nat) (w : World) : stepG Try.prog false (born Try.prog (call19 N)) w =
    .go (G (b19.at ⟨#[.pointer (some (xv N)), .pointer (some (cv N)), .pointer (some (dv N)), undef, undef, undef, undef, undef, undef, undef, undef, undef, undef, undef, undef, undef], []⟩ [.code body19]) [bot]) w #[] := by
  simp [born, call19, stepG, unwind, callDeferred, invoke, callFunc, Try.func19, Try.f19, seen, GStep.after, G, Frame.enter, Frame.at, b19, baseD, bot, body19]

set_option maxRecDepth 100000 in
set_option maxHeartbeats 4000000 in
theorem w_birth (W : World) (N : Nat) (b : Option Addr) (n cap : Nat) (w : World) (hK : KF W N (.slice b n cap) w) :
    Goes Try.prog false AtRel (DQ (StillF N) (N + 5)) (AtHead N (.slice b n cap) n 0 w) 16 (born Try.prog (call19 N)) w := by
  q_in
  rw [born_step]
  refine ⟨dq_none _, ?_⟩
  simp only [body19, Try.f19, Option.getD_some, xv, cv, dv]
  q_c stepG_seq
  q_c stepG_seq
  q_reg
  q_ld [(KF.at hK dd).x, (KF.at hK dd).c, (KF.at hK dd).d]
  q_op
  q_op
  q_c stepG_region_end
  q_c stepG_block
  q_c stepG_loop
  refine Goes.stop fun w₂ r₂ => ?_
  obtain ⟨d₂, rfl⟩ := r₂
  exact ⟨⟨_, rfl⟩, _, _, _, _, _, _, _, rfl⟩

theorem addr_add_block (a : Addr) (k : Nat) : (a.add k).block = a.block := by unfold Addr.add; split <;> rfl

def HomeSend (N : Nat) (x : Value) (n k : Nat) (g₂ : Goroutine) : Prop := ∀ w, 
  Goes Try.prog false AtRel (DQ (StillF N) (N + 5)) (AtHead N x n (k + 1) w) 16 (Go.Conc.served g₂ undef) w

set_option maxRecDepth 100000 in
set_option maxHeartbeats 4000000 in
theorem w_round (W : World) (N : Nat) (a : Addr) (n cap k : Nat) (hn : n ≤ 1000) (h : k < n) (ha : a.block < N) (v : Value) (hv : W.cell? (a.add k) = some v) (j4 j8 j9 j10 j11 j12 j13 : Value) (w : World) (hK : KF W N (.slice (some a) n cap) w) :
    Goes Try.prog false AtRel (DQ (StillF N) (N + 5)) (fun g w' => (∃ d, w' = w.at d) ∧ AtAlone Try.prog false (StillF N) (N + 5) #[scase (N + 1) v (.tuple #[])] true .send (HomeSend N (.slice (some a) n cap) n k) g w') 40 (HW N (.slice (some a) n cap) n k j4 j8 j9 j10 j11 j12 j13) w := by
  have hi : (k : Int) < (n : Int) := by omega
  unfold HW
  simp only [LB19, R5, Try.f19, xv, cv, dv]
  q_c stepG_seq
  q_reg
  q_op
  q_c stepG_region_end
  q_c stepG_seq
  q_cond true
  q_c stepG_skip
  q_c stepG_seq
  q_c stepG_block
  q_c stepG_seq
  q_reg
  q_in
  refine goes_oper_k rfl rfl (by decide) (fun K hK' => ?_)
  go_simp
  refine hK' _ _ ⟨⟨rfl, fun e he => ?_⟩, ?_⟩
  · have hm := mem_listed he
    simp [go_sem, *] at hm
  clear hK' K
  q_in
  refine goes_oper_k rfl rfl (by decide) (fun K hK' => ?_)
  have hcell : (w.at dd).cell? (a.add k) = some v := ((KF.at hK dd).old _ (by rw [addr_add_block]; exact ha)).trans hv
  go_simp
  refine hK' _ _ ⟨⟨rfl, fun e he => ?_⟩, ?_⟩
  · have hm := mem_listed he
    simp [go_sem, *] at hm
    subst hm
    exact evHd_read _ (by rw [addr_add_block]; omega)
  clear hK' K
  q_op
  q_c stepG_region_end
  q_reg
  q_ld [(KF.at hK dd).x, (KF.at hK dd).c, (KF.at hK dd).d]
  q_op
  refine Goes.stop fun w₁ h₁ => ?_
  obtain ⟨d₁, rfl⟩ := h₁
  refine ⟨⟨d₁, rfl⟩, atAlone_of rfl rfl (by decide) (fun w => by simp [execOp, scase, Act.eval]) (fun w => by simp [go_sem, execOp, Act.eval]) ?_ _⟩
  intro w
  rw [served_fr, Frame.finish_at]
  walk_nrm
  q_c stepG_region_end
  q_c stepG_inBlock
  q_reg
  q_op
  q_op
  q_c stepG_region_end
  q_c stepG_inLoop
  refine Goes.stop fun w₂ r₂ => ?_
  obtain ⟨d₂, rfl⟩ := r₂
  have hw : IntKind.wrap .i64 ((k : Int) + 1) = ((k + 1 : Nat) : Int) := by rw [wrap_small _ (by omega) (by omega)]; omega
  rw [hw]
  exact ⟨⟨_, rfl⟩, _, _, _, _, _, _, _, rfl⟩

/-- The literal's own way out: it only leaves. -/
theorem quitsTail (T : Array Value) : QuitsD Try.prog 2 0 (G { b19.at ⟨T, []⟩ [] with mode := .returning } [bot]) := by
  refine QuitsD.ctl (g' := G bot []) rfl (fun w => ?_) ?_
  · simp [G, stepG, unwind, doReturn, results, Frame.at, b19, baseD, bot, Try.func19, Try.f19, seen, GStep.after, goexitEntry]
  refine QuitsD.ctl (g' := { G bot [] with status := .finished }) rfl (fun w => ?_) ⟨rfl, rfl⟩
  simp [G, stepG, unwind, bot, goexitEntry, Frame.catches]
  rfl

/-- Behind 'close(c)': to 'close(done)'; behind that it only leaves. -/
def AfterShut (W : World) (N : Nat) (x : Value) (g : Goroutine) : Prop := ∀ w, KF W N x w →
  Goes Try.prog false AtRel (DQ (StillF N) (N + 5)) (fun g w' => (∃ d, w' = w.at d) ∧ AtShut Try.prog false (N + 3) (fun g => QuitsD Try.prog 4 0 g) g w') 16 g w

set_option maxRecDepth 100000 in
set_option maxHeartbeats 4000000 in
theorem w_exit (W : World) (N : Nat) (x : Value) (n : Nat) (j4 j8 j9 j10 j11 j12 j13 : Value) (w : World) (hK : KF W N x w) :
    Goes Try.prog false AtRel (DQ (StillF N) (N + 5)) (fun g w' => (∃ d, w' = w.at d) ∧ AtShutAny Try.prog false (N + 1) (AfterShut W N x) g w') 40 (HW N x n n j4 j8 j9 j10 j11 j12 j13) w := by
  unfold HW
  simp only [LB19, R5, Try.f19, xv, cv, dv]
  q_c stepG_seq
  q_reg
  q_op
  q_c stepG_region_end
  q_c stepG_seq
  q_cond false
  q_exit
  q_c stepG_seq
  q_reg
  q_ld [(KF.at hK dd).x, (KF.at hK dd).c, (KF.at hK dd).d]
  refine Goes.stop fun w₁ h₁ => ?_
  obtain ⟨d₁, rfl⟩ := h₁
  refine ⟨⟨d₁, rfl⟩, atShutAny_of rfl rfl (by decide) rfl rfl loud19 ?_ _⟩
  walk_nrm
  intro w hK
  q_c stepG_region_end
  q_reg
  q_ld [(KF.at hK dd).x, (KF.at hK dd).c, (KF.at hK dd).d]
  refine Goes.stop fun w₁ h₁ => ?_
  obtain ⟨d₁, rfl⟩ := h₁
  refine ⟨⟨d₁, rfl⟩, atShut_of rfl rfl (by decide) rfl rfl loud19 rfl ?_ _⟩
  walk_nrm
  refine QuitsD.ctl rfl (fun w => stepG_region_end) ?_
  refine QuitsD.ctl rfl (fun w => stepG_end) ?_
  exact quitsTail _
end FeedRun
end Go.Proofs.Ytminoelijdpmeaa
