/- Feed beside leavers: the walks of goroutine 0 and of the goroutine that fills the channel. -/
import Derived.Test.YtminoelijdpmeaaLj
import Derived.Conc.TokenWords
import Derived.Conc.TokenAlone
import Derived.KernelRfl
import Derived.Laws.Rows
import Derived.Laws.NewBlocks
import Derived.Laws.Alloc2
set_option linter.unusedSimpArgs false
namespace Go.Proofs.Ytminoelijdpmeaa
open Go.Conc Go.RowKit Lift
open Go.ConcN (upd upd_same upd_ne)

namespace FeedRun
abbrev xv (N : Nat) : Addr := ⟨N, 0, none⟩
abbrev cv (N : Nat) : Addr := ⟨N + 2, 0, none⟩
abbrev dv (N : Nat) : Addr := ⟨N + 4, 0, none⟩
/-- What whoever has given the token away leans on: the three variables, and all that is elder. -/
structure KF (W : World) (N : Nat) (x : Value) (w : World) : Prop where
  x : w.cell? (xv N) = some x
  c : w.cell? (cv N) = some (.chan (some (N + 1)))
  d : w.cell? (dv N) = some (.chan (some (N + 3)))
  old : ∀ a : Addr, a.block < N → w.cell? a = W.cell? a
def StillF (N : Nat) : Loc → Prop := fun l => l = .cell (dv N)
theorem KF.at {W : World} {N : Nat} {x : Value} {w : World} (h : KF W N x w) (d : Nat) : KF W N x (w.at d) := ⟨h.x, h.c, h.d, h.old⟩
theorem cell_setChan (w : World) (c cap : Nat) (buf : Array Value) (cl : Bool) (a b : Nat) (tm : Bool) (p : Addr) (h : c ≠ p.block) : (w.setChan c cap buf cl a b tm).cell? p = w.cell? p := by
  unfold World.cell? World.setChan
  simp only [Array.getElem?_setIfInBounds_ne h]
theorem KF.setChan {W : World} {N : Nat} {x : Value} {w : World} (h : KF W N x w) {c : Nat} (hc : c = N + 1 ∨ c = N + 3) (cap : Nat) (buf : Array Value) (cl : Bool) (a b : Nat) (tm : Bool) : KF W N x (w.setChan c cap buf cl a b tm) := by
  refine ⟨?_, ?_, ?_, fun p hp => ?_⟩
  · rw [cell_setChan _ _ _ _ _ _ _ _ _ (by show c ≠ N; omega)]; exact h.x
  · rw [cell_setChan _ _ _ _ _ _ _ _ _ (by show c ≠ N + 2; omega)]; exact h.c
  · rw [cell_setChan _ _ _ _ _ _ _ _ _ (by show c ≠ N + 4; omega)]; exact h.d
  · rw [cell_setChan _ _ _ _ _ _ _ _ _ (by omega)]; exact h.old p hp

/-- The world with Feed's memory: the argument's variable, the channel, its variable, the other channel, its variable. -/
def wX (W : World) (x : Value) (c e : Obj) : World :=
  ((((W.alloc (.cells #[x] 22)).alloc c).alloc (.cells #[.chan (some (W.heap.size + 1))] 45)).alloc e).alloc (.cells #[.chan (some (W.heap.size + 1 + 1 + 1))] 46)

noncomputable def bot : Frame := { (default : Frame) with fn := Try.prog.funcs.size, defers := [], mode := .panicking [goexitEntry] }
noncomputable def body16 : Code := Try.f16.body.getD .skip
noncomputable def body19 : Code := Try.f19.body.getD .skip
def b19 : Frame := baseD 19
def call19 (N : Nat) : Deferred := { target := .fn (.func 19) #[.pointer (some (xv N)), .pointer (some (cv N)), .pointer (some (dv N))], args := #[] }
theorem loud19 : (Try.prog.funcs[b19.fn]?).any (·.norace) = false := by kernel_rfl
theorem loud16 : (Try.prog.funcs[(base 16).fn]?).any (·.norace) = false := by kernel_rfl

theorem bytes41 : ∃ i, Try.prog.info? 41 = some i ∧ i.bytes = 8 := by
  have h : (Try.prog.info? 41).map (·.bytes) = some 8 := by kernel_rfl
  obtain ⟨i, hi, hb⟩ := Option.map_eq_some_iff.1 h
  exact ⟨i, hi, hb⟩
theorem bytes47 : ∃ i, Try.prog.info? 47 = some i ∧ i.bytes = 0 := by
  have h : (Try.prog.info? 47).map (·.bytes) = some 0 := by kernel_rfl
  obtain ⟨i, hi, hb⟩ := Option.map_eq_some_iff.1 h
  exact ⟨i, hi, hb⟩
theorem mkc (w : World) (n : Nat) (hn : n ≤ 1000) : (Instr.makeChan 45 (.int .i64 n)).run Try.prog w = .ok (.chan (some w.heap.size)) (w.alloc (.chan n #[] false 0 0 false)) := by
  obtain ⟨i, hi, hb⟩ := bytes41
  simpa using run_makeChan (P := Try.prog) (w := w) Try.underlying45 hi .i64 n (by omega) (by rw [hb]; omega)
theorem mkce (w : World) (n : Nat) (hn : n ≤ 1000) (es : Array Event) : (Instr.makeChan 45 (.int .i64 n)).events Try.prog w es = es := by
  obtain ⟨i, hi, hb⟩ := bytes41
  simpa using events_makeChan (P := Try.prog) (w := w) Try.underlying45 hi .i64 n (by omega) (by rw [hb]; omega) es
theorem mkd (w : World) : (Instr.makeChan 46 (.int .i64 0)).run Try.prog w = .ok (.chan (some w.heap.size)) (w.alloc (.chan 0 #[] false 0 0 false)) := by
  obtain ⟨i, hi, hb⟩ := bytes47
  simpa using run_makeChan (P := Try.prog) (w := w) Try.underlying46 hi .i64 0 (by omega) (by rw [hb]; omega)
theorem mkde (w : World) (es : Array Event) : (Instr.makeChan 46 (.int .i64 0)).events Try.prog w es = es := by
  obtain ⟨i, hi, hb⟩ := bytes47
  simpa using events_makeChan (P := Try.prog) (w := w) Try.underlying46 hi .i64 0 (by omega) (by rw [hb]; omega) es

/-- Goroutine 0's seat: 'done'; served, it returns the channel. -/
noncomputable def seat0 (W : World) (N : Nat) (x : Value) (c : Frame) (C : List Frame) : Seat := Seat.one (N + 3) (.agg #[]) false (fun g => ∀ w, KF W N x w →
  Goes Try.prog true AtRel (DQ (StillF N) (N + 5)) (fun g' w' => g' = G (c.finish (.chan (some (N + 1)))) C ∧ ∃ d, w' = w.at d) 12 (Go.Conc.served g (recvd false (.agg #[]) false)) w)
/-- At the go statement. -/
def Stop0 (W : World) (N n : Nat) (x : Value) (c : Frame) (C : List Frame) (g : Goroutine) (w : World) : Prop :=
  (∃ d, w = (wX W x (.chan n #[] false 0 0 false) (.chan 0 #[] false 0 0 false)).at d) ∧ AtHire Try.prog true (StillF N) (N + 5) (fun c => c = born Try.prog (call19 N)) (fun g => Sits Try.prog true (KF W N x) (StillF N) (N + 5) (seat0 W N x c C) 6 g) g w

set_option maxRecDepth 100000 in
set_option maxHeartbeats 4000000 in
theorem g0_all (b : Option Addr) (n cap : Nat) (hn : n ≤ 1000) (W : World) (N : Nat) (hN : W.heap.size = N) (c : Frame) (C : List Frame) : Goes Try.prog true AtRel (DFirst (N + 5)) (Stop0 W N n (.slice b n cap) c C) 24
    (G ((base 16).at ⟨#[.slice b n cap, undef, undef, undef, undef, undef, undef, undef, undef, undef, undef, undef, undef], []⟩ [.code body16]) (c :: C)) W := by
  have hmc := fun w => mkc w n hn
  have hme := fun w => mkce w n hn
  have hmc1 := mkd
  have hme1 := mkde
  simp only [body16, Try.f16, Option.getD_some]
  i_c stepG_seq
  i_reg
  i_op
  i_op
  i_c stepG_region_end
  i_c stepG_seq
  i_reg
  i_in
  refine goes_oper_k rfl rfl (by decide) (fun K hK' => ?_)
  go_simp
  refine hK' _ _ ⟨⟨fun _ => trivial, fun _ _ _ e => (by cases e), fun e he => ?_⟩, ?_⟩
  · have hm := mem_listed he
    simp [go_sem, storedEv, *] at hm
    subst hm; exact evHd_read _ (by simp <;> omega)
  clear hK' K
  i_op
  i_op
  i_op
  i_op
  i_c stepG_region_end
  i_c stepG_seq
  i_reg
  i_op
  i_op
  i_op
  i_c stepG_region_end
  i_c stepG_seq
  i_reg
  i_mf
  try walk_nrm
  clear hmc hme hmc1 hme1
  refine Goes.stop fun w₁ h₁ => ?_
  obtain ⟨d₁, rfl⟩ := h₁
  refine ⟨⟨d₁, by subst hN; rfl⟩, ?_⟩
  try simp only [hN]
  refine atHire_of (d := call19 N) rfl rfl (by decide) (fun w => by simp [go_sem, execOp, Act.eval, call19, xv, cv, dv]) rfl (fun w => by simp [go_sem, execOp, Act.eval]) (by rfl) ?_ _
  walk_nrm
  -- TO THE SEAT
  refine .inl ⟨5, W, rfl, ?_⟩
  k_c stepG_region_end
  k_c stepG_seq
  k_reg
  k_ld [KF.x h₁, KF.c h₁, KF.d h₁] rfl
  refine Goes.stop fun _ _ => ⟨_, atIn_of (s := seat0 W N (.slice b n cap) c C) rfl rfl (by decide) (fun w => by simp [go_sem, execOp, rcase, Act.eval, seat0, Seat.one]) (fun w => by simp [go_sem, execOp, Act.eval]) ?_⟩
  intro w hK
  rw [served_fr, Frame.finish_at]
  simp only [recvd, if_true, if_false, Bool.false_eq_true, ↓reduceIte]
  walk_nrm
  q_c stepG_region_end
  q_c stepG_seq
  q_reg
  q_ld [(KF.at hK dd).x, (KF.at hK dd).c, (KF.at hK dd).d]
  q_op
  q_c stepG_region_end
  q_c stepG_ret'
  q_in
  have hl : ∀ (T : Array Value) (v : Value) (w : World), T[2]? = some v → stepG Try.prog true (G { (base 16).at ⟨T, []⟩ [.code .ret] with mode := .returning } (c :: C)) w = .go (G (c.finish v) C) w #[] := by
    intro T v w hv
    simp [G, stepG, unwind, doReturn, results, Frame.at, base, Try.func16, Try.f16, seen, GStep.after, hv]
  rw [hl _ (.chan (some (N + 1))) _ rfl]
  simp only [goes_go]
  refine ⟨dq_none _, Goes.stop fun w₂ r₂ => ?_⟩
  obtain ⟨d₂, rfl⟩ := r₂
  exact ⟨rfl, _, rfl⟩
end FeedRun
end Go.Proofs.Ytminoelijdpmeaa
