/- The twin of the program: Feed fills its channel by itself, behind a look at its argument; and that the lift may be used. -/
import Derived.Test.YtminoelijdpmeaaLi
import Derived.Test.YtminoelijdpmeaaProg
import Derived.KernelRfl
namespace Go.Proofs.Ytminoelijdpmeaa
open Go.Conc Lift
set_option linter.unusedSimpArgs false

/-- An operation of Feed's twin. -/
abbrev op1 (d : Option Tmp) (o : Op) (t : TypeId) : Oper := { dst := d, op := o, type := t, pos := "", after := #[], guard := none }
abbrev i64 (n : Int) : Operand := .const (.int .i64 n)

/-- The look: the length, and that it is small, and no more than the capacity. -/
abbrev lookA : Array Oper := #[
  op1 (some 13) (.call { callee := .builtin .len, args := #[.tmp 0], argTypes := #[22] }) 3,
  op1 (some 14) (.binOp .leq 3 (.tmp 13) (i64 1000) 3) 4,
  op1 (some 24) (.call { callee := .builtin .cap, args := #[.tmp 0], argTypes := #[22] }) 3,
  op1 (some 25) (.binOp .leq 3 (.tmp 13) (.tmp 24) 3) 4,
  op1 (some 15) (.binOp .lss 3 (i64 0) (.tmp 13) 3) 4]
/-- The look: the first and the last cell are there. -/
abbrev lookB : Array Oper := #[
  op1 (some 16) (.call { callee := .builtin .unsafeSliceData, args := #[.tmp 0], argTypes := #[22] }) 0,
  op1 (some 17) (.call { callee := .builtin .unsafeAdd, args := #[.tmp 16, i64 0], argTypes := #[0, 3] }) 0,
  op1 (some 18) (.indexAddr 22 (.tmp 0) (i64 0)) 0,
  op1 (some 19) (.load 41 (.tmp 18)) 41,
  op1 (some 20) (.binOp .sub 3 (.tmp 13) (i64 1) 3) 3,
  op1 (some 21) (.indexAddr 22 (.tmp 0) (.tmp 20)) 0,
  op1 (some 22) (.load 41 (.tmp 21)) 41]
/-- The memory that Feed makes. -/
abbrev makeAll : Array Oper := #[
  op1 (some 1) (.box 22 (.tmp 0)) 0,
  op1 (some 7) (.makeChan 45 (.tmp 13)) 45,
  op1 (some 3) (.alloc 45) 0,
  op1 none (.store 45 (.tmp 3) (.tmp 7)) 0,
  op1 (some 8) (.makeChan 46 (i64 0)) 46,
  op1 (some 4) (.alloc 46) 0,
  op1 none (.store 46 (.tmp 4) (.tmp 8)) 0,
  op1 (some 9) (.move (i64 0)) 3]
abbrev testOps : Array Oper := #[op1 (some 10) (.binOp .lss 3 (.tmp 9) (.tmp 13) 3) 4]
abbrev sendOps : Array Oper := #[
  op1 (some 11) (.indexAddr 22 (.tmp 0) (.tmp 9)) 0,
  op1 (some 12) (.load 41 (.tmp 11)) 41,
  op1 none (.send (.tmp 7) (.tmp 12)) 0,
  op1 (some 23) (.binOp .add 3 (.tmp 9) (i64 1) 3) 3,
  op1 (some 9) (.move (.tmp 23)) 3]
abbrev shutOps : Array Oper := #[
  op1 none (.call { callee := .builtin .close, args := #[.tmp 7], argTypes := #[45] }) 0,
  op1 none (.call { callee := .builtin .close, args := #[.tmp 8], argTypes := #[46] }) 0,
  op1 (some 2) (.assign (.tmp 7)) 38]
abbrev fillLoop : Code := .seq (.region 4 testOps false) (.seq (.cond (.tmp 10) .skip (.exit 0)) (.region 5 sendOps false))
abbrev feedBody : Code :=
  .seq (.region 0 lookA false) (.seq (.cond (.tmp 14) .skip (.exit 99)) (.seq (.cond (.tmp 25) .skip (.exit 99)) (.seq (.cond (.tmp 15) (.region 2 lookB false) .skip)
    (.seq (.region 3 makeAll false) (.seq (.block 0 (.loop fillLoop)) (.seq (.region 6 shutOps false) .ret))))))
abbrev feed : Func := { name := "feed", origin := "", params := #[22], resultTypes := #[38], nfree := 0, ntmps := 26, results := #[.tmp 2], body := some feedBody, norace := false, tmpNames := #[] }

noncomputable def Tw : Program := ⟨Try.progTables, #[Try.f0, Try.f1, Try.f2, Try.f3, Try.f4, Try.f5, Try.f6, Try.f7, Try.f8, Try.f9, Try.f10, Try.f11, Try.f12, Try.f13, Try.f14, Try.f15, feed, Try.f17, Try.f18, Try.f19, Try.f20, Try.f21, Try.f22, Try.f23, Try.f24, Try.f25, Try.f26, Try.f27, Try.f28, Try.f29, Try.f30, Try.f31, Try.f32, Try.f33, Try.f34, Try.f35]⟩
theorem tw_eq : twin Try.prog 16 feed = Tw := by kernel_rfl

def inS (f : Nat) : Bool := decide (3 ≤ f) && decide (f ≤ 18)
theorem inS_cases {f : Nat} (h : inS f = true) : f = 3 ∨ f = 4 ∨ f = 5 ∨ f = 6 ∨ f = 7 ∨ f = 8 ∨ f = 9 ∨ f = 10 ∨ f = 11 ∨ f = 12 ∨ f = 13 ∨ f = 14 ∨ f = 15 ∨ f = 16 ∨ f = 17 ∨ f = 18 := by
  simp only [inS, Bool.and_eq_true, decide_eq_true_eq] at h
  omega
theorem tw_still (g : Nat) : Tw.stepOf g = none := by
  have h : Tw.funcs.toList.all (fun f => ((f.body.map readies).getD []).isEmpty) = true := by kernel_rfl
  unfold Program.stepOf
  rw [Array.findIdx?_eq_none_iff]
  intro f hf
  rw [List.all_eq_true] at h
  have := h f (Array.mem_toList_iff.2 hf)
  cases hb : f.body.map readies with
  | none => rfl
  | some l =>
    rw [hb] at this
    simp only [Option.getD_some, List.isEmpty_iff] at this
    subst this
    rfl
theorem walkable : Walkable Try.prog 16 feed inS where
  own := by
    intro f hf
    rcases inS_cases hf with rfl | rfl | rfl | rfl | rfl | rfl | rfl | rfl | rfl | rfl | rfl | rfl | rfl | rfl | rfl | rfl <;> exact ⟨_, rfl, by kernel_rfl, by kernel_rfl⟩
  other := ⟨rfl, by kernel_rfl⟩
  body := by
    intro f hf hF
    rcases inS_cases hf with rfl | rfl | rfl | rfl | rfl | rfl | rfl | rfl | rfl | rfl | rfl | rfl | rfl | rfl | rfl | rfl <;> first | exact absurd rfl hF | exact ⟨_, _, rfl, rfl, by kernel_rfl⟩
  ahead := by kernel_rfl
  still := by rw [tw_eq]; exact tw_still
end Go.Proofs.Ytminoelijdpmeaa
