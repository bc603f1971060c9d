/- What the walks know of the twin: its tables are the program's own; its functions, but for Feed, too. -/
import Derived.Test.YtminoelijdpmeaaLj
import Derived.WalkKit
namespace Go.Proofs.Ytminoelijdpmeaa
open Go.Conc Lift

@[simp] theorem tw_tables : Tw.toTables = Try.prog.toTables := rfl
@[simp] theorem tw_underlying (t : TypeId) : Tw.underlying t = Try.prog.underlying t := rfl
@[simp] theorem tw_depth : Tw.depth = Try.prog.depth := rfl
@[simp] theorem tw_cellsOf (t : TypeId) : Tw.cellsOf t = Try.prog.cellsOf t := rfl
@[simp] theorem tw_bytesOf (t : TypeId) : Tw.bytesOf t = Try.prog.bytesOf t := rfl
@[simp] theorem tw_follows (d : Departure) : Tw.follows d = Try.prog.follows d := rfl
theorem tw_run {α : Type} {s : Sem α} (h : Tame Try.prog (twin Try.prog 16 feed) (fun _ => True) s) (w : World) : s.run Tw w = s.run Try.prog w := by
  obtain ⟨k, x⟩ := tame_local s h w #[]
  have := x.twin
  rw [tw_eq] at this
  rw [← Sem.runT_fst Tw s w #[], ← Sem.runT_fst Try.prog s w #[], this]
@[simp] theorem tw_typeInfo (t : TypeId) (w : World) : Sem.run Tw (typeInfo t) w = Sem.run Try.prog (typeInfo t) w := tw_run (tame_typeInfo t) w
@[simp] theorem tw_sizeOf (t : TypeId) (w : World) : Sem.run Tw (sizeOf t) w = Sem.run Try.prog (sizeOf t) w := tw_run (tame_sizeOf t) w
@[simp] theorem tw_runUnderlying (t : TypeId) (w : World) : Sem.run Tw (underlying t) w = Sem.run Try.prog (underlying t) w := tw_run (tame_underlying t) w
@[simp] theorem tw_isAgg (t : TypeId) (w : World) : Sem.run Tw (isAgg t) w = Sem.run Try.prog (isAgg t) w := tw_run (tame_isAgg t) w
@[simp] theorem tw_zeroValue (t : TypeId) (w : World) : Sem.run Tw (zeroValue t) w = Sem.run Try.prog (zeroValue t) w := tw_run (tame_zeroValue t) w
@[simp] theorem Tw.func0 : Tw.funcs[0]? = some Try.f0 := rfl
@[simp] theorem Tw.func1 : Tw.funcs[1]? = some Try.f1 := rfl
@[simp] theorem Tw.func2 : Tw.funcs[2]? = some Try.f2 := rfl
@[simp] theorem Tw.func3 : Tw.funcs[3]? = some Try.f3 := rfl
@[simp] theorem Tw.func4 : Tw.funcs[4]? = some Try.f4 := rfl
@[simp] theorem Tw.func5 : Tw.funcs[5]? = some Try.f5 := rfl
@[simp] theorem Tw.func6 : Tw.funcs[6]? = some Try.f6 := rfl
@[simp] theorem Tw.func7 : Tw.funcs[7]? = some Try.f7 := rfl
@[simp] theorem Tw.func8 : Tw.funcs[8]? = some Try.f8 := rfl
@[simp] theorem Tw.func9 : Tw.funcs[9]? = some Try.f9 := rfl
@[simp] theorem Tw.func10 : Tw.funcs[10]? = some Try.f10 := rfl
@[simp] theorem Tw.func11 : Tw.funcs[11]? = some Try.f11 := rfl
@[simp] theorem Tw.func12 : Tw.funcs[12]? = some Try.f12 := rfl
@[simp] theorem Tw.func13 : Tw.funcs[13]? = some Try.f13 := rfl
@[simp] theorem Tw.func14 : Tw.funcs[14]? = some Try.f14 := rfl
@[simp] theorem Tw.func15 : Tw.funcs[15]? = some Try.f15 := rfl
@[simp] theorem Tw.func16 : Tw.funcs[16]? = some feed := rfl
@[simp] theorem Tw.func17 : Tw.funcs[17]? = some Try.f17 := rfl
@[simp] theorem Tw.func18 : Tw.funcs[18]? = some Try.f18 := rfl
@[simp] theorem Tw.func19 : Tw.funcs[19]? = some Try.f19 := rfl
@[simp] theorem Tw.func20 : Tw.funcs[20]? = some Try.f20 := rfl
@[simp] theorem Tw.func21 : Tw.funcs[21]? = some Try.f21 := rfl
@[simp] theorem Tw.func22 : Tw.funcs[22]? = some Try.f22 := rfl
@[simp] theorem Tw.func23 : Tw.funcs[23]? = some Try.f23 := rfl
@[simp] theorem Tw.func24 : Tw.funcs[24]? = some Try.f24 := rfl
@[simp] theorem Tw.func25 : Tw.funcs[25]? = some Try.f25 := rfl
@[simp] theorem Tw.func26 : Tw.funcs[26]? = some Try.f26 := rfl
@[simp] theorem Tw.func27 : Tw.funcs[27]? = some Try.f27 := rfl
@[simp] theorem Tw.func28 : Tw.funcs[28]? = some Try.f28 := rfl
@[simp] theorem Tw.func29 : Tw.funcs[29]? = some Try.f29 := rfl
@[simp] theorem Tw.func30 : Tw.funcs[30]? = some Try.f30 := rfl
@[simp] theorem Tw.func31 : Tw.funcs[31]? = some Try.f31 := rfl
@[simp] theorem Tw.func32 : Tw.funcs[32]? = some Try.f32 := rfl
@[simp] theorem Tw.func33 : Tw.funcs[33]? = some Try.f33 := rfl
@[simp] theorem Tw.func34 : Tw.funcs[34]? = some Try.f34 := rfl
@[simp] theorem Tw.func35 : Tw.funcs[35]? = some Try.f35 := rfl
@[simp] theorem Tw.call3 (args : Array Value) (w : World) : Sem.run Tw (callFunc 3 args) w = .ok (.enter 3 args) w := rfl
@[simp] theorem Tw.call4 (args : Array Value) (w : World) : Sem.run Tw (callFunc 4 args) w = .ok (.enter 4 args) w := rfl
@[simp] theorem Tw.call5 (args : Array Value) (w : World) : Sem.run Tw (callFunc 5 args) w = .ok (.enter 5 args) w := rfl
@[simp] theorem Tw.call6 (args : Array Value) (w : World) : Sem.run Tw (callFunc 6 args) w = .ok (.enter 6 args) w := rfl
@[simp] theorem Tw.call7 (args : Array Value) (w : World) : Sem.run Tw (callFunc 7 args) w = .ok (.enter 7 args) w := rfl
@[simp] theorem Tw.call8 (args : Array Value) (w : World) : Sem.run Tw (callFunc 8 args) w = .ok (.enter 8 args) w := rfl
@[simp] theorem Tw.call9 (args : Array Value) (w : World) : Sem.run Tw (callFunc 9 args) w = .ok (.enter 9 args) w := rfl
@[simp] theorem Tw.call10 (args : Array Value) (w : World) : Sem.run Tw (callFunc 10 args) w = .ok (.enter 10 args) w := rfl
@[simp] theorem Tw.call11 (args : Array Value) (w : World) : Sem.run Tw (callFunc 11 args) w = .ok (.enter 11 args) w := rfl
@[simp] theorem Tw.call12 (args : Array Value) (w : World) : Sem.run Tw (callFunc 12 args) w = .ok (.enter 12 args) w := rfl
@[simp] theorem Tw.call13 (args : Array Value) (w : World) : Sem.run Tw (callFunc 13 args) w = .ok (.enter 13 args) w := rfl
@[simp] theorem Tw.call14 (args : Array Value) (w : World) : Sem.run Tw (callFunc 14 args) w = .ok (.enter 14 args) w := rfl
@[simp] theorem Tw.call15 (args : Array Value) (w : World) : Sem.run Tw (callFunc 15 args) w = .ok (.enter 15 args) w := rfl
@[simp] theorem Tw.call16 (args : Array Value) (w : World) : Sem.run Tw (callFunc 16 args) w = .ok (.enter 16 args) w := rfl
@[simp] theorem Tw.call17 (args : Array Value) (w : World) : Sem.run Tw (callFunc 17 args) w = .ok (.enter 17 args) w := rfl
@[simp] theorem Tw.call18 (args : Array Value) (w : World) : Sem.run Tw (callFunc 18 args) w = .ok (.enter 18 args) w := rfl
@[simp] theorem Tw.call19 (args : Array Value) (w : World) : Sem.run Tw (callFunc 19 args) w = .ok (.enter 19 args) w := rfl
end Go.Proofs.Ytminoelijdpmeaa
