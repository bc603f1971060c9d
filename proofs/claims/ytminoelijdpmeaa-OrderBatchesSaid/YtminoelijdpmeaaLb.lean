/- Which operations are tame: they ask the outside nothing, say no mark but 'noRoom', and look at nothing in the program but its tables. -/
import Derived.Test.YtminoelijdpmeaaLa
namespace Go.Proofs.Ytminoelijdpmeaa
namespace Lift
open Go.Conc
set_option linter.unusedSimpArgs false
section
variable {P : Program} {F : FuncId} {f' : Func}
theorem tame_program {β : Type} {Ok : β → Prop} {f : Program → Sem β} (h : f (twin P F f') = f P) (h2 : Tame P (twin P F f') Ok (f P)) : Tame P (twin P F f') Ok (program >>= f) := ⟨h, h2⟩
theorem tame_pure {α : Type} {Ok : α → Prop} {a : α} (h : Ok a) : Tame P (twin P F f') Ok (pure a) := h
theorem tame_load (a : Addr) : Tame P (twin P F f') Any (load a) := fun _ => trivial
theorem tame_store (a : Addr) (v : Value) : Tame P (twin P F f') Any (store a v) := trivial
theorem tame_shape (r : Nat) : Tame P (twin P F f') Any (shape r) := fun _ => trivial
theorem tame_frozen (a : Addr) : Tame P (twin P F f') Any (frozen a) := fun _ => trivial
theorem tame_getObj (r : Nat) : Tame P (twin P F f') Any (getObj r) := fun _ => trivial
theorem tame_newObj (o : Obj) : Tame P (twin P F f') Any (newObj o) := fun _ => trivial
theorem tame_choose (q : Question) : Tame P (twin P F f') Any (choose q) := fun _ => trivial
theorem tame_noRoom : Tame P (twin P F f') Any (mark .noRoom) := ⟨rfl, trivial⟩
theorem tame_ite {α : Type} {Ok : α → Prop} {c : Prop} [Decidable c] {x y : Sem α} (h1 : Tame P (twin P F f') Ok x) (h2 : Tame P (twin P F f') Ok y) : Tame P (twin P F f') Ok (if c then x else y) := by split <;> assumption
theorem tame_stuck {α : Type} {Ok : α → Prop} (s : String) : Tame P (twin P F f') Ok (stuck s : Sem α) := trivial
theorem tame_unsupported {α : Type} {Ok : α → Prop} (u : Unsupported) : Tame P (twin P F f') Ok (unsupported u : Sem α) := trivial
theorem tame_underlying (t : TypeId) : Tame P (twin P F f') Any (underlying t) := by
  refine tame_program rfl ?_
  split <;> exact trivial
theorem tame_typeInfo (t : TypeId) : Tame P (twin P F f') Any (typeInfo t) := by
  refine tame_program rfl ?_
  split <;> exact trivial
theorem tame_sizeOf (t : TypeId) : Tame P (twin P F f') Any (sizeOf t) := Tame.any (tame_typeInfo t) fun _ => trivial
theorem tame_zeroValue (t : TypeId) : Tame P (twin P F f') Any (zeroValue t) := Tame.any (tame_typeInfo t) fun _ => by split <;> exact trivial

theorem tame_isAgg (t : TypeId) : Tame P (twin P F f') Any (isAgg t) := by
  unfold isAgg
  repeat' first
    | contradiction
    | with_reducible exact tame_pure trivial
    | with_reducible exact tame_underlying _
    | with_reducible exact tame_typeInfo _
    | with_reducible exact tame_sizeOf _
    | with_reducible exact tame_zeroValue _
    | with_reducible exact tame_load _
    | with_reducible exact tame_store _ _
    | with_reducible exact tame_shape _
    | with_reducible exact tame_frozen _
    | with_reducible exact tame_getObj _
    | with_reducible exact tame_newObj _
    | with_reducible exact tame_choose _
    | with_reducible exact tame_noRoom
    | with_reducible exact tame_stuck _
    | with_reducible exact tame_unsupported _
    | ((with_reducible refine tame_program ?_ ?_); next => rfl)
    | with_reducible refine Tame.any ?_ (fun _ => ?_)
    | with_reducible refine tame_ite ?_ ?_
    | with_reducible split
    | with_reducible dsimp only
    | exact trivial

theorem tame_loadCellsFrom (a : Addr) (n : Nat) : ∀ i acc, Tame P (twin P F f') Any (loadCellsFrom a i n acc) := by
  induction n with
  | zero => intro i acc; exact trivial
  | succ n ih => intro i acc; exact Tame.any (tame_load _) fun _ => ih _ _
theorem tame_loadCells (a : Addr) (n : Nat) : Tame P (twin P F f') Any (loadCells a n) := tame_loadCellsFrom a n 0 #[]
theorem tame_storeCells (a : Addr) (vs : List Value) : ∀ i, Tame P (twin P F f') Any (storeCells a vs i) := by
  induction vs with
  | nil => intro i; exact trivial
  | cons v vs ih => intro i; exact Tame.any (tame_store _ _) fun _ => ih _

theorem tame_loadVar (t : TypeId) (a : Addr) : Tame P (twin P F f') Any (loadVar t a) := by
  unfold loadVar
  repeat' first
    | contradiction
    | with_reducible exact tame_pure trivial
    | with_reducible exact tame_underlying _
    | with_reducible exact tame_typeInfo _
    | with_reducible exact tame_sizeOf _
    | with_reducible exact tame_zeroValue _
    | with_reducible exact tame_load _
    | with_reducible exact tame_store _ _
    | with_reducible exact tame_shape _
    | with_reducible exact tame_frozen _
    | with_reducible exact tame_getObj _
    | with_reducible exact tame_newObj _
    | with_reducible exact tame_choose _
    | with_reducible exact tame_noRoom
    | with_reducible exact tame_stuck _
    | with_reducible exact tame_unsupported _
    | with_reducible exact tame_isAgg _
    | with_reducible exact tame_loadCells _ _
    | ((with_reducible refine tame_program ?_ ?_); next => rfl)
    | with_reducible refine Tame.any ?_ (fun _ => ?_)
    | with_reducible refine tame_ite ?_ ?_
    | with_reducible split
    | with_reducible dsimp only
    | exact trivial

theorem tame_storeVar (t : TypeId) (a : Addr) (v : Value) : Tame P (twin P F f') Any (storeVar t a v) := by
  unfold storeVar
  repeat' first
    | contradiction
    | with_reducible exact tame_pure trivial
    | with_reducible exact tame_underlying _
    | with_reducible exact tame_typeInfo _
    | with_reducible exact tame_sizeOf _
    | with_reducible exact tame_zeroValue _
    | with_reducible exact tame_load _
    | with_reducible exact tame_store _ _
    | with_reducible exact tame_shape _
    | with_reducible exact tame_frozen _
    | with_reducible exact tame_getObj _
    | with_reducible exact tame_newObj _
    | with_reducible exact tame_choose _
    | with_reducible exact tame_noRoom
    | with_reducible exact tame_stuck _
    | with_reducible exact tame_unsupported _
    | with_reducible exact tame_storeCells _ _ _
    | ((with_reducible refine tame_program ?_ ?_); next => rfl)
    | with_reducible refine Tame.any ?_ (fun _ => ?_)
    | with_reducible refine tame_ite ?_ ?_
    | with_reducible split
    | with_reducible dsimp only
    | exact trivial

theorem tame_newRow (t : TypeId) (c : Array Value) : Tame P (twin P F f') Any (newRow t c) := by
  unfold newRow
  repeat' first
    | contradiction
    | with_reducible exact tame_pure trivial
    | with_reducible exact tame_underlying _
    | with_reducible exact tame_typeInfo _
    | with_reducible exact tame_sizeOf _
    | with_reducible exact tame_zeroValue _
    | with_reducible exact tame_load _
    | with_reducible exact tame_store _ _
    | with_reducible exact tame_shape _
    | with_reducible exact tame_frozen _
    | with_reducible exact tame_getObj _
    | with_reducible exact tame_newObj _
    | with_reducible exact tame_choose _
    | with_reducible exact tame_noRoom
    | with_reducible exact tame_stuck _
    | with_reducible exact tame_unsupported _
    | ((with_reducible refine tame_program ?_ ?_); next => rfl)
    | with_reducible refine Tame.any ?_ (fun _ => ?_)
    | with_reducible refine tame_ite ?_ ?_
    | with_reducible split
    | with_reducible dsimp only
    | exact trivial

theorem tame_newVar (t : TypeId) (v : Value) : Tame P (twin P F f') Any (newVar t v) := by
  unfold newVar
  repeat' first
    | contradiction
    | with_reducible exact tame_pure trivial
    | with_reducible exact tame_underlying _
    | with_reducible exact tame_typeInfo _
    | with_reducible exact tame_sizeOf _
    | with_reducible exact tame_zeroValue _
    | with_reducible exact tame_load _
    | with_reducible exact tame_store _ _
    | with_reducible exact tame_shape _
    | with_reducible exact tame_frozen _
    | with_reducible exact tame_getObj _
    | with_reducible exact tame_newObj _
    | with_reducible exact tame_choose _
    | with_reducible exact tame_noRoom
    | with_reducible exact tame_stuck _
    | with_reducible exact tame_unsupported _
    | with_reducible exact tame_newRow _ _
    | ((with_reducible refine tame_program ?_ ?_); next => rfl)
    | with_reducible refine Tame.any ?_ (fun _ => ?_)
    | with_reducible refine tame_ite ?_ ?_
    | with_reducible split
    | with_reducible dsimp only
    | exact trivial

theorem tame_elemOf (t : TypeId) : Tame P (twin P F f') Any (elemOf t) := by
  unfold elemOf
  repeat' first
    | contradiction
    | with_reducible exact tame_pure trivial
    | with_reducible exact tame_underlying _
    | with_reducible exact tame_typeInfo _
    | with_reducible exact tame_sizeOf _
    | with_reducible exact tame_zeroValue _
    | with_reducible exact tame_load _
    | with_reducible exact tame_store _ _
    | with_reducible exact tame_shape _
    | with_reducible exact tame_frozen _
    | with_reducible exact tame_getObj _
    | with_reducible exact tame_newObj _
    | with_reducible exact tame_choose _
    | with_reducible exact tame_noRoom
    | with_reducible exact tame_stuck _
    | with_reducible exact tame_unsupported _
    | ((with_reducible refine tame_program ?_ ?_); next => rfl)
    | with_reducible refine Tame.any ?_ (fun _ => ?_)
    | with_reducible refine tame_ite ?_ ?_
    | with_reducible split
    | with_reducible dsimp only
    | exact trivial

theorem tame_runtimePanic {α : Type} {Ok : α → Prop} (e : RuntimeError) : Tame P (twin P F f') Ok (runtimePanic e : Sem α) := by
  unfold runtimePanic
  refine tame_program ?_ ?_
  · cases e <;> rfl
  · cases e <;> first | exact trivial | exact Tame.any (Tame.any (tame_elemOf _) fun _ => tame_newVar _ _) fun _ => trivial | exact Tame.any (tame_elemOf _) fun _ => Tame.any (tame_newVar _ _) fun _ => trivial
theorem tame_boundsPanic {α : Type} {Ok : α → Prop} (k : IntKind) (x y : Int) (c : BoundsCode) : Tame P (twin P F f') Ok (boundsPanic k x y c : Sem α) := by
  unfold boundsPanic
  dsimp only
  split
  · exact Tame.any (fun _ => trivial) fun _ => tame_runtimePanic _
  · exact Tame.any trivial fun _ => tame_runtimePanic _

theorem tame_asIntOf (v : Value) : Tame P (twin P F f') Any (asIntOf v) := by
  unfold asIntOf
  repeat' first
    | contradiction
    | with_reducible exact tame_pure trivial
    | with_reducible exact tame_underlying _
    | with_reducible exact tame_typeInfo _
    | with_reducible exact tame_sizeOf _
    | with_reducible exact tame_zeroValue _
    | with_reducible exact tame_load _
    | with_reducible exact tame_store _ _
    | with_reducible exact tame_shape _
    | with_reducible exact tame_frozen _
    | with_reducible exact tame_getObj _
    | with_reducible exact tame_newObj _
    | with_reducible exact tame_choose _
    | with_reducible exact tame_noRoom
    | with_reducible exact tame_stuck _
    | with_reducible exact tame_unsupported _
    | with_reducible exact tame_runtimePanic _
    | with_reducible exact tame_boundsPanic _ _ _ _
    | ((with_reducible refine tame_program ?_ ?_); next => rfl)
    | with_reducible refine Tame.any ?_ (fun _ => ?_)
    | with_reducible refine tame_ite ?_ ?_
    | with_reducible split
    | with_reducible dsimp only
    | exact trivial

theorem tame_asInt (v : Value) : Tame P (twin P F f') Any (asInt v) := by
  unfold asInt
  repeat' first
    | contradiction
    | with_reducible exact tame_pure trivial
    | with_reducible exact tame_underlying _
    | with_reducible exact tame_typeInfo _
    | with_reducible exact tame_sizeOf _
    | with_reducible exact tame_zeroValue _
    | with_reducible exact tame_load _
    | with_reducible exact tame_store _ _
    | with_reducible exact tame_shape _
    | with_reducible exact tame_frozen _
    | with_reducible exact tame_getObj _
    | with_reducible exact tame_newObj _
    | with_reducible exact tame_choose _
    | with_reducible exact tame_noRoom
    | with_reducible exact tame_stuck _
    | with_reducible exact tame_unsupported _
    | with_reducible exact tame_runtimePanic _
    | with_reducible exact tame_boundsPanic _ _ _ _
    | with_reducible exact tame_asIntOf _
    | ((with_reducible refine tame_program ?_ ?_); next => rfl)
    | with_reducible refine Tame.any ?_ (fun _ => ?_)
    | with_reducible refine tame_ite ?_ ?_
    | with_reducible split
    | with_reducible dsimp only
    | exact trivial

theorem tame_asBool (v : Value) : Tame P (twin P F f') Any (asBool v) := by
  unfold asBool
  repeat' first
    | contradiction
    | with_reducible exact tame_pure trivial
    | with_reducible exact tame_underlying _
    | with_reducible exact tame_typeInfo _
    | with_reducible exact tame_sizeOf _
    | with_reducible exact tame_zeroValue _
    | with_reducible exact tame_load _
    | with_reducible exact tame_store _ _
    | with_reducible exact tame_shape _
    | with_reducible exact tame_frozen _
    | with_reducible exact tame_getObj _
    | with_reducible exact tame_newObj _
    | with_reducible exact tame_choose _
    | with_reducible exact tame_noRoom
    | with_reducible exact tame_stuck _
    | with_reducible exact tame_unsupported _
    | with_reducible exact tame_runtimePanic _
    | with_reducible exact tame_boundsPanic _ _ _ _
    | ((with_reducible refine tame_program ?_ ?_); next => rfl)
    | with_reducible refine Tame.any ?_ (fun _ => ?_)
    | with_reducible refine tame_ite ?_ ?_
    | with_reducible split
    | with_reducible dsimp only
    | exact trivial

theorem tame_asAddr (v : Value) : Tame P (twin P F f') Any (asAddr v) := by
  unfold asAddr
  repeat' first
    | contradiction
    | with_reducible exact tame_pure trivial
    | with_reducible exact tame_underlying _
    | with_reducible exact tame_typeInfo _
    | with_reducible exact tame_sizeOf _
    | with_reducible exact tame_zeroValue _
    | with_reducible exact tame_load _
    | with_reducible exact tame_store _ _
    | with_reducible exact tame_shape _
    | with_reducible exact tame_frozen _
    | with_reducible exact tame_getObj _
    | with_reducible exact tame_newObj _
    | with_reducible exact tame_choose _
    | with_reducible exact tame_noRoom
    | with_reducible exact tame_stuck _
    | with_reducible exact tame_unsupported _
    | with_reducible exact tame_runtimePanic _
    | with_reducible exact tame_boundsPanic _ _ _ _
    | with_reducible exact tame_runtimePanic _
    | ((with_reducible refine tame_program ?_ ?_); next => rfl)
    | with_reducible refine Tame.any ?_ (fun _ => ?_)
    | with_reducible refine tame_ite ?_ ?_
    | with_reducible split
    | with_reducible dsimp only
    | exact trivial

theorem tame_sureAddr (v : Value) : Tame P (twin P F f') Any (Instr.sureAddr v) := by
  unfold Instr.sureAddr
  repeat' first
    | contradiction
    | with_reducible exact tame_pure trivial
    | with_reducible exact tame_underlying _
    | with_reducible exact tame_typeInfo _
    | with_reducible exact tame_sizeOf _
    | with_reducible exact tame_zeroValue _
    | with_reducible exact tame_load _
    | with_reducible exact tame_store _ _
    | with_reducible exact tame_shape _
    | with_reducible exact tame_frozen _
    | with_reducible exact tame_getObj _
    | with_reducible exact tame_newObj _
    | with_reducible exact tame_choose _
    | with_reducible exact tame_noRoom
    | with_reducible exact tame_stuck _
    | with_reducible exact tame_unsupported _
    | with_reducible exact tame_runtimePanic _
    | with_reducible exact tame_boundsPanic _ _ _ _
    | ((with_reducible refine tame_program ?_ ?_); next => rfl)
    | with_reducible refine Tame.any ?_ (fun _ => ?_)
    | with_reducible refine tame_ite ?_ ?_
    | with_reducible split
    | with_reducible dsimp only
    | exact trivial

theorem tame_viewAt (r : Nat) : Tame P (twin P F f') Any (viewAt r) := by
  unfold viewAt
  repeat' first
    | contradiction
    | with_reducible exact tame_pure trivial
    | with_reducible exact tame_underlying _
    | with_reducible exact tame_typeInfo _
    | with_reducible exact tame_sizeOf _
    | with_reducible exact tame_zeroValue _
    | with_reducible exact tame_load _
    | with_reducible exact tame_store _ _
    | with_reducible exact tame_shape _
    | with_reducible exact tame_frozen _
    | with_reducible exact tame_getObj _
    | with_reducible exact tame_newObj _
    | with_reducible exact tame_choose _
    | with_reducible exact tame_noRoom
    | with_reducible exact tame_stuck _
    | with_reducible exact tame_unsupported _
    | with_reducible exact tame_runtimePanic _
    | with_reducible exact tame_boundsPanic _ _ _ _
    | ((with_reducible refine tame_program ?_ ?_); next => rfl)
    | with_reducible refine Tame.any ?_ (fun _ => ?_)
    | with_reducible refine tame_ite ?_ ?_
    | with_reducible split
    | with_reducible dsimp only
    | exact trivial

theorem tame_numberAt (r : Nat) : Tame P (twin P F f') Any (numberAt r) := by
  unfold numberAt
  repeat' first
    | contradiction
    | with_reducible exact tame_pure trivial
    | with_reducible exact tame_underlying _
    | with_reducible exact tame_typeInfo _
    | with_reducible exact tame_sizeOf _
    | with_reducible exact tame_zeroValue _
    | with_reducible exact tame_load _
    | with_reducible exact tame_store _ _
    | with_reducible exact tame_shape _
    | with_reducible exact tame_frozen _
    | with_reducible exact tame_getObj _
    | with_reducible exact tame_newObj _
    | with_reducible exact tame_choose _
    | with_reducible exact tame_noRoom
    | with_reducible exact tame_stuck _
    | with_reducible exact tame_unsupported _
    | with_reducible exact tame_runtimePanic _
    | with_reducible exact tame_boundsPanic _ _ _ _
    | ((with_reducible refine tame_program ?_ ?_); next => rfl)
    | with_reducible refine Tame.any ?_ (fun _ => ?_)
    | with_reducible refine tame_ite ?_ ?_
    | with_reducible split
    | with_reducible dsimp only
    | exact trivial

theorem tame_behindNumber (n : Addr) : Tame P (twin P F f') Any (behindNumber n) := by
  unfold behindNumber
  repeat' first
    | contradiction
    | with_reducible exact tame_pure trivial
    | with_reducible exact tame_underlying _
    | with_reducible exact tame_typeInfo _
    | with_reducible exact tame_sizeOf _
    | with_reducible exact tame_zeroValue _
    | with_reducible exact tame_load _
    | with_reducible exact tame_store _ _
    | with_reducible exact tame_shape _
    | with_reducible exact tame_frozen _
    | with_reducible exact tame_getObj _
    | with_reducible exact tame_newObj _
    | with_reducible exact tame_choose _
    | with_reducible exact tame_noRoom
    | with_reducible exact tame_stuck _
    | with_reducible exact tame_unsupported _
    | with_reducible exact tame_runtimePanic _
    | with_reducible exact tame_boundsPanic _ _ _ _
    | with_reducible exact tame_numberAt _
    | ((with_reducible refine tame_program ?_ ?_); next => rfl)
    | with_reducible refine Tame.any ?_ (fun _ => ?_)
    | with_reducible refine tame_ite ?_ ?_
    | with_reducible split
    | with_reducible dsimp only
    | exact trivial

theorem tame_noView (a : Addr) : Tame P (twin P F f') Any (noView a) := by
  unfold noView
  repeat' first
    | contradiction
    | with_reducible exact tame_pure trivial
    | with_reducible exact tame_underlying _
    | with_reducible exact tame_typeInfo _
    | with_reducible exact tame_sizeOf _
    | with_reducible exact tame_zeroValue _
    | with_reducible exact tame_load _
    | with_reducible exact tame_store _ _
    | with_reducible exact tame_shape _
    | with_reducible exact tame_frozen _
    | with_reducible exact tame_getObj _
    | with_reducible exact tame_newObj _
    | with_reducible exact tame_choose _
    | with_reducible exact tame_noRoom
    | with_reducible exact tame_stuck _
    | with_reducible exact tame_unsupported _
    | with_reducible exact tame_runtimePanic _
    | with_reducible exact tame_boundsPanic _ _ _ _
    | with_reducible exact tame_viewAt _
    | ((with_reducible refine tame_program ?_ ?_); next => rfl)
    | with_reducible refine Tame.any ?_ (fun _ => ?_)
    | with_reducible refine tame_ite ?_ ?_
    | with_reducible split
    | with_reducible dsimp only
    | exact trivial

theorem tame_intArith (op : BinOp) (k : IntKind) (x y : Int) : Tame P (twin P F f') Any (Op.intArith op k x y) := by
  unfold Op.intArith
  repeat' first
    | contradiction
    | with_reducible exact tame_pure trivial
    | with_reducible exact tame_underlying _
    | with_reducible exact tame_typeInfo _
    | with_reducible exact tame_sizeOf _
    | with_reducible exact tame_zeroValue _
    | with_reducible exact tame_load _
    | with_reducible exact tame_store _ _
    | with_reducible exact tame_shape _
    | with_reducible exact tame_frozen _
    | with_reducible exact tame_getObj _
    | with_reducible exact tame_newObj _
    | with_reducible exact tame_choose _
    | with_reducible exact tame_noRoom
    | with_reducible exact tame_stuck _
    | with_reducible exact tame_unsupported _
    | with_reducible exact tame_runtimePanic _
    | with_reducible exact tame_boundsPanic _ _ _ _
    | ((with_reducible refine tame_program ?_ ?_); next => rfl)
    | with_reducible refine Tame.any ?_ (fun _ => ?_)
    | with_reducible refine tame_ite ?_ ?_
    | with_reducible split
    | with_reducible dsimp only
    | exact trivial

theorem tame_intDiv (op : BinOp) (k : IntKind) (x y : Int) : Tame P (twin P F f') Any (Op.intDiv op k x y) := by
  unfold Op.intDiv
  repeat' first
    | contradiction
    | with_reducible exact tame_pure trivial
    | with_reducible exact tame_underlying _
    | with_reducible exact tame_typeInfo _
    | with_reducible exact tame_sizeOf _
    | with_reducible exact tame_zeroValue _
    | with_reducible exact tame_load _
    | with_reducible exact tame_store _ _
    | with_reducible exact tame_shape _
    | with_reducible exact tame_frozen _
    | with_reducible exact tame_getObj _
    | with_reducible exact tame_newObj _
    | with_reducible exact tame_choose _
    | with_reducible exact tame_noRoom
    | with_reducible exact tame_stuck _
    | with_reducible exact tame_unsupported _
    | with_reducible exact tame_runtimePanic _
    | with_reducible exact tame_boundsPanic _ _ _ _
    | with_reducible exact tame_runtimePanic _
    | ((with_reducible refine tame_program ?_ ?_); next => rfl)
    | with_reducible refine Tame.any ?_ (fun _ => ?_)
    | with_reducible refine tame_ite ?_ ?_
    | with_reducible split
    | with_reducible dsimp only
    | exact trivial

theorem tame_intBits (op : BinOp) (k : IntKind) (x y : Int) : Tame P (twin P F f') Any (Op.intBits op k x y) := by
  unfold Op.intBits
  repeat' first
    | contradiction
    | with_reducible exact tame_pure trivial
    | with_reducible exact tame_underlying _
    | with_reducible exact tame_typeInfo _
    | with_reducible exact tame_sizeOf _
    | with_reducible exact tame_zeroValue _
    | with_reducible exact tame_load _
    | with_reducible exact tame_store _ _
    | with_reducible exact tame_shape _
    | with_reducible exact tame_frozen _
    | with_reducible exact tame_getObj _
    | with_reducible exact tame_newObj _
    | with_reducible exact tame_choose _
    | with_reducible exact tame_noRoom
    | with_reducible exact tame_stuck _
    | with_reducible exact tame_unsupported _
    | with_reducible exact tame_runtimePanic _
    | with_reducible exact tame_boundsPanic _ _ _ _
    | ((with_reducible refine tame_program ?_ ?_); next => rfl)
    | with_reducible refine Tame.any ?_ (fun _ => ?_)
    | with_reducible refine tame_ite ?_ ?_
    | with_reducible split
    | with_reducible dsimp only
    | exact trivial

theorem tame_intCmp (op : BinOp) (x y : Int) : Tame P (twin P F f') Any (Op.intCmp op x y) := by
  unfold Op.intCmp
  repeat' first
    | contradiction
    | with_reducible exact tame_pure trivial
    | with_reducible exact tame_underlying _
    | with_reducible exact tame_typeInfo _
    | with_reducible exact tame_sizeOf _
    | with_reducible exact tame_zeroValue _
    | with_reducible exact tame_load _
    | with_reducible exact tame_store _ _
    | with_reducible exact tame_shape _
    | with_reducible exact tame_frozen _
    | with_reducible exact tame_getObj _
    | with_reducible exact tame_newObj _
    | with_reducible exact tame_choose _
    | with_reducible exact tame_noRoom
    | with_reducible exact tame_stuck _
    | with_reducible exact tame_unsupported _
    | with_reducible exact tame_runtimePanic _
    | with_reducible exact tame_boundsPanic _ _ _ _
    | ((with_reducible refine tame_program ?_ ?_); next => rfl)
    | with_reducible refine Tame.any ?_ (fun _ => ?_)
    | with_reducible refine tame_ite ?_ ?_
    | with_reducible split
    | with_reducible dsimp only
    | exact trivial

theorem tame_shift (op : BinOp) (k : IntKind) (x : Int) (k2 : IntKind) (y : Int) : Tame P (twin P F f') Any (Op.shift op k x k2 y) := by
  unfold Op.shift
  repeat' first
    | contradiction
    | with_reducible exact tame_pure trivial
    | with_reducible exact tame_underlying _
    | with_reducible exact tame_typeInfo _
    | with_reducible exact tame_sizeOf _
    | with_reducible exact tame_zeroValue _
    | with_reducible exact tame_load _
    | with_reducible exact tame_store _ _
    | with_reducible exact tame_shape _
    | with_reducible exact tame_frozen _
    | with_reducible exact tame_getObj _
    | with_reducible exact tame_newObj _
    | with_reducible exact tame_choose _
    | with_reducible exact tame_noRoom
    | with_reducible exact tame_stuck _
    | with_reducible exact tame_unsupported _
    | with_reducible exact tame_runtimePanic _
    | with_reducible exact tame_boundsPanic _ _ _ _
    | with_reducible exact tame_runtimePanic _
    | ((with_reducible refine tame_program ?_ ?_); next => rfl)
    | with_reducible refine Tame.any ?_ (fun _ => ?_)
    | with_reducible refine tame_ite ?_ ?_
    | with_reducible split
    | with_reducible dsimp only
    | exact trivial

theorem tame_floatArith (op : BinOp) (k : FloatKind) (x y : Nat) : Tame P (twin P F f') Any (Op.floatArith op k x y) := by
  unfold Op.floatArith
  repeat' first
    | contradiction
    | with_reducible exact tame_pure trivial
    | with_reducible exact tame_underlying _
    | with_reducible exact tame_typeInfo _
    | with_reducible exact tame_sizeOf _
    | with_reducible exact tame_zeroValue _
    | with_reducible exact tame_load _
    | with_reducible exact tame_store _ _
    | with_reducible exact tame_shape _
    | with_reducible exact tame_frozen _
    | with_reducible exact tame_getObj _
    | with_reducible exact tame_newObj _
    | with_reducible exact tame_choose _
    | with_reducible exact tame_noRoom
    | with_reducible exact tame_stuck _
    | with_reducible exact tame_unsupported _
    | with_reducible exact tame_runtimePanic _
    | with_reducible exact tame_boundsPanic _ _ _ _
    | ((with_reducible refine tame_program ?_ ?_); next => rfl)
    | with_reducible refine Tame.any ?_ (fun _ => ?_)
    | with_reducible refine tame_ite ?_ ?_
    | with_reducible split
    | with_reducible dsimp only
    | exact trivial

theorem tame_floatCmp (op : BinOp) (k : FloatKind) (x y : Nat) : Tame P (twin P F f') Any (Op.floatCmp op k x y) := by
  unfold Op.floatCmp
  repeat' first
    | contradiction
    | with_reducible exact tame_pure trivial
    | with_reducible exact tame_underlying _
    | with_reducible exact tame_typeInfo _
    | with_reducible exact tame_sizeOf _
    | with_reducible exact tame_zeroValue _
    | with_reducible exact tame_load _
    | with_reducible exact tame_store _ _
    | with_reducible exact tame_shape _
    | with_reducible exact tame_frozen _
    | with_reducible exact tame_getObj _
    | with_reducible exact tame_newObj _
    | with_reducible exact tame_choose _
    | with_reducible exact tame_noRoom
    | with_reducible exact tame_stuck _
    | with_reducible exact tame_unsupported _
    | with_reducible exact tame_runtimePanic _
    | with_reducible exact tame_boundsPanic _ _ _ _
    | ((with_reducible refine tame_program ?_ ?_); next => rfl)
    | with_reducible refine Tame.any ?_ (fun _ => ?_)
    | with_reducible refine tame_ite ?_ ?_
    | with_reducible split
    | with_reducible dsimp only
    | exact trivial

theorem tame_stringOp (op : BinOp) (x y : ByteArray) : Tame P (twin P F f') Any (Op.stringOp op x y) := by
  unfold Op.stringOp
  repeat' first
    | contradiction
    | with_reducible exact tame_pure trivial
    | with_reducible exact tame_underlying _
    | with_reducible exact tame_typeInfo _
    | with_reducible exact tame_sizeOf _
    | with_reducible exact tame_zeroValue _
    | with_reducible exact tame_load _
    | with_reducible exact tame_store _ _
    | with_reducible exact tame_shape _
    | with_reducible exact tame_frozen _
    | with_reducible exact tame_getObj _
    | with_reducible exact tame_newObj _
    | with_reducible exact tame_choose _
    | with_reducible exact tame_noRoom
    | with_reducible exact tame_stuck _
    | with_reducible exact tame_unsupported _
    | with_reducible exact tame_runtimePanic _
    | with_reducible exact tame_boundsPanic _ _ _ _
    | ((with_reducible refine tame_program ?_ ?_); next => rfl)
    | with_reducible refine Tame.any ?_ (fun _ => ?_)
    | with_reducible refine tame_ite ?_ ?_
    | with_reducible split
    | with_reducible dsimp only
    | exact trivial

theorem tame_carith (op : BinOp) (k : FloatKind) (x y : Nat) : Tame P (twin P F f') Any (Op.Complex.arith op k x y) := by
  unfold Op.Complex.arith
  repeat' first
    | contradiction
    | with_reducible exact tame_pure trivial
    | with_reducible exact tame_underlying _
    | with_reducible exact tame_typeInfo _
    | with_reducible exact tame_sizeOf _
    | with_reducible exact tame_zeroValue _
    | with_reducible exact tame_load _
    | with_reducible exact tame_store _ _
    | with_reducible exact tame_shape _
    | with_reducible exact tame_frozen _
    | with_reducible exact tame_getObj _
    | with_reducible exact tame_newObj _
    | with_reducible exact tame_choose _
    | with_reducible exact tame_noRoom
    | with_reducible exact tame_stuck _
    | with_reducible exact tame_unsupported _
    | with_reducible exact tame_runtimePanic _
    | with_reducible exact tame_boundsPanic _ _ _ _
    | with_reducible exact tame_floatArith _ _ _ _
    | ((with_reducible refine tame_program ?_ ?_); next => rfl)
    | with_reducible refine Tame.any ?_ (fun _ => ?_)
    | with_reducible refine tame_ite ?_ ?_
    | with_reducible split
    | with_reducible dsimp only
    | exact trivial

theorem tame_cadd (x y : Nat) : Tame P (twin P F f') Any (Op.Complex.add x y) := tame_carith _ _ _ _
theorem tame_csub (x y : Nat) : Tame P (twin P F f') Any (Op.Complex.sub x y) := tame_carith _ _ _ _
theorem tame_cmul (x y : Nat) : Tame P (twin P F f') Any (Op.Complex.mul x y) := tame_carith _ _ _ _
theorem tame_cquo (x y : Nat) : Tame P (twin P F f') Any (Op.Complex.quo x y) := tame_carith _ _ _ _

theorem tame_ccmp (op : BinOp) (k : FloatKind) (x y : Nat) : Tame P (twin P F f') Any (Op.Complex.cmp op k x y) := by
  unfold Op.Complex.cmp
  repeat' first
    | contradiction
    | with_reducible exact tame_pure trivial
    | with_reducible exact tame_underlying _
    | with_reducible exact tame_typeInfo _
    | with_reducible exact tame_sizeOf _
    | with_reducible exact tame_zeroValue _
    | with_reducible exact tame_load _
    | with_reducible exact tame_store _ _
    | with_reducible exact tame_shape _
    | with_reducible exact tame_frozen _
    | with_reducible exact tame_getObj _
    | with_reducible exact tame_newObj _
    | with_reducible exact tame_choose _
    | with_reducible exact tame_noRoom
    | with_reducible exact tame_stuck _
    | with_reducible exact tame_unsupported _
    | with_reducible exact tame_runtimePanic _
    | with_reducible exact tame_boundsPanic _ _ _ _
    | with_reducible exact tame_floatCmp _ _ _ _
    | with_reducible exact tame_asBool _
    | ((with_reducible refine tame_program ?_ ?_); next => rfl)
    | with_reducible refine Tame.any ?_ (fun _ => ?_)
    | with_reducible refine tame_ite ?_ ?_
    | with_reducible split
    | with_reducible dsimp only
    | exact trivial

theorem tame_floatToFloat (s : FloatKind) (x : Nat) (d : FloatKind) : Tame P (twin P F f') Any (Conv.floatToFloat s x d) := by
  unfold Conv.floatToFloat
  repeat' first
    | contradiction
    | with_reducible exact tame_pure trivial
    | with_reducible exact tame_underlying _
    | with_reducible exact tame_typeInfo _
    | with_reducible exact tame_sizeOf _
    | with_reducible exact tame_zeroValue _
    | with_reducible exact tame_load _
    | with_reducible exact tame_store _ _
    | with_reducible exact tame_shape _
    | with_reducible exact tame_frozen _
    | with_reducible exact tame_getObj _
    | with_reducible exact tame_newObj _
    | with_reducible exact tame_choose _
    | with_reducible exact tame_noRoom
    | with_reducible exact tame_stuck _
    | with_reducible exact tame_unsupported _
    | with_reducible exact tame_runtimePanic _
    | with_reducible exact tame_boundsPanic _ _ _ _
    | ((with_reducible refine tame_program ?_ ?_); next => rfl)
    | with_reducible refine Tame.any ?_ (fun _ => ?_)
    | with_reducible refine tame_ite ?_ ?_
    | with_reducible split
    | with_reducible dsimp only
    | exact trivial

theorem tame_cconv (s : FloatKind) (x : Nat) (d : FloatKind) : Tame P (twin P F f') Any (Op.Complex.conv s x d) := by
  unfold Op.Complex.conv
  repeat' first
    | contradiction
    | with_reducible exact tame_pure trivial
    | with_reducible exact tame_underlying _
    | with_reducible exact tame_typeInfo _
    | with_reducible exact tame_sizeOf _
    | with_reducible exact tame_zeroValue _
    | with_reducible exact tame_load _
    | with_reducible exact tame_store _ _
    | with_reducible exact tame_shape _
    | with_reducible exact tame_frozen _
    | with_reducible exact tame_getObj _
    | with_reducible exact tame_newObj _
    | with_reducible exact tame_choose _
    | with_reducible exact tame_noRoom
    | with_reducible exact tame_stuck _
    | with_reducible exact tame_unsupported _
    | with_reducible exact tame_runtimePanic _
    | with_reducible exact tame_boundsPanic _ _ _ _
    | with_reducible exact tame_floatToFloat _ _ _
    | ((with_reducible refine tame_program ?_ ?_); next => rfl)
    | with_reducible refine Tame.any ?_ (fun _ => ?_)
    | with_reducible refine tame_ite ?_ ?_
    | with_reducible split
    | with_reducible dsimp only
    | exact trivial

theorem tame_cproduct (a b c d : Nat) : Tame P (twin P F f') Any (Op.Complex.product a b c d) := by
  unfold Op.Complex.product
  repeat' first
    | contradiction
    | with_reducible exact tame_pure trivial
    | with_reducible exact tame_underlying _
    | with_reducible exact tame_typeInfo _
    | with_reducible exact tame_sizeOf _
    | with_reducible exact tame_zeroValue _
    | with_reducible exact tame_load _
    | with_reducible exact tame_store _ _
    | with_reducible exact tame_shape _
    | with_reducible exact tame_frozen _
    | with_reducible exact tame_getObj _
    | with_reducible exact tame_newObj _
    | with_reducible exact tame_choose _
    | with_reducible exact tame_noRoom
    | with_reducible exact tame_stuck _
    | with_reducible exact tame_unsupported _
    | with_reducible exact tame_runtimePanic _
    | with_reducible exact tame_boundsPanic _ _ _ _
    | with_reducible exact tame_carith _ _ _ _
    | with_reducible exact tame_cadd _ _
    | with_reducible exact tame_csub _ _
    | with_reducible exact tame_cmul _ _
    | with_reducible exact tame_cquo _ _
    | ((with_reducible refine tame_program ?_ ?_); next => rfl)
    | with_reducible refine Tame.any ?_ (fun _ => ?_)
    | with_reducible refine tame_ite ?_ ?_
    | with_reducible split
    | with_reducible dsimp only
    | exact trivial

theorem tame_ccorrected (s a b c d : Nat) : Tame P (twin P F f') Any (Op.Complex.corrected s a b c d) := by
  unfold Op.Complex.corrected
  repeat' first
    | contradiction
    | with_reducible exact tame_pure trivial
    | with_reducible exact tame_underlying _
    | with_reducible exact tame_typeInfo _
    | with_reducible exact tame_sizeOf _
    | with_reducible exact tame_zeroValue _
    | with_reducible exact tame_load _
    | with_reducible exact tame_store _ _
    | with_reducible exact tame_shape _
    | with_reducible exact tame_frozen _
    | with_reducible exact tame_getObj _
    | with_reducible exact tame_newObj _
    | with_reducible exact tame_choose _
    | with_reducible exact tame_noRoom
    | with_reducible exact tame_stuck _
    | with_reducible exact tame_unsupported _
    | with_reducible exact tame_runtimePanic _
    | with_reducible exact tame_boundsPanic _ _ _ _
    | with_reducible exact tame_carith _ _ _ _
    | with_reducible exact tame_cadd _ _
    | with_reducible exact tame_csub _ _
    | with_reducible exact tame_cmul _ _
    | with_reducible exact tame_cquo _ _
    | ((with_reducible refine tame_program ?_ ?_); next => rfl)
    | with_reducible refine Tame.any ?_ (fun _ => ?_)
    | with_reducible refine tame_ite ?_ ?_
    | with_reducible split
    | with_reducible dsimp only
    | exact trivial

theorem tame_cquotient (a b c d : Nat) : Tame P (twin P F f') Any (Op.Complex.quotient a b c d) := by
  unfold Op.Complex.quotient
  repeat' first
    | contradiction
    | with_reducible exact tame_pure trivial
    | with_reducible exact tame_underlying _
    | with_reducible exact tame_typeInfo _
    | with_reducible exact tame_sizeOf _
    | with_reducible exact tame_zeroValue _
    | with_reducible exact tame_load _
    | with_reducible exact tame_store _ _
    | with_reducible exact tame_shape _
    | with_reducible exact tame_frozen _
    | with_reducible exact tame_getObj _
    | with_reducible exact tame_newObj _
    | with_reducible exact tame_choose _
    | with_reducible exact tame_noRoom
    | with_reducible exact tame_stuck _
    | with_reducible exact tame_unsupported _
    | with_reducible exact tame_runtimePanic _
    | with_reducible exact tame_boundsPanic _ _ _ _
    | with_reducible exact tame_carith _ _ _ _
    | with_reducible exact tame_cadd _ _
    | with_reducible exact tame_csub _ _
    | with_reducible exact tame_cmul _ _
    | with_reducible exact tame_cquo _ _
    | with_reducible exact tame_ccmp _ _ _ _
    | with_reducible exact tame_ccorrected _ _ _ _ _
    | ((with_reducible refine tame_program ?_ ?_); next => rfl)
    | with_reducible refine Tame.any ?_ (fun _ => ?_)
    | with_reducible refine tame_ite ?_ ?_
    | with_reducible split
    | with_reducible dsimp only
    | exact trivial

theorem tame_complexOp (op : BinOp) (k : FloatKind) (a b c d : Nat) : Tame P (twin P F f') Any (Op.complexOp op k a b c d) := by
  unfold Op.complexOp
  repeat' first
    | contradiction
    | with_reducible exact tame_pure trivial
    | with_reducible exact tame_underlying _
    | with_reducible exact tame_typeInfo _
    | with_reducible exact tame_sizeOf _
    | with_reducible exact tame_zeroValue _
    | with_reducible exact tame_load _
    | with_reducible exact tame_store _ _
    | with_reducible exact tame_shape _
    | with_reducible exact tame_frozen _
    | with_reducible exact tame_getObj _
    | with_reducible exact tame_newObj _
    | with_reducible exact tame_choose _
    | with_reducible exact tame_noRoom
    | with_reducible exact tame_stuck _
    | with_reducible exact tame_unsupported _
    | with_reducible exact tame_runtimePanic _
    | with_reducible exact tame_boundsPanic _ _ _ _
    | with_reducible exact tame_carith _ _ _ _
    | with_reducible exact tame_cadd _ _
    | with_reducible exact tame_csub _ _
    | with_reducible exact tame_cmul _ _
    | with_reducible exact tame_cquo _ _
    | with_reducible exact tame_ccmp _ _ _ _
    | with_reducible exact tame_cconv _ _ _
    | with_reducible exact tame_cproduct _ _ _ _
    | with_reducible exact tame_cquotient _ _ _ _
    | ((with_reducible refine tame_program ?_ ?_); next => rfl)
    | with_reducible refine Tame.any ?_ (fun _ => ?_)
    | with_reducible refine tame_ite ?_ ?_
    | with_reducible split
    | with_reducible dsimp only
    | exact trivial

theorem tame_byteOf (a : Addr) : Tame P (twin P F f') Any (byteOf a) := by
  unfold byteOf
  dsimp only
  split
  · exact trivial
  · refine tame_program ?_ ?_
    · simp only [cellsOf_twin, bytesOf_twin, depth_twin, byteOfCell_twin]
    · refine Tame.any (tame_noView _) fun _ => Tame.any (tame_shape _) fun _ => ?_
      repeat' first | exact trivial | split

theorem tame_twoPlaces (a b : Addr) : Tame P (twin P F f') Any (Op.twoPlaces a b) := by
  unfold Op.twoPlaces
  repeat' first
    | contradiction
    | with_reducible exact tame_pure trivial
    | with_reducible exact tame_underlying _
    | with_reducible exact tame_typeInfo _
    | with_reducible exact tame_sizeOf _
    | with_reducible exact tame_zeroValue _
    | with_reducible exact tame_load _
    | with_reducible exact tame_store _ _
    | with_reducible exact tame_shape _
    | with_reducible exact tame_frozen _
    | with_reducible exact tame_getObj _
    | with_reducible exact tame_newObj _
    | with_reducible exact tame_choose _
    | with_reducible exact tame_noRoom
    | with_reducible exact tame_stuck _
    | with_reducible exact tame_unsupported _
    | with_reducible exact tame_runtimePanic _
    | with_reducible exact tame_boundsPanic _ _ _ _
    | with_reducible exact tame_byteOf _
    | ((with_reducible refine tame_program ?_ ?_); next => rfl)
    | with_reducible refine Tame.any ?_ (fun _ => ?_)
    | with_reducible refine tame_ite ?_ ?_
    | with_reducible split
    | with_reducible dsimp only
    | exact trivial

theorem tame_addrSub (k : IntKind) (a b : Addr) : Tame P (twin P F f') Any (Op.addrSub k a b) := by
  unfold Op.addrSub
  repeat' first
    | contradiction
    | with_reducible exact tame_pure trivial
    | with_reducible exact tame_underlying _
    | with_reducible exact tame_typeInfo _
    | with_reducible exact tame_sizeOf _
    | with_reducible exact tame_zeroValue _
    | with_reducible exact tame_load _
    | with_reducible exact tame_store _ _
    | with_reducible exact tame_shape _
    | with_reducible exact tame_frozen _
    | with_reducible exact tame_getObj _
    | with_reducible exact tame_newObj _
    | with_reducible exact tame_choose _
    | with_reducible exact tame_noRoom
    | with_reducible exact tame_stuck _
    | with_reducible exact tame_unsupported _
    | with_reducible exact tame_runtimePanic _
    | with_reducible exact tame_boundsPanic _ _ _ _
    | with_reducible exact tame_twoPlaces _ _
    | ((with_reducible refine tame_program ?_ ?_); next => rfl)
    | with_reducible refine Tame.any ?_ (fun _ => ?_)
    | with_reducible refine tame_ite ?_ ?_
    | with_reducible split
    | with_reducible dsimp only
    | exact trivial

theorem tame_addrCmp (op : BinOp) (a b : Addr) : Tame P (twin P F f') Any (Op.addrCmp op a b) := by
  unfold Op.addrCmp
  repeat' first
    | contradiction
    | with_reducible exact tame_pure trivial
    | with_reducible exact tame_underlying _
    | with_reducible exact tame_typeInfo _
    | with_reducible exact tame_sizeOf _
    | with_reducible exact tame_zeroValue _
    | with_reducible exact tame_load _
    | with_reducible exact tame_store _ _
    | with_reducible exact tame_shape _
    | with_reducible exact tame_frozen _
    | with_reducible exact tame_getObj _
    | with_reducible exact tame_newObj _
    | with_reducible exact tame_choose _
    | with_reducible exact tame_noRoom
    | with_reducible exact tame_stuck _
    | with_reducible exact tame_unsupported _
    | with_reducible exact tame_runtimePanic _
    | with_reducible exact tame_boundsPanic _ _ _ _
    | with_reducible exact tame_twoPlaces _ _
    | ((with_reducible refine tame_program ?_ ?_); next => rfl)
    | with_reducible refine Tame.any ?_ (fun _ => ?_)
    | with_reducible refine tame_ite ?_ ?_
    | with_reducible split
    | with_reducible dsimp only
    | exact trivial

theorem tame_addrMod (k : IntKind) (a : Addr) (n : Int) : Tame P (twin P F f') Any (Op.addrMod k a n) := by
  unfold Op.addrMod
  repeat' first
    | contradiction
    | with_reducible exact tame_pure trivial
    | with_reducible exact tame_underlying _
    | with_reducible exact tame_typeInfo _
    | with_reducible exact tame_sizeOf _
    | with_reducible exact tame_zeroValue _
    | with_reducible exact tame_load _
    | with_reducible exact tame_store _ _
    | with_reducible exact tame_shape _
    | with_reducible exact tame_frozen _
    | with_reducible exact tame_getObj _
    | with_reducible exact tame_newObj _
    | with_reducible exact tame_choose _
    | with_reducible exact tame_noRoom
    | with_reducible exact tame_stuck _
    | with_reducible exact tame_unsupported _
    | with_reducible exact tame_runtimePanic _
    | with_reducible exact tame_boundsPanic _ _ _ _
    | with_reducible exact tame_byteOf _
    | ((with_reducible refine tame_program ?_ ?_); next => rfl)
    | with_reducible refine Tame.any ?_ (fun _ => ?_)
    | with_reducible refine tame_ite ?_ ?_
    | with_reducible split
    | with_reducible dsimp only
    | exact trivial

/-- A type of integers, of channels, or of slices. -/
def plainT : Option TypeDesc → Bool
  | some (.int _) => true
  | some (.slice _) => true
  | some (.chan _ _) => true
  | _ => false
theorem tame_under (t : TypeId) : Tame P (twin P F f') (fun u => P.underlying t = some u) (underlying t) := by
  refine tame_program rfl ?_
  split
  · rename_i d hd; exact hd
  · exact trivial
theorem tame_equalIn (d : Nat) (t : TypeId) (x y : Value) (ht : plainT (P.underlying t) = true) : Tame P (twin P F f') Any (Op.equalIn (d + 1) t x y) := by
  unfold Op.equalIn
  refine Tame.bind _ (tame_under t) fun u hu => ?_
  rw [hu] at ht
  cases u <;> first | (exact absurd ht Bool.false_ne_true) | skip
  · dsimp only
    repeat' first
      | contradiction
      | with_reducible exact tame_pure trivial
      | with_reducible exact tame_underlying _
      | with_reducible exact tame_typeInfo _
      | with_reducible exact tame_sizeOf _
      | with_reducible exact tame_zeroValue _
      | with_reducible exact tame_load _
      | with_reducible exact tame_store _ _
      | with_reducible exact tame_shape _
      | with_reducible exact tame_frozen _
      | with_reducible exact tame_getObj _
      | with_reducible exact tame_newObj _
      | with_reducible exact tame_choose _
      | with_reducible exact tame_noRoom
      | with_reducible exact tame_stuck _
      | with_reducible exact tame_unsupported _
      | with_reducible exact tame_runtimePanic _
      | with_reducible exact tame_boundsPanic _ _ _ _
      | with_reducible exact tame_behindNumber _
      | with_reducible exact tame_byteOf _
      | ((with_reducible refine tame_program ?_ ?_); next => rfl)
      | with_reducible refine Tame.any ?_ (fun _ => ?_)
      | with_reducible refine tame_ite ?_ ?_
      | with_reducible split
      | with_reducible dsimp only
      | exact trivial
  · dsimp only
    repeat' first
      | contradiction
      | with_reducible exact tame_pure trivial
      | with_reducible exact tame_underlying _
      | with_reducible exact tame_typeInfo _
      | with_reducible exact tame_sizeOf _
      | with_reducible exact tame_zeroValue _
      | with_reducible exact tame_load _
      | with_reducible exact tame_store _ _
      | with_reducible exact tame_shape _
      | with_reducible exact tame_frozen _
      | with_reducible exact tame_getObj _
      | with_reducible exact tame_newObj _
      | with_reducible exact tame_choose _
      | with_reducible exact tame_noRoom
      | with_reducible exact tame_stuck _
      | with_reducible exact tame_unsupported _
      | with_reducible exact tame_runtimePanic _
      | with_reducible exact tame_boundsPanic _ _ _ _
      | ((with_reducible refine tame_program ?_ ?_); next => rfl)
      | with_reducible refine Tame.any ?_ (fun _ => ?_)
      | with_reducible refine tame_ite ?_ ?_
      | with_reducible split
      | with_reducible dsimp only
      | exact trivial
  · dsimp only
    repeat' first
      | contradiction
      | with_reducible exact tame_pure trivial
      | with_reducible exact tame_underlying _
      | with_reducible exact tame_typeInfo _
      | with_reducible exact tame_sizeOf _
      | with_reducible exact tame_zeroValue _
      | with_reducible exact tame_load _
      | with_reducible exact tame_store _ _
      | with_reducible exact tame_shape _
      | with_reducible exact tame_frozen _
      | with_reducible exact tame_getObj _
      | with_reducible exact tame_newObj _
      | with_reducible exact tame_choose _
      | with_reducible exact tame_noRoom
      | with_reducible exact tame_stuck _
      | with_reducible exact tame_unsupported _
      | with_reducible exact tame_runtimePanic _
      | with_reducible exact tame_boundsPanic _ _ _ _
      | ((with_reducible refine tame_program ?_ ?_); next => rfl)
      | with_reducible refine Tame.any ?_ (fun _ => ?_)
      | with_reducible refine tame_ite ?_ ?_
      | with_reducible split
      | with_reducible dsimp only
      | exact trivial

theorem tame_eqGuardIn (d : Nat) (t : TypeId) (x y : Value) (ht : plainT (P.underlying t) = true) : Tame P (twin P F f') Any (Op.eqGuardIn (d + 1) t x y) := by
  unfold Op.eqGuardIn
  refine Tame.bind _ (tame_under t) fun u hu => ?_
  rw [hu] at ht
  cases u <;> first | (exact absurd ht Bool.false_ne_true) | (cases x <;> cases y <;> exact trivial)
theorem tame_eqGuardMax (t : TypeId) (x y : Value) (ht : plainT (P.underlying t) = true) : Tame P (twin P F f') Any (Op.eqGuardIn Op.maxDepth t x y) := tame_eqGuardIn 9999 t x y ht
theorem tame_equal (t : TypeId) (x y : Value) (ht : plainT (P.underlying t) = true) : Tame P (twin P F f') Any (Op.equal t x y) := tame_equalIn 9999 t x y ht
theorem eqGuardType_twin (d : Nat) : ∀ t, (twin P F f').eqGuardType d t = P.eqGuardType d t := by
  induction d with
  | zero => intro t; rfl
  | succ d ih => intro t; simp only [Program.eqGuardType, underlying_twin, ih]
theorem eqGuardType_tw : (twin P F f').eqGuardType = P.eqGuardType := funext fun d => funext fun t => eqGuardType_twin d t
theorem tame_eqGuard (op : BinOp) (t : TypeId) (x y : Operand) (a b : Value) (ht : plainT (P.underlying t) = true) : Tame P (twin P F f') Any (eqGuard op t x y a b) := by
  unfold eqGuard
  repeat' first
    | contradiction
    | with_reducible exact tame_pure trivial
    | with_reducible exact tame_underlying _
    | with_reducible exact tame_typeInfo _
    | with_reducible exact tame_sizeOf _
    | with_reducible exact tame_zeroValue _
    | with_reducible exact tame_load _
    | with_reducible exact tame_store _ _
    | with_reducible exact tame_shape _
    | with_reducible exact tame_frozen _
    | with_reducible exact tame_getObj _
    | with_reducible exact tame_newObj _
    | with_reducible exact tame_choose _
    | with_reducible exact tame_noRoom
    | with_reducible exact tame_stuck _
    | with_reducible exact tame_unsupported _
    | with_reducible exact tame_runtimePanic _
    | with_reducible exact tame_boundsPanic _ _ _ _
    | with_reducible exact tame_eqGuardMax _ _ _ ht
    | ((with_reducible refine tame_program ?_ ?_); next => first | rw [eqGuardType_tw] | rw [depth_twin])
    | with_reducible refine Tame.any ?_ (fun _ => ?_)
    | with_reducible refine tame_ite ?_ ?_
    | with_reducible split
    | with_reducible dsimp only
    | exact trivial

theorem cellOfByte_twin (d : Nat) : ∀ t o, cellOfByte (twin P F f') d t o = cellOfByte P d t o := by
  induction d with
  | zero => intro t o; rfl
  | succ d ih => intro t o; simp only [cellOfByte, underlying_twin, cellsOf_twin, bytesOf_twin, ih]; rfl
theorem cellAtBytes_twin (d : Nat) (e : TypeId) (c o : Nat) (b : Int) : cellAtBytes (twin P F f') d e c o b = cellAtBytes P d e c o b := by
  unfold cellAtBytes
  simp only [byteOfCell_twin, cellOfByte_twin, cellsOf_twin, bytesOf_twin]; rfl
theorem tame_unsafeAdd (t : TypeId) (x y : Value) : Tame P (twin P F f') Any (Builtin.unsafeAdd_ #[] t #[x, y]) := by
  unfold Builtin.unsafeAdd_
  cases x <;> first | exact tame_stuck _ | skip
  rename_i ptr
  show Tame P (twin P F f') Any (asInt y >>= fun n => _)
  repeat' first
    | contradiction
    | with_reducible exact tame_pure trivial
    | with_reducible exact tame_underlying _
    | with_reducible exact tame_typeInfo _
    | with_reducible exact tame_sizeOf _
    | with_reducible exact tame_zeroValue _
    | with_reducible exact tame_load _
    | with_reducible exact tame_store _ _
    | with_reducible exact tame_shape _
    | with_reducible exact tame_frozen _
    | with_reducible exact tame_getObj _
    | with_reducible exact tame_newObj _
    | with_reducible exact tame_choose _
    | with_reducible exact tame_noRoom
    | with_reducible exact tame_stuck _
    | with_reducible exact tame_unsupported _
    | with_reducible exact tame_runtimePanic _
    | with_reducible exact tame_boundsPanic _ _ _ _
    | with_reducible exact tame_asInt _
    | with_reducible exact tame_viewAt _
    | ((with_reducible refine tame_program ?_ ?_); next => simp only [cellAtBytes_twin, cellsOf_twin, depth_twin])
    | with_reducible refine Tame.any ?_ (fun _ => ?_)
    | with_reducible refine tame_ite ?_ ?_
    | with_reducible split
    | with_reducible dsimp only
    | exact trivial

theorem tame_asNumber (a : Addr) (l : Bool) : Tame P (twin P F f') Any (asNumber a l) := by
  unfold asNumber
  repeat' first
    | contradiction
    | with_reducible exact tame_pure trivial
    | with_reducible exact tame_underlying _
    | with_reducible exact tame_typeInfo _
    | with_reducible exact tame_sizeOf _
    | with_reducible exact tame_zeroValue _
    | with_reducible exact tame_load _
    | with_reducible exact tame_store _ _
    | with_reducible exact tame_shape _
    | with_reducible exact tame_frozen _
    | with_reducible exact tame_getObj _
    | with_reducible exact tame_newObj _
    | with_reducible exact tame_choose _
    | with_reducible exact tame_noRoom
    | with_reducible exact tame_stuck _
    | with_reducible exact tame_unsupported _
    | with_reducible exact tame_runtimePanic _
    | with_reducible exact tame_boundsPanic _ _ _ _
    | ((with_reducible refine tame_program ?_ ?_); next => rfl)
    | with_reducible refine Tame.any ?_ (fun _ => ?_)
    | with_reducible refine tame_ite ?_ ?_
    | with_reducible split
    | with_reducible dsimp only
    | exact trivial

theorem tame_movedNumber (t : TypeId) (x y : Value) : Tame P (twin P F f') Any (movedNumber t x y) := by
  unfold movedNumber
  repeat' first
    | contradiction
    | with_reducible exact tame_pure trivial
    | with_reducible exact tame_underlying _
    | with_reducible exact tame_typeInfo _
    | with_reducible exact tame_sizeOf _
    | with_reducible exact tame_zeroValue _
    | with_reducible exact tame_load _
    | with_reducible exact tame_store _ _
    | with_reducible exact tame_shape _
    | with_reducible exact tame_frozen _
    | with_reducible exact tame_getObj _
    | with_reducible exact tame_newObj _
    | with_reducible exact tame_choose _
    | with_reducible exact tame_noRoom
    | with_reducible exact tame_stuck _
    | with_reducible exact tame_unsupported _
    | with_reducible exact tame_runtimePanic _
    | with_reducible exact tame_boundsPanic _ _ _ _
    | with_reducible exact tame_unsafeAdd _ _ _
    | with_reducible exact tame_behindNumber _
    | with_reducible exact tame_asNumber _ _
    | ((with_reducible refine tame_program ?_ ?_); next => rfl)
    | with_reducible refine Tame.any ?_ (fun _ => ?_)
    | with_reducible refine tame_ite ?_ ?_
    | with_reducible split
    | with_reducible dsimp only
    | exact trivial

theorem tame_movedPointer (t : TypeId) (x y : Value) : Tame P (twin P F f') Any (movedPointer t x y) := by
  unfold movedPointer
  repeat' first
    | contradiction
    | with_reducible exact tame_pure trivial
    | with_reducible exact tame_underlying _
    | with_reducible exact tame_typeInfo _
    | with_reducible exact tame_sizeOf _
    | with_reducible exact tame_zeroValue _
    | with_reducible exact tame_load _
    | with_reducible exact tame_store _ _
    | with_reducible exact tame_shape _
    | with_reducible exact tame_frozen _
    | with_reducible exact tame_getObj _
    | with_reducible exact tame_newObj _
    | with_reducible exact tame_choose _
    | with_reducible exact tame_noRoom
    | with_reducible exact tame_stuck _
    | with_reducible exact tame_unsupported _
    | with_reducible exact tame_runtimePanic _
    | with_reducible exact tame_boundsPanic _ _ _ _
    | with_reducible exact tame_unsafeAdd _ _ _
    | with_reducible exact tame_numberAt _
    | ((with_reducible refine tame_program ?_ ?_); next => rfl)
    | with_reducible refine Tame.any ?_ (fun _ => ?_)
    | with_reducible refine tame_ite ?_ ?_
    | with_reducible split
    | with_reducible dsimp only
    | exact trivial

theorem tame_binOp (op : BinOp) (t : TypeId) (x y : Value) (ht : plainT (P.underlying t) = true) : Tame P (twin P F f') Any (binOp op t x y) := by
  unfold binOp
  repeat' first
    | contradiction
    | with_reducible exact tame_pure trivial
    | with_reducible exact tame_underlying _
    | with_reducible exact tame_typeInfo _
    | with_reducible exact tame_sizeOf _
    | with_reducible exact tame_zeroValue _
    | with_reducible exact tame_load _
    | with_reducible exact tame_store _ _
    | with_reducible exact tame_shape _
    | with_reducible exact tame_frozen _
    | with_reducible exact tame_getObj _
    | with_reducible exact tame_newObj _
    | with_reducible exact tame_choose _
    | with_reducible exact tame_noRoom
    | with_reducible exact tame_stuck _
    | with_reducible exact tame_unsupported _
    | with_reducible exact tame_runtimePanic _
    | with_reducible exact tame_boundsPanic _ _ _ _
    | with_reducible exact tame_shift _ _ _ _ _
    | with_reducible exact tame_intArith _ _ _ _
    | with_reducible exact tame_intDiv _ _ _ _
    | with_reducible exact tame_intBits _ _ _ _
    | with_reducible exact tame_intCmp _ _ _
    | with_reducible exact tame_floatArith _ _ _ _
    | with_reducible exact tame_floatCmp _ _ _ _
    | with_reducible exact tame_complexOp _ _ _ _ _ _
    | with_reducible exact tame_stringOp _ _ _
    | with_reducible exact tame_equal _ _ _ ht
    | with_reducible exact tame_movedPointer _ _ _
    | with_reducible exact tame_movedNumber _ _ _
    | with_reducible exact tame_addrSub _ _ _
    | with_reducible exact tame_addrCmp _ _ _
    | with_reducible exact tame_addrMod _ _ _
    | with_reducible exact tame_behindNumber _
    | ((with_reducible refine tame_program ?_ ?_); next => rfl)
    | with_reducible refine Tame.any ?_ (fun _ => ?_)
    | with_reducible refine tame_ite ?_ ?_
    | with_reducible split
    | with_reducible dsimp only
    | exact trivial

theorem tame_loadAt (t : TypeId) (a : Value) : Tame P (twin P F f') Any (Instr.loadAt t a) := by
  unfold Instr.loadAt
  repeat' first
    | contradiction
    | with_reducible exact tame_pure trivial
    | with_reducible exact tame_underlying _
    | with_reducible exact tame_typeInfo _
    | with_reducible exact tame_sizeOf _
    | with_reducible exact tame_zeroValue _
    | with_reducible exact tame_load _
    | with_reducible exact tame_store _ _
    | with_reducible exact tame_shape _
    | with_reducible exact tame_frozen _
    | with_reducible exact tame_getObj _
    | with_reducible exact tame_newObj _
    | with_reducible exact tame_choose _
    | with_reducible exact tame_noRoom
    | with_reducible exact tame_stuck _
    | with_reducible exact tame_unsupported _
    | with_reducible exact tame_runtimePanic _
    | with_reducible exact tame_boundsPanic _ _ _ _
    | with_reducible exact tame_sureAddr _
    | with_reducible exact tame_loadVar _ _
    | ((with_reducible refine tame_program ?_ ?_); next => rfl)
    | with_reducible refine Tame.any ?_ (fun _ => ?_)
    | with_reducible refine tame_ite ?_ ?_
    | with_reducible split
    | with_reducible dsimp only
    | exact trivial

theorem tame_storeAt (t : TypeId) (a v : Value) : Tame P (twin P F f') Any (Instr.storeAt t a v) := by
  unfold Instr.storeAt
  repeat' first
    | contradiction
    | with_reducible exact tame_pure trivial
    | with_reducible exact tame_underlying _
    | with_reducible exact tame_typeInfo _
    | with_reducible exact tame_sizeOf _
    | with_reducible exact tame_zeroValue _
    | with_reducible exact tame_load _
    | with_reducible exact tame_store _ _
    | with_reducible exact tame_shape _
    | with_reducible exact tame_frozen _
    | with_reducible exact tame_getObj _
    | with_reducible exact tame_newObj _
    | with_reducible exact tame_choose _
    | with_reducible exact tame_noRoom
    | with_reducible exact tame_stuck _
    | with_reducible exact tame_unsupported _
    | with_reducible exact tame_runtimePanic _
    | with_reducible exact tame_boundsPanic _ _ _ _
    | with_reducible exact tame_sureAddr _
    | with_reducible exact tame_storeVar _ _ _
    | ((with_reducible refine tame_program ?_ ?_); next => rfl)
    | with_reducible refine Tame.any ?_ (fun _ => ?_)
    | with_reducible refine tame_ite ?_ ?_
    | with_reducible split
    | with_reducible dsimp only
    | exact trivial

theorem tame_indexAt (t : TypeId) (x i : Value) : Tame P (twin P F f') Any (Instr.indexAt t x i) := by
  unfold Instr.indexAt
  repeat' first
    | contradiction
    | with_reducible exact tame_pure trivial
    | with_reducible exact tame_underlying _
    | with_reducible exact tame_typeInfo _
    | with_reducible exact tame_sizeOf _
    | with_reducible exact tame_zeroValue _
    | with_reducible exact tame_load _
    | with_reducible exact tame_store _ _
    | with_reducible exact tame_shape _
    | with_reducible exact tame_frozen _
    | with_reducible exact tame_getObj _
    | with_reducible exact tame_newObj _
    | with_reducible exact tame_choose _
    | with_reducible exact tame_noRoom
    | with_reducible exact tame_stuck _
    | with_reducible exact tame_unsupported _
    | with_reducible exact tame_runtimePanic _
    | with_reducible exact tame_boundsPanic _ _ _ _
    | with_reducible exact tame_asIntOf _
    | with_reducible exact tame_sureAddr _
    | ((with_reducible refine tame_program ?_ ?_); next => rfl)
    | with_reducible refine Tame.any ?_ (fun _ => ?_)
    | with_reducible refine tame_ite ?_ ?_
    | with_reducible split
    | with_reducible dsimp only
    | exact trivial

theorem tame_sliceBound (x : Value) (y : Nat) (c : BoundsCode) : Tame P (twin P F f') Any (Instr.sliceBound x y c) := by
  unfold Instr.sliceBound
  repeat' first
    | contradiction
    | with_reducible exact tame_pure trivial
    | with_reducible exact tame_underlying _
    | with_reducible exact tame_typeInfo _
    | with_reducible exact tame_sizeOf _
    | with_reducible exact tame_zeroValue _
    | with_reducible exact tame_load _
    | with_reducible exact tame_store _ _
    | with_reducible exact tame_shape _
    | with_reducible exact tame_frozen _
    | with_reducible exact tame_getObj _
    | with_reducible exact tame_newObj _
    | with_reducible exact tame_choose _
    | with_reducible exact tame_noRoom
    | with_reducible exact tame_stuck _
    | with_reducible exact tame_unsupported _
    | with_reducible exact tame_runtimePanic _
    | with_reducible exact tame_boundsPanic _ _ _ _
    | with_reducible exact tame_asIntOf _
    | ((with_reducible refine tame_program ?_ ?_); next => rfl)
    | with_reducible refine Tame.any ?_ (fun _ => ?_)
    | with_reducible refine tame_ite ?_ ?_
    | with_reducible split
    | with_reducible dsimp only
    | exact trivial

theorem tame_sliceBounds (b : Bool) (l c : Nat) (lo hi mx : Option Value) : Tame P (twin P F f') Any (Instr.sliceBounds b l c lo hi mx) := by
  unfold Instr.sliceBounds
  repeat' first
    | contradiction
    | with_reducible exact tame_pure trivial
    | with_reducible exact tame_underlying _
    | with_reducible exact tame_typeInfo _
    | with_reducible exact tame_sizeOf _
    | with_reducible exact tame_zeroValue _
    | with_reducible exact tame_load _
    | with_reducible exact tame_store _ _
    | with_reducible exact tame_shape _
    | with_reducible exact tame_frozen _
    | with_reducible exact tame_getObj _
    | with_reducible exact tame_newObj _
    | with_reducible exact tame_choose _
    | with_reducible exact tame_noRoom
    | with_reducible exact tame_stuck _
    | with_reducible exact tame_unsupported _
    | with_reducible exact tame_runtimePanic _
    | with_reducible exact tame_boundsPanic _ _ _ _
    | with_reducible exact tame_sliceBound _ _ _
    | ((with_reducible refine tame_program ?_ ?_); next => rfl)
    | with_reducible refine Tame.any ?_ (fun _ => ?_)
    | with_reducible refine tame_ite ?_ ?_
    | with_reducible split
    | with_reducible dsimp only
    | exact trivial

theorem tame_slice (t : TypeId) (x : Value) (lo hi mx : Option Value) : Tame P (twin P F f') Any (Instr.slice t x lo hi mx) := by
  unfold Instr.slice
  repeat' first
    | contradiction
    | with_reducible exact tame_pure trivial
    | with_reducible exact tame_underlying _
    | with_reducible exact tame_typeInfo _
    | with_reducible exact tame_sizeOf _
    | with_reducible exact tame_zeroValue _
    | with_reducible exact tame_load _
    | with_reducible exact tame_store _ _
    | with_reducible exact tame_shape _
    | with_reducible exact tame_frozen _
    | with_reducible exact tame_getObj _
    | with_reducible exact tame_newObj _
    | with_reducible exact tame_choose _
    | with_reducible exact tame_noRoom
    | with_reducible exact tame_stuck _
    | with_reducible exact tame_unsupported _
    | with_reducible exact tame_runtimePanic _
    | with_reducible exact tame_boundsPanic _ _ _ _
    | with_reducible exact tame_sliceBounds _ _ _ _ _ _
    | with_reducible exact tame_asAddr _
    | ((with_reducible refine tame_program ?_ ?_); next => rfl)
    | with_reducible refine Tame.any ?_ (fun _ => ?_)
    | with_reducible refine tame_ite ?_ ?_
    | with_reducible split
    | with_reducible dsimp only
    | exact trivial

theorem tame_sliceAt (t : TypeId) (x : Value) (lo hi mx : Option Value) : Tame P (twin P F f') Any (Instr.sliceAt t x lo hi mx) := by
  unfold Instr.sliceAt
  repeat' first
    | contradiction
    | with_reducible exact tame_pure trivial
    | with_reducible exact tame_underlying _
    | with_reducible exact tame_typeInfo _
    | with_reducible exact tame_sizeOf _
    | with_reducible exact tame_zeroValue _
    | with_reducible exact tame_load _
    | with_reducible exact tame_store _ _
    | with_reducible exact tame_shape _
    | with_reducible exact tame_frozen _
    | with_reducible exact tame_getObj _
    | with_reducible exact tame_newObj _
    | with_reducible exact tame_choose _
    | with_reducible exact tame_noRoom
    | with_reducible exact tame_stuck _
    | with_reducible exact tame_unsupported _
    | with_reducible exact tame_runtimePanic _
    | with_reducible exact tame_boundsPanic _ _ _ _
    | with_reducible exact tame_sliceBounds _ _ _ _ _ _
    | with_reducible exact tame_sureAddr _
    | with_reducible exact tame_slice _ _ _ _ _
    | ((with_reducible refine tame_program ?_ ?_); next => rfl)
    | with_reducible refine Tame.any ?_ (fun _ => ?_)
    | with_reducible refine tame_ite ?_ ?_
    | with_reducible split
    | with_reducible dsimp only
    | exact trivial

theorem tame_askRoom (n : Nat) : Tame P (twin P F f') Any (askRoom n) := by
  unfold askRoom
  repeat' first
    | contradiction
    | with_reducible exact tame_pure trivial
    | with_reducible exact tame_underlying _
    | with_reducible exact tame_typeInfo _
    | with_reducible exact tame_sizeOf _
    | with_reducible exact tame_zeroValue _
    | with_reducible exact tame_load _
    | with_reducible exact tame_store _ _
    | with_reducible exact tame_shape _
    | with_reducible exact tame_frozen _
    | with_reducible exact tame_getObj _
    | with_reducible exact tame_newObj _
    | with_reducible exact tame_choose _
    | with_reducible exact tame_noRoom
    | with_reducible exact tame_stuck _
    | with_reducible exact tame_unsupported _
    | with_reducible exact tame_runtimePanic _
    | with_reducible exact tame_boundsPanic _ _ _ _
    | ((with_reducible refine tame_program ?_ ?_); next => rfl)
    | with_reducible refine Tame.any ?_ (fun _ => ?_)
    | with_reducible refine tame_ite ?_ ?_
    | with_reducible split
    | with_reducible dsimp only
    | exact trivial

theorem tame_makeSlice (t : TypeId) (l c : Value) : Tame P (twin P F f') Any (Instr.makeSlice t l c) := by
  unfold Instr.makeSlice
  repeat' first
    | contradiction
    | with_reducible exact tame_pure trivial
    | with_reducible exact tame_underlying _
    | with_reducible exact tame_typeInfo _
    | with_reducible exact tame_sizeOf _
    | with_reducible exact tame_zeroValue _
    | with_reducible exact tame_load _
    | with_reducible exact tame_store _ _
    | with_reducible exact tame_shape _
    | with_reducible exact tame_frozen _
    | with_reducible exact tame_getObj _
    | with_reducible exact tame_newObj _
    | with_reducible exact tame_choose _
    | with_reducible exact tame_noRoom
    | with_reducible exact tame_stuck _
    | with_reducible exact tame_unsupported _
    | with_reducible exact tame_runtimePanic _
    | with_reducible exact tame_boundsPanic _ _ _ _
    | with_reducible exact tame_asInt _
    | with_reducible exact tame_askRoom _
    | with_reducible exact tame_newRow _ _
    | ((with_reducible refine tame_program ?_ ?_); next => rfl)
    | with_reducible refine Tame.any ?_ (fun _ => ?_)
    | with_reducible refine tame_ite ?_ ?_
    | with_reducible split
    | with_reducible dsimp only
    | exact trivial

theorem tame_buildSlice (t : TypeId) (n : Nat) (ps : Array (Nat × Value)) : Tame P (twin P F f') Any (Instr.buildSlice t n ps) := by
  unfold Instr.buildSlice
  repeat' first
    | contradiction
    | with_reducible exact tame_pure trivial
    | with_reducible exact tame_underlying _
    | with_reducible exact tame_typeInfo _
    | with_reducible exact tame_sizeOf _
    | with_reducible exact tame_zeroValue _
    | with_reducible exact tame_load _
    | with_reducible exact tame_store _ _
    | with_reducible exact tame_shape _
    | with_reducible exact tame_frozen _
    | with_reducible exact tame_getObj _
    | with_reducible exact tame_newObj _
    | with_reducible exact tame_choose _
    | with_reducible exact tame_noRoom
    | with_reducible exact tame_stuck _
    | with_reducible exact tame_unsupported _
    | with_reducible exact tame_runtimePanic _
    | with_reducible exact tame_boundsPanic _ _ _ _
    | with_reducible exact tame_newRow _ _
    | ((with_reducible refine tame_program ?_ ?_); next => rfl)
    | with_reducible refine Tame.any ?_ (fun _ => ?_)
    | with_reducible refine tame_ite ?_ ?_
    | with_reducible split
    | with_reducible dsimp only
    | exact trivial

theorem tame_alloc (t : TypeId) (b : Bool) (v : Value) : Tame P (twin P F f') Any (Instr.alloc t b v) := by
  unfold Instr.alloc
  repeat' first
    | contradiction
    | with_reducible exact tame_pure trivial
    | with_reducible exact tame_underlying _
    | with_reducible exact tame_typeInfo _
    | with_reducible exact tame_sizeOf _
    | with_reducible exact tame_zeroValue _
    | with_reducible exact tame_load _
    | with_reducible exact tame_store _ _
    | with_reducible exact tame_shape _
    | with_reducible exact tame_frozen _
    | with_reducible exact tame_getObj _
    | with_reducible exact tame_newObj _
    | with_reducible exact tame_choose _
    | with_reducible exact tame_noRoom
    | with_reducible exact tame_stuck _
    | with_reducible exact tame_unsupported _
    | with_reducible exact tame_runtimePanic _
    | with_reducible exact tame_boundsPanic _ _ _ _
    | with_reducible exact tame_storeVar _ _ _
    | with_reducible exact tame_newVar _ _
    | ((with_reducible refine tame_program ?_ ?_); next => rfl)
    | with_reducible refine Tame.any ?_ (fun _ => ?_)
    | with_reducible refine tame_ite ?_ ?_
    | with_reducible split
    | with_reducible dsimp only
    | exact trivial

theorem tame_box (t : TypeId) (v : Value) : Tame P (twin P F f') Any (Instr.box t v) := by
  unfold Instr.box
  repeat' first
    | contradiction
    | with_reducible exact tame_pure trivial
    | with_reducible exact tame_underlying _
    | with_reducible exact tame_typeInfo _
    | with_reducible exact tame_sizeOf _
    | with_reducible exact tame_zeroValue _
    | with_reducible exact tame_load _
    | with_reducible exact tame_store _ _
    | with_reducible exact tame_shape _
    | with_reducible exact tame_frozen _
    | with_reducible exact tame_getObj _
    | with_reducible exact tame_newObj _
    | with_reducible exact tame_choose _
    | with_reducible exact tame_noRoom
    | with_reducible exact tame_stuck _
    | with_reducible exact tame_unsupported _
    | with_reducible exact tame_runtimePanic _
    | with_reducible exact tame_boundsPanic _ _ _ _
    | with_reducible exact tame_newVar _ _
    | ((with_reducible refine tame_program ?_ ?_); next => rfl)
    | with_reducible refine Tame.any ?_ (fun _ => ?_)
    | with_reducible refine tame_ite ?_ ?_
    | with_reducible split
    | with_reducible dsimp only
    | exact trivial

theorem tame_extract (v : Value) (i : Nat) : Tame P (twin P F f') Any (Instr.extract v i) := by
  unfold Instr.extract
  repeat' first
    | contradiction
    | with_reducible exact tame_pure trivial
    | with_reducible exact tame_underlying _
    | with_reducible exact tame_typeInfo _
    | with_reducible exact tame_sizeOf _
    | with_reducible exact tame_zeroValue _
    | with_reducible exact tame_load _
    | with_reducible exact tame_store _ _
    | with_reducible exact tame_shape _
    | with_reducible exact tame_frozen _
    | with_reducible exact tame_getObj _
    | with_reducible exact tame_newObj _
    | with_reducible exact tame_choose _
    | with_reducible exact tame_noRoom
    | with_reducible exact tame_stuck _
    | with_reducible exact tame_unsupported _
    | with_reducible exact tame_runtimePanic _
    | with_reducible exact tame_boundsPanic _ _ _ _
    | ((with_reducible refine tame_program ?_ ?_); next => rfl)
    | with_reducible refine Tame.any ?_ (fun _ => ?_)
    | with_reducible refine tame_ite ?_ ?_
    | with_reducible split
    | with_reducible dsimp only
    | exact trivial

theorem tame_unary (op : UnOp) (v : Value) : Tame P (twin P F f') Any (Op.unary op v) := by
  unfold Op.unary
  repeat' first
    | contradiction
    | with_reducible exact tame_pure trivial
    | with_reducible exact tame_underlying _
    | with_reducible exact tame_typeInfo _
    | with_reducible exact tame_sizeOf _
    | with_reducible exact tame_zeroValue _
    | with_reducible exact tame_load _
    | with_reducible exact tame_store _ _
    | with_reducible exact tame_shape _
    | with_reducible exact tame_frozen _
    | with_reducible exact tame_getObj _
    | with_reducible exact tame_newObj _
    | with_reducible exact tame_choose _
    | with_reducible exact tame_noRoom
    | with_reducible exact tame_stuck _
    | with_reducible exact tame_unsupported _
    | with_reducible exact tame_runtimePanic _
    | with_reducible exact tame_boundsPanic _ _ _ _
    | with_reducible exact tame_intArith _ _ _ _
    | with_reducible exact tame_intBits _ _ _ _
    | ((with_reducible refine tame_program ?_ ?_); next => rfl)
    | with_reducible refine Tame.any ?_ (fun _ => ?_)
    | with_reducible refine tame_ite ?_ ?_
    | with_reducible split
    | with_reducible dsimp only
    | exact trivial

theorem tame_holdsCells (a : Addr) (n : Nat) : Tame P (twin P F f') Any (Builtin.holdsCells a n) := by
  unfold Builtin.holdsCells
  repeat' first
    | contradiction
    | with_reducible exact tame_pure trivial
    | with_reducible exact tame_underlying _
    | with_reducible exact tame_typeInfo _
    | with_reducible exact tame_sizeOf _
    | with_reducible exact tame_zeroValue _
    | with_reducible exact tame_load _
    | with_reducible exact tame_store _ _
    | with_reducible exact tame_shape _
    | with_reducible exact tame_frozen _
    | with_reducible exact tame_getObj _
    | with_reducible exact tame_newObj _
    | with_reducible exact tame_choose _
    | with_reducible exact tame_noRoom
    | with_reducible exact tame_stuck _
    | with_reducible exact tame_unsupported _
    | with_reducible exact tame_runtimePanic _
    | with_reducible exact tame_boundsPanic _ _ _ _
    | ((with_reducible refine tame_program ?_ ?_); next => rfl)
    | with_reducible refine Tame.any ?_ (fun _ => ?_)
    | with_reducible refine tame_ite ?_ ?_
    | with_reducible split
    | with_reducible dsimp only
    | exact trivial

theorem tame_mayShare (s l n : Nat) (b : Option Addr) (x : Value) : Tame P (twin P F f') Any (Builtin.mayShare s l n b x) := by
  unfold Builtin.mayShare
  repeat' first
    | contradiction
    | with_reducible exact tame_pure trivial
    | with_reducible exact tame_underlying _
    | with_reducible exact tame_typeInfo _
    | with_reducible exact tame_sizeOf _
    | with_reducible exact tame_zeroValue _
    | with_reducible exact tame_load _
    | with_reducible exact tame_store _ _
    | with_reducible exact tame_shape _
    | with_reducible exact tame_frozen _
    | with_reducible exact tame_getObj _
    | with_reducible exact tame_newObj _
    | with_reducible exact tame_choose _
    | with_reducible exact tame_noRoom
    | with_reducible exact tame_stuck _
    | with_reducible exact tame_unsupported _
    | with_reducible exact tame_runtimePanic _
    | with_reducible exact tame_boundsPanic _ _ _ _
    | with_reducible exact tame_holdsCells _ _
    | ((with_reducible refine tame_program ?_ ?_); next => rfl)
    | with_reducible refine Tame.any ?_ (fun _ => ?_)
    | with_reducible refine tame_ite ?_ ?_
    | with_reducible split
    | with_reducible dsimp only
    | exact trivial

theorem tame_lenOf (v : Value) : Tame P (twin P F f') Any (Builtin.lenOf v) := by
  unfold Builtin.lenOf
  repeat' first
    | contradiction
    | with_reducible exact tame_pure trivial
    | with_reducible exact tame_underlying _
    | with_reducible exact tame_typeInfo _
    | with_reducible exact tame_sizeOf _
    | with_reducible exact tame_zeroValue _
    | with_reducible exact tame_load _
    | with_reducible exact tame_store _ _
    | with_reducible exact tame_shape _
    | with_reducible exact tame_frozen _
    | with_reducible exact tame_getObj _
    | with_reducible exact tame_newObj _
    | with_reducible exact tame_choose _
    | with_reducible exact tame_noRoom
    | with_reducible exact tame_stuck _
    | with_reducible exact tame_unsupported _
    | with_reducible exact tame_runtimePanic _
    | with_reducible exact tame_boundsPanic _ _ _ _
    | ((with_reducible refine tame_program ?_ ?_); next => rfl)
    | with_reducible refine Tame.any ?_ (fun _ => ?_)
    | with_reducible refine tame_ite ?_ ?_
    | with_reducible split
    | with_reducible dsimp only
    | exact trivial

theorem tame_firstCells (s n : Nat) (v : Value) : Tame P (twin P F f') Any (Builtin.firstCells s n v) := by
  unfold Builtin.firstCells
  repeat' first
    | contradiction
    | with_reducible exact tame_pure trivial
    | with_reducible exact tame_underlying _
    | with_reducible exact tame_typeInfo _
    | with_reducible exact tame_sizeOf _
    | with_reducible exact tame_zeroValue _
    | with_reducible exact tame_load _
    | with_reducible exact tame_store _ _
    | with_reducible exact tame_shape _
    | with_reducible exact tame_frozen _
    | with_reducible exact tame_getObj _
    | with_reducible exact tame_newObj _
    | with_reducible exact tame_choose _
    | with_reducible exact tame_noRoom
    | with_reducible exact tame_stuck _
    | with_reducible exact tame_unsupported _
    | with_reducible exact tame_runtimePanic _
    | with_reducible exact tame_boundsPanic _ _ _ _
    | with_reducible exact tame_loadCells _ _
    | ((with_reducible refine tame_program ?_ ?_); next => rfl)
    | with_reducible refine Tame.any ?_ (fun _ => ?_)
    | with_reducible refine tame_ite ?_ ?_
    | with_reducible split
    | with_reducible dsimp only
    | exact trivial

theorem tame_append (at_ : Array TypeId) (t : TypeId) (args : Array Value) : Tame P (twin P F f') Any (Builtin.append_ at_ t args) := by
  unfold Builtin.append_
  repeat' first
    | contradiction
    | with_reducible exact tame_pure trivial
    | with_reducible exact tame_underlying _
    | with_reducible exact tame_typeInfo _
    | with_reducible exact tame_sizeOf _
    | with_reducible exact tame_zeroValue _
    | with_reducible exact tame_load _
    | with_reducible exact tame_store _ _
    | with_reducible exact tame_shape _
    | with_reducible exact tame_frozen _
    | with_reducible exact tame_getObj _
    | with_reducible exact tame_newObj _
    | with_reducible exact tame_choose _
    | with_reducible exact tame_noRoom
    | with_reducible exact tame_stuck _
    | with_reducible exact tame_unsupported _
    | with_reducible exact tame_runtimePanic _
    | with_reducible exact tame_boundsPanic _ _ _ _
    | with_reducible exact tame_asInt _
    | with_reducible exact tame_lenOf _
    | with_reducible exact tame_firstCells _ _ _
    | with_reducible exact tame_storeCells _ _ _
    | with_reducible exact tame_mayShare _ _ _ _ _
    | with_reducible exact tame_askRoom _
    | with_reducible exact tame_newRow _ _
    | ((with_reducible refine tame_program ?_ ?_); next => rfl)
    | with_reducible refine Tame.any ?_ (fun _ => ?_)
    | with_reducible refine tame_ite ?_ ?_
    | with_reducible split
    | with_reducible dsimp only
    | exact trivial

theorem tame_len (at_ : Array TypeId) (t : TypeId) (args : Array Value) : Tame P (twin P F f') Any (Builtin.len_ at_ t args) := by
  unfold Builtin.len_
  repeat' first
    | contradiction
    | with_reducible exact tame_pure trivial
    | with_reducible exact tame_underlying _
    | with_reducible exact tame_typeInfo _
    | with_reducible exact tame_sizeOf _
    | with_reducible exact tame_zeroValue _
    | with_reducible exact tame_load _
    | with_reducible exact tame_store _ _
    | with_reducible exact tame_shape _
    | with_reducible exact tame_frozen _
    | with_reducible exact tame_getObj _
    | with_reducible exact tame_newObj _
    | with_reducible exact tame_choose _
    | with_reducible exact tame_noRoom
    | with_reducible exact tame_stuck _
    | with_reducible exact tame_unsupported _
    | with_reducible exact tame_runtimePanic _
    | with_reducible exact tame_boundsPanic _ _ _ _
    | ((with_reducible refine tame_program ?_ ?_); next => rfl)
    | with_reducible refine Tame.any ?_ (fun _ => ?_)
    | with_reducible refine tame_ite ?_ ?_
    | with_reducible split
    | with_reducible dsimp only
    | exact trivial

theorem tame_max2 (x y : Value) : Tame P (twin P F f') Any (Builtin.max2 x y) := by
  unfold Builtin.max2
  repeat' first
    | contradiction
    | with_reducible exact tame_pure trivial
    | with_reducible exact tame_underlying _
    | with_reducible exact tame_typeInfo _
    | with_reducible exact tame_sizeOf _
    | with_reducible exact tame_zeroValue _
    | with_reducible exact tame_load _
    | with_reducible exact tame_store _ _
    | with_reducible exact tame_shape _
    | with_reducible exact tame_frozen _
    | with_reducible exact tame_getObj _
    | with_reducible exact tame_newObj _
    | with_reducible exact tame_choose _
    | with_reducible exact tame_noRoom
    | with_reducible exact tame_stuck _
    | with_reducible exact tame_unsupported _
    | with_reducible exact tame_runtimePanic _
    | with_reducible exact tame_boundsPanic _ _ _ _
    | with_reducible exact tame_asBool _
    | with_reducible exact tame_stringOp _ _ _
    | ((with_reducible refine tame_program ?_ ?_); next => rfl)
    | with_reducible refine Tame.any ?_ (fun _ => ?_)
    | with_reducible refine tame_ite ?_ ?_
    | with_reducible split
    | with_reducible dsimp only
    | exact trivial

theorem tame_min2 (x y : Value) : Tame P (twin P F f') Any (Builtin.min2 x y) := by
  unfold Builtin.min2
  repeat' first
    | contradiction
    | with_reducible exact tame_pure trivial
    | with_reducible exact tame_underlying _
    | with_reducible exact tame_typeInfo _
    | with_reducible exact tame_sizeOf _
    | with_reducible exact tame_zeroValue _
    | with_reducible exact tame_load _
    | with_reducible exact tame_store _ _
    | with_reducible exact tame_shape _
    | with_reducible exact tame_frozen _
    | with_reducible exact tame_getObj _
    | with_reducible exact tame_newObj _
    | with_reducible exact tame_choose _
    | with_reducible exact tame_noRoom
    | with_reducible exact tame_stuck _
    | with_reducible exact tame_unsupported _
    | with_reducible exact tame_runtimePanic _
    | with_reducible exact tame_boundsPanic _ _ _ _
    | with_reducible exact tame_asBool _
    | with_reducible exact tame_stringOp _ _ _
    | ((with_reducible refine tame_program ?_ ?_); next => rfl)
    | with_reducible refine Tame.any ?_ (fun _ => ?_)
    | with_reducible refine tame_ite ?_ ?_
    | with_reducible split
    | with_reducible dsimp only
    | exact trivial

theorem tame_foldlM (g : Value → Value → Sem Value) (hg : ∀ x y, Tame P (twin P F f') Any (g x y)) (l : List Value) : ∀ x, Tame P (twin P F f') Any (l.foldlM g x) := by
  induction l with
  | nil => intro x; exact trivial
  | cons y l ih => intro x; rw [List.foldlM_cons]; exact Tame.any (hg _ _) fun _ => ih _
theorem tame_max (at_ : Array TypeId) (t : TypeId) (args : Array Value) : Tame P (twin P F f') Any (Builtin.max_ at_ t args) := by
  unfold Builtin.max_
  split
  · exact trivial
  · exact tame_foldlM _ (fun x y => tame_max2 x y) _ _
theorem tame_min (at_ : Array TypeId) (t : TypeId) (args : Array Value) : Tame P (twin P F f') Any (Builtin.min_ at_ t args) := by
  unfold Builtin.min_
  split
  · exact trivial
  · exact tame_foldlM _ (fun x y => tame_min2 x y) _ _
/-- A conversion between integers. -/
def intT : Option TypeDesc → Bool
  | some (.int _) => true
  | _ => false

theorem tame_floatToInt (s : FloatKind) (b : Nat) (k : IntKind) : Tame P (twin P F f') Any (Conv.floatToInt s b k) := by
  unfold Conv.floatToInt
  repeat' first
    | contradiction
    | with_reducible exact tame_pure trivial
    | with_reducible exact tame_underlying _
    | with_reducible exact tame_typeInfo _
    | with_reducible exact tame_sizeOf _
    | with_reducible exact tame_zeroValue _
    | with_reducible exact tame_load _
    | with_reducible exact tame_store _ _
    | with_reducible exact tame_shape _
    | with_reducible exact tame_frozen _
    | with_reducible exact tame_getObj _
    | with_reducible exact tame_newObj _
    | with_reducible exact tame_choose _
    | with_reducible exact tame_noRoom
    | with_reducible exact tame_stuck _
    | with_reducible exact tame_unsupported _
    | with_reducible exact tame_runtimePanic _
    | with_reducible exact tame_boundsPanic _ _ _ _
    | ((with_reducible refine tame_program ?_ ?_); next => rfl)
    | with_reducible refine Tame.any ?_ (fun _ => ?_)
    | with_reducible refine tame_ite ?_ ?_
    | with_reducible split
    | with_reducible dsimp only
    | exact trivial

theorem tame_convert (s d : TypeId) (x : Value) (hs : intT (P.underlying s) = true) (hd : intT (P.underlying d) = true) : Tame P (twin P F f') Any (convert s d x) := by
  unfold convert
  refine Tame.bind _ (tame_under s) fun u hu => Tame.bind _ (tame_under d) fun v hv => ?_
  rw [hu] at hs
  rw [hv] at hd
  cases u <;> first | (exact absurd hs Bool.false_ne_true) | skip
  cases v <;> first | (exact absurd hd Bool.false_ne_true) | skip
  cases x <;> first | exact trivial | exact tame_floatToInt _ _ _ | (rename_i a; cases a <;> exact trivial)


end
end Lift
end Go.Proofs.Ytminoelijdpmeaa
