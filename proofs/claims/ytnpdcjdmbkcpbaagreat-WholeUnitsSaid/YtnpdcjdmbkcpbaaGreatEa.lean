/- An evaluator for a run whose slices may have room that is not known: the definitions, printed by a program of mine (mkev.py). No condition. -/
import Derived.Calls
namespace Go.Proofs.YtnpdcjdmbkcpbaaGreat.Ev
open Go

/-- A pure operation of the model. -/
def pureRun {α : Type} : Sem α → Option α
  | .pure a => some a
  | _ => none
/-- A table by numbers. -/
inductive T (α : Type) where
  | lf
  | nd (v : Option α) (l r : T α)
/-- A block: the first cells that are known; or a map. -/
inductive Ob where
  | cells (vs : List Value) (t : TypeId)
  | map (es : List (Value × Value))
structure St where
  heap : T Ob
  next : Nat
/-- Room that is not known: to the block's end. -/
def U : Nat := 9223372036854775808
abbrev Tm := List (Nat × Value)
section
variable {α : Type}
/-- A number, a truth value: worked out before it goes on. -/
noncomputable def forceN (n : Nat) (f : Nat → Option α) : Option α := @Nat.casesOn (fun _ => Option α) n (f 0) fun m => f (Nat.succ m)
noncomputable def forceI (n : Int) (f : Int → Option α) : Option α := @Int.casesOn (fun _ => Option α) n (fun a => forceN a fun a => f (Int.ofNat a)) (fun a => forceN a fun a => f (Int.negSucc a))
noncomputable def forceB (b : Bool) (f : Bool → Option α) : Option α := @Bool.casesOn (fun _ => Option α) b (f false) (f true)
noncomputable def listK {β : Type} (a : Array β) (f : List β → Option α) : Option α := @Array.casesOn β (fun _ => Option α) a f
noncomputable def appK {β : Type} (l r : List β) (f : List β → Option α) : Option α := @List.rec β (fun _ => (List β → Option α) → Option α) (fun f => f r) (fun v _ ih f => ih fun t => f (v :: t)) l f
noncomputable def atK (l : Tm) (k : Nat) (f : Value → Option α) : Option α :=
  @List.rec (Nat × Value) (fun _ => Option α) none (fun p _ ih => (@Bool.rec (fun _ => Option α) (ih) (f p.2) (Nat.beq p.1 k))) l
noncomputable def getK {β : Type} (t : T β) : Nat → (β → Option α) → Option α :=
  @T.rec β (fun _ => Nat → (β → Option α) → Option α) (fun _ _ => none)
    (fun v _ _ gl gr k f => (@Bool.rec (fun _ => Option α) ((@Bool.rec (fun _ => Option α) (gl (Nat.shiftRight k 1) f) (gr (Nat.shiftRight (Nat.sub k 1) 1) f) (Nat.beq (Nat.land k 1) 0))) (@Option.rec β (fun _ => Option α) none f v) (Nat.beq k 0))) t
noncomputable def setK {β : Type} (x : Option β) (n : Nat) : T β → Nat → (T β → Option α) → Option α :=
  @Nat.rec (fun _ => T β → Nat → (T β → Option α) → Option α) (fun t _ f => f t)
    (fun _ ih t k f => @T.casesOn β (fun _ => Option α) t
      (@Bool.rec (fun _ => Option α) ((@Bool.rec (fun _ => Option α) (ih .lf (Nat.shiftRight k 1) fun l => f (.nd none l .lf)) (ih .lf (Nat.shiftRight (Nat.sub k 1) 1) fun r => f (.nd none .lf r)) (Nat.beq (Nat.land k 1) 0))) (f (.nd x .lf .lf)) (Nat.beq k 0))
      (fun v l r => (@Bool.rec (fun _ => Option α) ((@Bool.rec (fun _ => Option α) (ih l (Nat.shiftRight k 1) fun l => f (.nd v l r)) (ih r (Nat.shiftRight (Nat.sub k 1) 1) fun r => f (.nd v l r)) (Nat.beq (Nat.land k 1) 0))) (f (.nd x l r)) (Nat.beq k 0)))) n
noncomputable def putS (s : St) (i : Nat) (o : Ob) (f : St → Option α) : Option α := @St.casesOn (fun _ => Option α) s fun h n => setK (some o) (Nat.succ i) h i fun h => f ⟨h, n⟩
noncomputable def killS (s : St) (i : Nat) (f : St → Option α) : Option α := @St.casesOn (fun _ => Option α) s fun h n => setK none (Nat.succ i) h i fun h => f ⟨h, n⟩
noncomputable def newS (s : St) (o : Ob) (f : Nat → St → Option α) : Option α := @St.casesOn (fun _ => Option α) s fun h n => setK (some o) (Nat.succ n) h n fun h => forceN (Nat.succ n) fun m => f n ⟨h, m⟩
noncomputable def nthK {β : Type} (l : List β) : Nat → (β → Option α) → Option α :=
  @List.rec β (fun _ => Nat → (β → Option α) → Option α) (fun _ _ => none) (fun v _ ih n f => (@Bool.rec (fun _ => Option α) (ih (Nat.sub n 1) f) (f v) (Nat.beq n 0))) l
noncomputable def dropK {β : Type} (l : List β) : Nat → (List β → Option α) → Option α :=
  @List.rec β (fun _ => Nat → (List β → Option α) → Option α) (fun n f => (@Bool.rec (fun _ => Option α) (none) (f []) (Nat.beq n 0))) (fun v l ih n f => (@Bool.rec (fun _ => Option α) (ih (Nat.sub n 1) f) (f (v :: l)) (Nat.beq n 0))) l
noncomputable def takeK {β : Type} (l : List β) : Nat → (List β → Option α) → Option α :=
  @List.rec β (fun _ => Nat → (List β → Option α) → Option α) (fun n f => (@Bool.rec (fun _ => Option α) (none) (f []) (Nat.beq n 0))) (fun v _ ih n f => (@Bool.rec (fun _ => Option α) (ih (Nat.sub n 1) fun r => f (v :: r)) (f []) (Nat.beq n 0))) l
/-- The cells ys in the place of those of a list from a number on. -/
noncomputable def writeK (l : List Value) : Nat → List Value → (List Value → Option α) → Option α :=
  @List.rec Value (fun _ => Nat → List Value → (List Value → Option α) → Option α)
    (fun n ys f => @List.casesOn Value (fun _ => Option α) ys (@Bool.rec (fun _ => Option α) (none) (f []) (Nat.beq n 0)) (fun _ _ => none))
    (fun v l ih n ys f => (@Bool.rec (fun _ => Option α) (ih (Nat.sub n 1) ys fun r => f (v :: r)) (@List.casesOn Value (fun _ => Option α) ys (f (v :: l)) (fun y yt => ih 0 yt fun r => f (y :: r))) (Nat.beq n 0))) l
noncomputable def cellsK (s : St) (i : Nat) (f : List Value → TypeId → Option α) : Option α :=
  @St.casesOn (fun _ => Option α) s fun h _ => getK h i fun ob => @Ob.casesOn (fun _ => Option α) ob f (fun _ => none)
noncomputable def mapK (s : St) (i : Nat) (f : List (Value × Value) → Option α) : Option α :=
  @St.casesOn (fun _ => Option α) s fun h _ => getK h i fun ob => @Ob.casesOn (fun _ => Option α) ob (fun _ _ => none) f
noncomputable def readK (s : St) (i off n : Nat) (f : List Value → Option α) : Option α :=
  cellsK s i fun vs _ => dropK vs off fun l => takeK l n f
noncomputable def storeS (s : St) (i off : Nat) (ys : List Value) (f : St → Option α) : Option α :=
  cellsK s i fun vs t => writeK vs off ys fun l => putS s i (.cells l t) f
/-- What a value is. -/
noncomputable def intK (v : Value) (f : IntKind → Int → Option α) : Option α := (@Value.casesOn (fun _ => Option α) v (fun _ => none) (f) (fun _ _ => none) (fun _ _ _ => none) (fun _ => none) (fun _ => none) (fun _ _ _ => none) (fun _ => none) (fun _ => none) (fun _ _ _ => none) none (fun _ _ => none) none (fun _ => none) (fun _ => none))
noncomputable def natK (v : Value) (f : Nat → Option α) : Option α := intK v fun _ n => @Int.casesOn (fun _ => Option α) n f (fun _ => none)
noncomputable def boolK (v : Value) (a b : Option α) : Option α := (@Value.casesOn (fun _ => Option α) v (fun c => (@Bool.rec (fun _ => Option α) (b) (a) (c))) (fun _ _ => none) (fun _ _ => none) (fun _ _ _ => none) (fun _ => none) (fun _ => none) (fun _ _ _ => none) (fun _ => none) (fun _ => none) (fun _ _ _ => none) none (fun _ _ => none) none (fun _ => none) (fun _ => none))
noncomputable def ptrK (v : Value) (f : Addr → Option α) : Option α := (@Value.casesOn (fun _ => Option α) v (fun _ => none) (fun _ _ => none) (fun _ _ => none) (fun _ _ _ => none) (fun _ => none) (fun p => @Option.casesOn Addr (fun _ => Option α) p none f) (fun _ _ _ => none) (fun _ => none) (fun _ => none) (fun _ _ _ => none) none (fun _ _ => none) none (fun _ => none) (fun _ => none))
noncomputable def slK (v : Value) (e : Option α) (f : Addr → Nat → Nat → Option α) : Option α := (@Value.casesOn (fun _ => Option α) v (fun _ => none) (fun _ _ => none) (fun _ _ => none) (fun _ _ _ => none) (fun _ => none) (fun _ => none) (fun p n c => @Option.casesOn Addr (fun _ => Option α) p (@Bool.rec (fun _ => Option α) (none) ((@Bool.rec (fun _ => Option α) (none) (e) (Nat.beq c 0))) (Nat.beq n 0)) (fun a => @Addr.casesOn (fun _ => Option α) a fun b o sp => @Option.casesOn Nat (fun _ => Option α) sp (f ⟨b, o, none⟩ n c) (fun _ => none))) (fun _ => none) (fun _ => none) (fun _ _ _ => none) none (fun _ _ => none) none (fun _ => none) (fun _ => none))
/-- The same, and an empty slice of which no place is known is as one that is nil. -/
noncomputable def slE (v : Value) (e : Option α) (f : Addr → Nat → Nat → Option α) : Option α := (@Value.casesOn (fun _ => Option α) v (fun _ => none) (fun _ _ => none) (fun _ _ => none) (fun _ _ _ => none) (fun _ => none) (fun _ => none) (fun p n c => @Option.casesOn Addr (fun _ => Option α) p (@Bool.rec (fun _ => Option α) (none) ((@Bool.rec (fun _ => Option α) (none) (e) (Nat.beq c 0))) (Nat.beq n 0)) (fun a => @Addr.casesOn (fun _ => Option α) a fun b o sp => @Option.casesOn Nat (fun _ => Option α) sp (f ⟨b, o, none⟩ n c) (fun _ => (@Bool.rec (fun _ => Option α) (none) (e) (Nat.beq n 0))))) (fun _ => none) (fun _ => none) (fun _ _ _ => none) none (fun _ _ => none) none (fun _ => none) (fun _ => none))
/-- An empty slice somewhere. -/
def emptyV : Value := .slice (some ⟨0, 0, some 0⟩) 0 0
noncomputable def refK (v : Value) (f : Nat → Option α) : Option α := (@Value.casesOn (fun _ => Option α) v (fun _ => none) (fun _ _ => none) (fun _ _ => none) (fun _ _ _ => none) (fun _ => none) (fun _ => none) (fun _ _ _ => none) (fun p => @Option.casesOn Nat (fun _ => Option α) p none f) (fun _ => none) (fun _ _ _ => none) none (fun _ _ => none) none (fun _ => none) (fun _ => none))
noncomputable def tupK (v : Value) (f : List Value → Option α) : Option α := (@Value.casesOn (fun _ => Option α) v (fun _ => none) (fun _ _ => none) (fun _ _ => none) (fun _ _ _ => none) (fun _ => none) (fun _ => none) (fun _ _ _ => none) (fun _ => none) (fun _ => none) (fun _ _ _ => none) none (fun _ _ => none) none (fun _ => none) (fun a => listK a f))
noncomputable def funK (v : Value) (f : FuncId → List Value → Option α) : Option α :=
  (@Value.casesOn (fun _ => Option α) v (fun _ => none) (fun _ _ => none) (fun _ _ => none) (fun _ _ _ => none) (fun _ => none) (fun _ => none) (fun _ _ _ => none) (fun _ => none) (fun _ => none) (fun fn first caps => listK first fun l => @List.casesOn Value (fun _ => Option α) l (@Fn.casesOn (fun _ => Option α) fn (fun g => listK caps fun c => f g c) (fun _ => none) (fun _ _ => none) (fun _ _ _ _ => none) (fun _ => none)) (fun _ _ => none)) none (fun _ _ => none) none (fun _ => none) (fun _ => none))
noncomputable def cellsV (v : Value) (f : List Value → Option α) : Option α := (@Value.casesOn (fun _ => Option α) v (fun _ => (f [v])) (fun _ _ => (f [v])) (fun _ _ => (f [v])) (fun _ _ _ => (f [v])) (fun _ => (f [v])) (fun _ => (f [v])) (fun _ _ _ => (f [v])) (fun _ => (f [v])) (fun _ => (f [v])) (fun _ _ _ => (f [v])) (f [v]) (fun _ _ => (f [v])) (f [v]) (fun a => listK a f) (fun _ => none))
end

end Go.Proofs.YtnpdcjdmbkcpbaaGreat.Ev
