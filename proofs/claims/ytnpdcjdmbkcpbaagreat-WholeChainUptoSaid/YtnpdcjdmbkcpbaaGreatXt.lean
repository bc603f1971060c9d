/- An evaluator for a run whose slices may have room that is not known: operations and code, printed by a program of mine (mkev.py). No condition. -/
import Derived.Test.YtnpdcjdmbkcpbaaGreatXs
set_option linter.unusedVariables false
set_option linter.unusedSimpArgs false
namespace Go.Proofs.YtnpdcjdmbkcpbaaGreat.Ev
open Go
section
variable {α:Type}
noncomputable def constK (v:Value) (f:Option α):Option α:=
  (@Value.casesOn (fun _=>Option α) v (fun _=>f) (fun _ _=>f) (fun _ _=>none) (fun _ _ _=>none) (fun _=>f) (fun p=>@Option.casesOn Addr (fun _=>Option α) p f (fun _=>none)) (fun p n c=>@Option.casesOn Addr (fun _=>Option α) p (@Bool.rec (fun _=>Option α) (none) ((@Bool.rec (fun _=>Option α) (none) (f) (Nat.beq c 0))) (Nat.beq n 0)) (fun _=>none)) (fun p=>@Option.casesOn Nat (fun _=>Option α) p f (fun _=>none)) (fun p=>@Option.casesOn Nat (fun _=>Option α) p f (fun _=>none)) (fun _ _ _=>none) (f) (fun _ _=>none) none (fun _=>none) (fun _=>none))
noncomputable def evK (x:Operand) (tm:Tm) (f:Value→Option α):Option α:=
  @Operand.casesOn (fun _=>Option α) x (fun t=>atK tm t f) (fun v=>constK v (f v)) (fun _=>none) (fun g=>f (.func (.func g) #[] #[]))
noncomputable def evLK (l:List Operand) (tm:Tm):(List Value→Option α)→Option α:=
  @List.rec Operand (fun _=>(List Value→Option α)→Option α) (fun f=>f []) (fun x _ ih f=>evK x tm fun v=>ih fun r=>f (v :: r)) l
noncomputable def evQK (x:Option Operand) (tm:Tm) (f:Option Value→Option α):Option α:=
  @Option.casesOn Operand (fun _=>Option α) x (f none) fun x=>evK x tm fun v=>f (some v)
noncomputable def limK (k:IntKind):Nat:=@IntKind.casesOn (fun _=>Nat) k 128 32768 2147483648 9223372036854775808 256 65536 4294967296 18446744073709551616
def kn (k:IntKind):Nat:=@IntKind.casesOn (fun _=>Nat) k 0 1 2 3 4 5 6 7
noncomputable def wrapQ (k:IntKind) (n:Int):Int:=@Int.casesOn (fun _=>Int) n (fun m=>(@Bool.rec (fun _=>Int) (k.wrap n) (Int.ofNat m) (Nat.blt m (limK k)))) (fun _=>k.wrap n)
noncomputable def int2 {β:Type} (x y:Int) (f:Nat→Nat→β) (d:β):β:=@Int.casesOn (fun _=>β) x (fun a=>@Int.casesOn (fun _=>β) y (fun b=>f a b) (fun _=>d)) (fun _=>d)
noncomputable def addQ (x y:Int):Int:=int2 x y (fun a b=>Int.ofNat (Nat.add a b)) (x + y)
noncomputable def subQ (x y:Int):Int:=int2 x y (fun a b=>(@Bool.rec (fun _=>Int) (x - y) (Int.ofNat (Nat.sub a b)) (Nat.ble b a))) (x - y)
noncomputable def mulQ (x y:Int):Int:=int2 x y (fun a b=>Int.ofNat (Nat.mul a b)) (x * y)
noncomputable def eqQ (x y:Int):Bool:=int2 x y (fun a b=>Nat.beq a b) (x == y)
noncomputable def ltQ (x y:Int):Bool:=int2 x y (fun a b=>Nat.blt a b) (decide (x < y))
noncomputable def leQ (x y:Int):Bool:=int2 x y (fun a b=>Nat.ble a b) (decide (x≤y))
noncomputable def bitQ (op:BinOp) (k:IntKind) (x y:Int) (f:Value→Option α):Option α:=match pureRun (Op.intBits op k x y) with | some v=>intK v fun k n=>forceI n fun n=>f (.int k n) | none=>none
noncomputable def minQ (b m:Nat):Nat:=(@Bool.rec (fun _=>Nat) (m) (b) (Nat.ble b m))
noncomputable def shlQ (k:IntKind) (x y:Int) (f:Value→Option α):Option α:=@Int.casesOn (fun _=>Option α) y (fun b=>forceI (@Int.casesOn (fun _=>Int) x (fun a=>wrapQ k (Int.ofNat (Nat.mul a (Nat.pow 2 (minQ b k.bits))))) (fun _=>k.wrap (x * 2 ^ minQ b k.bits))) fun n=>f (.int k n)) (fun _=>none)
noncomputable def shrQ (k:IntKind) (x y:Int) (f:Value→Option α):Option α:=@Int.casesOn (fun _=>Option α) y (fun b=>forceI (@Int.casesOn (fun _=>Int) x (fun a=>Int.ofNat (Nat.div a (Nat.pow 2 (minQ b k.bits)))) (fun _=>x.fdiv (2 ^ minQ b k.bits))) fun n=>f (.int k n)) (fun _=>none)
noncomputable def quoQ (k:IntKind) (x y:Int) (f:Value→Option α):Option α:=int2 x y (fun a b=>(@Bool.rec (fun _=>Option α) (forceI (wrapQ k (Int.ofNat (Nat.div a b))) fun n=>f (.int k n)) (none) (Nat.beq b 0))) (@Bool.rec (fun _=>Option α) (forceI (k.wrap (x.tdiv y)) fun n=>f (.int k n)) (none) (y == 0))
noncomputable def remQ (k:IntKind) (x y:Int) (f:Value→Option α):Option α:=int2 x y (fun a b=>(@Bool.rec (fun _=>Option α) (forceI (Int.ofNat (Nat.mod a b)) fun n=>f (.int k n)) (none) (Nat.beq b 0))) (@Bool.rec (fun _=>Option α) (forceI (x.tmod y) fun n=>f (.int k n)) (none) (y == 0))
noncomputable def same (j k:IntKind) (f:Option α):Option α:=(@Bool.rec (fun _=>Option α) (none) (f) (Nat.beq (kn j) (kn k)))
noncomputable def binI (op:BinOp) (j:IntKind) (x:Int) (k:IntKind) (y:Int) (f:Value→Option α):Option α:=
  @BinOp.casesOn (fun _=>Option α) op
    (same j k (forceI (wrapQ j (addQ x y)) fun n=>f (.int j n))) (same j k (forceI (wrapQ j (subQ x y)) fun n=>f (.int j n))) (same j k (forceI (wrapQ j (mulQ x y)) fun n=>f (.int j n)))
    (same j k (quoQ j x y f)) (same j k (remQ j x y f)) (same j k (bitQ .and j x y f)) (same j k (bitQ .or j x y f)) (same j k (bitQ .xor j x y f)) (shlQ j x y f) (shrQ j x y f) (same j k (bitQ .andNot j x y f))
    (same j k (forceB (eqQ x y) fun b=>f (.bool b))) (same j k (forceB (!(eqQ x y)) fun b=>f (.bool b))) (same j k (forceB (ltQ x y) fun b=>f (.bool b))) (same j k (forceB (leQ x y) fun b=>f (.bool b))) (same j k (forceB (ltQ y x) fun b=>f (.bool b))) (same j k (forceB (leQ y x) fun b=>f (.bool b)))
noncomputable def sortK (t:TypeId) (c:Nat) (f:Option α):Option α:=(@Bool.rec (fun _=>Option α) (none) (f) (Nat.beq (sortT t) c))
noncomputable def oneK (v:Value) (f:Option α):Option α:=(@Value.casesOn (fun _=>Option α) v (fun _=>f) (fun _ _=>f) (fun _ _=>f) (fun _ _ _=>f) (fun _=>f) (fun _=>f) (fun _ _ _=>f) (fun _=>f) (fun _=>f) (fun _ _ _=>f) f (fun _ _=>f) f (fun _=>none) (fun _=>none))
noncomputable def noTup (v:Value) (f:Option α):Option α:=(@Value.casesOn (fun _=>Option α) v (fun _=>f) (fun _ _=>f) (fun _ _=>f) (fun _ _ _=>f) (fun _=>f) (fun _=>f) (fun _ _ _=>f) (fun _=>f) (fun _=>f) (fun _ _ _=>f) f (fun _ _=>f) f (fun _=>f) (fun _=>none))
noncomputable def onesK (l:List Value) (f:Option α):Option α:=@List.rec Value (fun _=>Option α) f (fun v _ ih=>oneK v ih) l
noncomputable def eqL (l:List Value):List Value→(Bool→Option α)→Option α:=
  @List.rec Value (fun _=>List Value→(Bool→Option α)→Option α)
    (fun m f=>@List.casesOn Value (fun _=>Option α) m (f true) (fun _ _=>none))
    (fun v _ ih m f=>@List.casesOn Value (fun _=>Option α) m none (fun w mt=>intK v fun j x=>intK w fun k y=>same j k (@Bool.rec (fun _=>Option α) (f false) (ih mt f) (eqQ x y)))) l
noncomputable def eqB (t:TypeId) (a b:Value) (f:Bool→Option α):Option α:=
  (@Value.casesOn (fun _=>Option α) a (fun c=>sortK t 1 (boolK b (forceB c f) (forceB (!c) f))) (fun _ _=>none) (fun _ _=>none) (fun _ _ _=>none) (fun _=>none) (fun p=>sortK t 4 (@Option.casesOn Addr (fun _=>Option α) p ((@Value.casesOn (fun _=>Option α) b (fun _=>none) (fun _ _=>none) (fun _ _=>none) (fun _ _ _=>none) (fun _=>none) (fun q=>forceB q.isNone f) (fun _ _ _=>none) (fun _=>none) (fun _=>none) (fun _ _ _=>none) none (fun _ _=>none) none (fun _=>none) (fun _=>none))) (fun _=>(@Value.casesOn (fun _=>Option α) b (fun _=>none) (fun _ _=>none) (fun _ _=>none) (fun _ _ _=>none) (fun _=>none) (fun q=>@Option.casesOn Addr (fun _=>Option α) q (f false) (fun _=>none)) (fun _ _ _=>none) (fun _=>none) (fun _=>none) (fun _ _ _=>none) none (fun _ _=>none) none (fun _=>none) (fun _=>none))))) (fun p _ _=>sortK t 5 (@Option.casesOn Addr (fun _=>Option α) p ((@Value.casesOn (fun _=>Option α) b (fun _=>none) (fun _ _=>none) (fun _ _=>none) (fun _ _ _=>none) (fun _=>none) (fun _=>none) (fun q _ _=>forceB q.isNone f) (fun _=>none) (fun _=>none) (fun _ _ _=>none) none (fun _ _=>none) none (fun _=>none) (fun _=>none))) (fun _=>(@Value.casesOn (fun _=>Option α) b (fun _=>none) (fun _ _=>none) (fun _ _=>none) (fun _ _ _=>none) (fun _=>none) (fun _=>none) (fun q _ _=>@Option.casesOn Addr (fun _=>Option α) q (f false) (fun _=>none)) (fun _=>none) (fun _=>none) (fun _ _ _=>none) none (fun _ _=>none) none (fun _=>none) (fun _=>none))))) (fun p=>sortK t 7 (@Option.casesOn Nat (fun _=>Option α) p ((@Value.casesOn (fun _=>Option α) b (fun _=>none) (fun _ _=>none) (fun _ _=>none) (fun _ _ _=>none) (fun _=>none) (fun _=>none) (fun _ _ _=>none) (fun q=>forceB q.isNone f) (fun _=>none) (fun _ _ _=>none) none (fun _ _=>none) none (fun _=>none) (fun _=>none))) (fun _=>(@Value.casesOn (fun _=>Option α) b (fun _=>none) (fun _ _=>none) (fun _ _=>none) (fun _ _ _=>none) (fun _=>none) (fun _=>none) (fun _ _ _=>none) (fun q=>@Option.casesOn Nat (fun _=>Option α) q (f false) (fun _=>none)) (fun _=>none) (fun _ _ _=>none) none (fun _ _=>none) none (fun _=>none) (fun _=>none))))) (fun _=>none) (fun _ _ _=>none) none (fun _ _=>none) none (fun c=>sortK t 6 (sortK (elemT t) 2 ((@Value.casesOn (fun _=>Option α) b (fun _=>none) (fun _ _=>none) (fun _ _=>none) (fun _ _ _=>none) (fun _=>none) (fun _=>none) (fun _ _ _=>none) (fun _=>none) (fun _=>none) (fun _ _ _=>none) none (fun _ _=>none) none (fun d=>listK c fun c=>listK d fun d=>(@Bool.rec (fun _=>Option α) (none) ((@Bool.rec (fun _=>Option α) (none) (eqL c d f) (Nat.beq (sizeT (elemT t)) 1))) (Nat.beq (Nat.succ c.length) (alenT t)))) (fun _=>none))))) (fun _=>none))
noncomputable def binV (op:BinOp) (t:TypeId) (a b:Value) (f:Value→Option α):Option α:=
  (@Value.casesOn (fun _=>Option α) a (fun _=>(@BinOp.casesOn (fun _=>Option α) op none none none none none none none none none none none (eqB t a b fun e=>f (.bool e)) (eqB t a b fun e=>forceB (!e) fun e=>f (.bool e)) none none none none)) (fun j x=>intK b fun k y=>binI op j x k y f) (fun _ _=>(@BinOp.casesOn (fun _=>Option α) op none none none none none none none none none none none (eqB t a b fun e=>f (.bool e)) (eqB t a b fun e=>forceB (!e) fun e=>f (.bool e)) none none none none)) (fun _ _ _=>(@BinOp.casesOn (fun _=>Option α) op none none none none none none none none none none none (eqB t a b fun e=>f (.bool e)) (eqB t a b fun e=>forceB (!e) fun e=>f (.bool e)) none none none none)) (fun _=>(@BinOp.casesOn (fun _=>Option α) op none none none none none none none none none none none (eqB t a b fun e=>f (.bool e)) (eqB t a b fun e=>forceB (!e) fun e=>f (.bool e)) none none none none)) (fun _=>(@BinOp.casesOn (fun _=>Option α) op none none none none none none none none none none none (eqB t a b fun e=>f (.bool e)) (eqB t a b fun e=>forceB (!e) fun e=>f (.bool e)) none none none none)) (fun _ _ _=>(@BinOp.casesOn (fun _=>Option α) op none none none none none none none none none none none (eqB t a b fun e=>f (.bool e)) (eqB t a b fun e=>forceB (!e) fun e=>f (.bool e)) none none none none)) (fun _=>(@BinOp.casesOn (fun _=>Option α) op none none none none none none none none none none none (eqB t a b fun e=>f (.bool e)) (eqB t a b fun e=>forceB (!e) fun e=>f (.bool e)) none none none none)) (fun _=>(@BinOp.casesOn (fun _=>Option α) op none none none none none none none none none none none (eqB t a b fun e=>f (.bool e)) (eqB t a b fun e=>forceB (!e) fun e=>f (.bool e)) none none none none)) (fun _ _ _=>(@BinOp.casesOn (fun _=>Option α) op none none none none none none none none none none none (eqB t a b fun e=>f (.bool e)) (eqB t a b fun e=>forceB (!e) fun e=>f (.bool e)) none none none none)) (@BinOp.casesOn (fun _=>Option α) op none none none none none none none none none none none (eqB t a b fun e=>f (.bool e)) (eqB t a b fun e=>forceB (!e) fun e=>f (.bool e)) none none none none) (fun _ _=>(@BinOp.casesOn (fun _=>Option α) op none none none none none none none none none none none (eqB t a b fun e=>f (.bool e)) (eqB t a b fun e=>forceB (!e) fun e=>f (.bool e)) none none none none)) (@BinOp.casesOn (fun _=>Option α) op none none none none none none none none none none none (eqB t a b fun e=>f (.bool e)) (eqB t a b fun e=>forceB (!e) fun e=>f (.bool e)) none none none none) (fun _=>(@BinOp.casesOn (fun _=>Option α) op none none none none none none none none none none none (eqB t a b fun e=>f (.bool e)) (eqB t a b fun e=>forceB (!e) fun e=>f (.bool e)) none none none none)) (fun _=>(@BinOp.casesOn (fun _=>Option α) op none none none none none none none none none none none (eqB t a b fun e=>f (.bool e)) (eqB t a b fun e=>forceB (!e) fun e=>f (.bool e)) none none none none)))
noncomputable def boundK (v:Option Value) (d y:Nat) (f:Nat→Option α):Option α:=
  @Option.casesOn Value (fun _=>Option α) v (f d) fun v=>natK v fun k=>(@Bool.rec (fun _=>Option α) (none) (f k) (Nat.ble k y))
noncomputable def roomK (s:St) (a:Addr) (z c:Nat) (f:Nat→Option α):Option α:=
  (@Bool.rec (fun _=>Option α) (f c) (cellsK s a.block fun vs t=>(@Bool.rec (fun _=>Option α) (none) (forceN (Nat.div (Nat.sub vs.length a.off) z) f) (Nat.beq (sizeT t) z))) (Nat.beq c U))
noncomputable def addA (a:Addr) (n:Nat) (f:Addr→Option α):Option α:=@Addr.casesOn (fun _=>Option α) a fun b o _=>forceN (Nat.add o n) fun o=>f ⟨b,o,none⟩
noncomputable def sliceF (a:Addr) (x y:Nat) (f:Value→Option α):Option α:=forceN x fun x=>forceN y fun y=>f (.slice (some a) x y)
noncomputable def cutS (s:St) (z:Nat) (a:Addr) (n c:Nat) (lo hi mx:Option Value) (f:Value→Option α):Option α:=
  roomK s a z c fun room=>
    @Option.casesOn Value (fun _=>Option α) mx
      (boundK hi n room fun h=>boundK lo 0 h fun l=>(@Bool.rec (fun _=>Option α) ((@Bool.rec (fun _=>Option α) (addA a (Nat.mul l z) fun b=>sliceF b (Nat.sub h l) (Nat.sub c l) f) (sliceF a (Nat.sub h l) 0 f) (Nat.beq c l))) ((@Bool.rec (fun _=>Option α) ((@Bool.rec (fun _=>Option α) ((@Bool.rec (fun _=>Option α) (none) (f emptyV) (Nat.beq h l))) (sliceF a h U f) (Nat.beq l 0))) (addA a (Nat.mul l z) fun b=>sliceF b (Nat.sub h l) U f) (Nat.blt l room))) (Nat.beq c U)))
      (fun _=>boundK mx c room fun m=>@Option.casesOn Value (fun _=>Option α) hi none fun _=>boundK hi n m fun h=>boundK lo 0 h fun l=>(@Bool.rec (fun _=>Option α) (addA a (Nat.mul l z) fun b=>sliceF b (Nat.sub h l) (Nat.sub m l) f) (sliceF a (Nat.sub h l) 0 f) (Nat.beq m l)))
noncomputable def cutN (lo hi mx:Option Value) (f:Value→Option α):Option α:=@Option.casesOn Value (fun _=>Option α) mx (boundK hi 0 0 fun _=>boundK lo 0 0 fun _=>f (.slice none 0 0)) fun _=>none
noncomputable def repK (n:Nat) (l:List Value):(List Value→Option α)→Option α:=@Nat.rec (fun _=>(List Value→Option α)→Option α) (fun f=>f []) (fun _ ih f=>ih fun r=>appK l r f) n
noncomputable def sizeK (t:TypeId) (f:Nat→Option α):Option α:=@Nat.casesOn (fun _=>Option α) (sizeT t) none (fun n=>f (Nat.succ n))
noncomputable def zerosK (e:TypeId) (n:Nat) (f:List Value→Option α):Option α:=zeroK e fun z=>repK n z f
noncomputable def firstK (s:St) (z n:Nat) (v:Value) (f:List Value→Option α):Option α:=
  slE v (@Bool.rec (fun _=>Option α) (none) (f []) (Nat.beq n 0)) fun a _ _=>readK s a.block a.off (Nat.mul n z) f
noncomputable def lenK (v:Value) (f:Nat→Option α):Option α:=slE v (f 0) fun _ n _=>f n
end
abbrev R:=Option (Tm × St)
abbrev CallF:=FuncId→List Value→St→Option (Value × St)
abbrev KT:=CallF→Tm→St→(Value→St→R)→R
noncomputable def ptr (i:Nat):Value:=.pointer (some ⟨i,0,none⟩)
noncomputable def moveK (x:Operand):KT:=fun _ tm s k=>evK x tm fun v=>k v s
noncomputable def pickK (c a b:Operand):KT:=fun _ tm s k=>evK c tm fun v=>boolK v (evK a tm fun v=>k v s) (evK b tm fun v=>k v s)
noncomputable def allocK (e:TypeId):KT:=fun _ _ s k=>sizeK e fun _=>zeroK e fun z=>newS s (.cells z e) fun i s'=>k (ptr i) s'
noncomputable def boxK (e:TypeId) (x:Operand):KT:=fun _ tm s k=>evK x tm fun v=>cellsV v fun l=>sizeK e fun n=>(@Bool.rec (fun _=>R) (none) (newS s (.cells l e) fun i s'=>k (ptr i) s') (Nat.beq l.length n))
noncomputable def fillL (place:Nat→(Nat→Nat→R)→R) (tm:Tm) (l:List (Nat × Operand)):List Value→(List Value→R)→R:=
  @List.rec (Nat × Operand) (fun _=>List Value→(List Value→R)→R) (fun cs f=>f cs) (fun p _ ih cs f=>evK p.2 tm fun v=>cellsV v fun l=>place p.1 fun q n=>(@Bool.rec (fun _=>R) (none) (writeK cs q l fun cs=>ih cs f) (Nat.beq l.length n))) l
noncomputable def fillK (place:Nat→(Nat→Nat→R)→R) (tm:Tm) (a:Array (Nat × Operand)) (cs:List Value) (f:List Value→R):R:=listK a fun l=>fillL place tm l cs f
noncomputable def offK (t:TypeId) (i:Nat) (f:Nat→R):R:=@Nat.casesOn (fun _=>R) (Nat.land (offT t i) 65535) none f
noncomputable def partK (t:TypeId) (i:Nat) (f:Nat→Nat→R):R:=@Nat.casesOn (fun _=>R) (Nat.land (offT t i) 65535) none (fun o=>f o (Nat.shiftRight (offT t i) 16))
noncomputable def buildK (t:TypeId) (parts:Array (Nat × Operand)):KT:=fun _ tm s k=>zeroK t fun cs=>
  (@Bool.rec (fun _=>R) (sortK t 10 (fillK (partK t) tm parts cs fun l=>k (.agg ⟨l⟩) s)) (sizeK (elemT t) fun z=>fillK (fun i f=>f (Nat.mul i z) z) tm parts cs fun l=>k (.agg ⟨l⟩) s) (Nat.beq (sortT t) 6))
noncomputable def buildSliceK (t:TypeId) (len:Nat) (parts:Array (Nat × Operand)):KT:=fun _ tm s k=>
  sortK t 5 (sizeK (elemT t) fun z=>(@Bool.rec (fun _=>R) (none) (zerosK (elemT t) len fun cs=>fillK (fun i f=>f (Nat.mul i z) z) tm parts cs fun l=>newS s (.cells l (elemT t)) fun i s'=>k (.slice (some ⟨i,0,none⟩) len len) s') (Nat.ble (Nat.mul len z) 16777216)))
noncomputable def loadV {α:Type} (t:TypeId) (s:St) (a:Addr) (f:Value→Option α):Option α:=
  sizeK t fun n=>(@Bool.rec (fun _=>Option α) (cellsK s a.block fun vs _=>nthK vs a.off f) (readK s a.block a.off n fun l=>f (.agg ⟨l⟩)) (aggT t))
noncomputable def loadK (t:TypeId) (x:Operand):KT:=fun _ tm s k=>evK x tm fun v=>ptrK v fun a=>loadV t s a fun v=>k v s
noncomputable def storeK (t:TypeId) (x y:Operand):KT:=fun _ tm s k=>evK x tm fun v=>ptrK v fun a=>evK y tm fun w=>
  cellsV w fun l=>sizeK t fun n=>(@Bool.rec (fun _=>R) (none) (storeS s a.block a.off l fun s'=>k undef s') (Nat.beq l.length n))
noncomputable def nilCheckK (x:Operand):KT:=fun _ tm s k=>evK x tm fun v=>ptrK v fun _=>k v s
noncomputable def binOpK (op:BinOp) (t:TypeId) (x y:Operand) (_:TypeId):KT:=fun _ tm s k=>evK x tm fun a=>evK y tm fun b=>binV op t a b fun v=>k v s
noncomputable def unOpK (op:UnOp) (_:TypeId) (x:Operand):KT:=fun _ tm s k=>evK x tm fun v=>
  (@Value.casesOn (fun _=>R) v (fun b=>@UnOp.casesOn (fun _=>R) op none none (forceB (!b) fun b=>k (.bool b) s) none) (fun j n=>@UnOp.casesOn (fun _=>R) op (forceI (wrapQ j (subQ 0 n)) fun n=>k (.int j n) s) none none none) (fun _ _=>none) (fun _ _ _=>none) (fun _=>none) (fun _=>none) (fun _ _ _=>none) (fun _=>none) (fun _=>none) (fun _ _ _=>none) none (fun _ _=>none) none (fun _=>none) (fun _=>none))
noncomputable def convertK (src dst:TypeId) (x:Operand):KT:=fun _ tm s k=>sortK src 2 <| evK x tm fun v=>intK v fun _ n=>@Option.casesOn IntKind (fun _=>R) (kindT dst) none fun j=>forceI (wrapQ j n) fun n=>k (.int j n) s
noncomputable def makeFuncK (fn:Fn) (first captured:Array Operand):KT:=fun _ tm s k=>listK first fun l=>@List.casesOn Operand (fun _=>R) l (@Fn.casesOn (fun _=>R) fn (fun g=>listK captured fun c=>evLK c tm fun l=>onesK l (k (.func (.func g) ⟨[]⟩ ⟨l⟩) s)) (fun _=>none) (fun _ _=>none) (fun _ _ _ _=>none) (fun _=>none)) (fun _ _=>none)
noncomputable def makeMapK (_:TypeId) (r:Option Operand):KT:=fun _ _ s k=>@Option.casesOn Operand (fun _=>R) r (newS s (.map []) fun i s'=>k (.map (some i)) s') (fun _=>none)
noncomputable def makeSliceK (t:TypeId) (l c:Operand):KT:=fun _ tm s k=>sortK t 5 <| evK l tm fun v=>natK v fun n=>evK c tm fun w=>natK w fun m=>
  (@Bool.rec (fun _=>R) (none) ((@Bool.rec (fun _=>R) (none) (sizeK (elemT t) fun _=>zerosK (elemT t) m fun cs=>newS s (.cells cs (elemT t)) fun i s'=>k (.slice (some ⟨i,0,none⟩) n m) s') (Nat.ble m 100000))) (Nat.ble n m))
noncomputable def sliceK (t:TypeId) (x:Operand) (lo hi mx:Option Operand):KT:=fun _ tm s k=>sortK t 5 <| evK x tm fun v=>evQK lo tm fun lo=>evQK hi tm fun hi=>evQK mx tm fun mx=>
  sizeK (elemT t) fun z=>slK v (cutN lo hi mx fun v=>k v s) fun a n c=>cutS s z a n c lo hi mx fun v=>k v s
noncomputable def fieldAddrK (t:TypeId) (x:Operand) (i:Nat):KT:=fun _ tm s k=>evK x tm fun v=>ptrK v fun a=>offK t i fun p=>addA a p fun a=>k (.pointer (some a)) s
noncomputable def indexAddrK (t:TypeId) (x ix:Operand):KT:=fun _ tm s k=>sortK t 5 <| evK x tm fun v=>evK ix tm fun w=>natK w fun i=>
  slK v none fun a n _=>(@Bool.rec (fun _=>R) (none) (sizeK (elemT t) fun z=>addA a (Nat.mul i z) fun a=>k (.pointer (some a)) s) (Nat.blt i n))
noncomputable def indexK (t:TypeId) (x ix:Operand):KT:=fun _ tm s k=>evK x tm fun v=>evK ix tm fun w=>natK w fun i=>
  (@Value.casesOn (fun _=>R) v (fun _=>none) (fun _ _=>none) (fun _ _=>none) (fun _ _ _=>none) (fun b=>sortK t 3 (@Option.casesOn UInt8 (fun _=>R) b[i]? none fun c=>forceI (Int.ofNat c.toNat) fun n=>k (.int .u8 n) s)) (fun _=>none) (fun _ _ _=>none) (fun _=>none) (fun _=>none) (fun _ _ _=>none) none (fun _ _=>none) none (fun cs=>sortK t 6 (sortK (elemT t) 2 ((@Bool.rec (fun _=>R) (none) (listK cs fun cs=>sizeK (elemT t) fun z=>nthK cs (Nat.mul i z) fun v=>k v s) (Nat.blt (Nat.succ i) (alenT t)))))) (fun _=>none))
noncomputable def findE {α:Type} (j:IntKind) (n:Int) (l:List (Value × Value)) (no:Option α) (f:Value→Option α):Option α:=@List.rec (Value × Value) (fun _=>Option α) no (fun p _ ih=>intK p.1 fun h y=>same j h (@Bool.rec (fun _=>Option α) (ih) (f p.2) (eqQ n y))) l
noncomputable def setE (j:IntKind) (n:Int) (x:Value) (l:List (Value × Value)):(List (Value × Value)→R)→R:=@List.rec (Value × Value) (fun _=>(List (Value × Value)→R)→R) (fun f=>f [(.int j n,x)]) (fun p l ih f=>intK p.1 fun h y=>same j h (@Bool.rec (fun _=>R) (ih fun r=>f (p :: r)) (f ((.int j n,x) :: l)) (eqQ n y))) l
noncomputable def delE (j:IntKind) (n:Int) (l:List (Value × Value)):(List (Value × Value)→R)→R:=@List.rec (Value × Value) (fun _=>(List (Value × Value)→R)→R) (fun f=>f []) (fun p l ih f=>intK p.1 fun h y=>same j h (@Bool.rec (fun _=>R) (ih fun r=>f (p :: r)) (f l) (eqQ n y))) l
noncomputable def lookupK (t:TypeId) (x ix:Operand) (ok:Bool):KT:=fun _ tm s k=>sortK t 7 <| evK x tm fun v=>evK ix tm fun i=>refK v fun r=>mapK s r fun es=>intK i fun j n=>(@Bool.rec (fun _=>R) (zeroK (elemT t) fun zs=>nthK zs 0 fun z=>
  findE j n es (k (@Bool.rec (fun _=>Value) (z) (.tuple #[z,.bool false]) (ok)) s) fun w=>k (@Bool.rec (fun _=>Value) (w) (.tuple #[w,.bool true]) (ok)) s) (none) (aggT (elemT t)))
noncomputable def mapUpdateK (t:TypeId) (m i x:Operand):KT:=fun _ tm s k=>sortK t 7 <| evK m tm fun v=>evK i tm fun i=>evK x tm fun w=>refK v fun r=>oneK w <| mapK s r fun es=>intK i fun j n=>setE j n w es fun es=>putS s r (.map es) fun s'=>k undef s'
noncomputable def extractK (t:Operand) (i:Nat):KT:=fun _ tm s k=>evK t tm fun v=>tupK v fun l=>nthK l i fun v=>k v s
noncomputable def appendS (s:St) (e:TypeId) (z:Nat) (x:Value) (news:List Value) (n':Nat) (k:Value→St→R):R:=
  slK x (@Bool.rec (fun _=>R) ((@Bool.rec (fun _=>R) (none) (newS s (.cells news e) fun i s'=>forceN n' fun n'=>k (.slice (some ⟨i,0,none⟩) n' U) s') (Nat.ble n' 100000))) (k x s) (Nat.beq n' 0)) fun a n c=>forceN (Nat.add n n') fun m=>roomK s a z c fun room=>
    (@Bool.rec (fun _=>R) ((@Bool.rec (fun _=>R) (none) (readK s a.block a.off (Nat.mul n z) fun old=>appK old news fun l=>(@Bool.rec (fun _=>R) (newS s (.cells l e) fun i s'=>k (.slice (some ⟨i,0,none⟩) m U) s') ((@Bool.rec (fun _=>R) (none) (cellsK s a.block fun _ tt=>(@Bool.rec (fun _=>R) (none) (killS s a.block fun s'=>newS s' (.cells l e) fun i s'=>k (.slice (some ⟨i,0,none⟩) m U) s') (Nat.beq tt e))) (Nat.beq a.off 0))) (Nat.beq c U))) (Nat.ble m 100000))) (storeS s a.block (Nat.add a.off (Nat.mul n z)) news fun s'=>k (.slice (some a) m c) s') (Nat.ble m room))
noncomputable def appendK (t u:TypeId) (x y:Value) (s:St) (k:Value→St→R):R:=sortK t 5 <| sizeK (elemT t) fun z=>
  (@Value.casesOn (fun _=>R) y (fun _=>none) (fun _ n=>sortK u 2 (@Int.casesOn (fun _=>R) n (fun m=>(@Bool.rec (fun _=>R) (none) (zerosK (elemT t) m fun cs=>appendS s (elemT t) z x cs m k) (Nat.ble m 100000))) (fun _=>none))) (fun _ _=>none) (fun _ _ _=>none) (fun _=>none) (fun _=>none) (fun _ m _=>sortK u 5 (firstK s z m y fun cs=>appendS s (elemT t) z x cs m k)) (fun _=>none) (fun _=>none) (fun _ _ _=>none) none (fun _ _=>none) none (fun _=>none) (fun _=>none))
noncomputable def copyK (t:TypeId) (x y:Value) (s:St) (k:Value→St→R):R:=sortK t 5 <| sizeK (elemT t) fun z=>lenK y fun m=>
  slE x (k (.int .i64 (Int.ofNat 0)) s) fun a n _=>firstK s z (minQ m n) y fun cs=>storeS s a.block a.off cs fun s'=>forceN (minQ m n) fun m=>k (.int .i64 (Int.ofNat m)) s'
noncomputable def clearK (t:TypeId) (x:Value) (s:St) (k:Value→St→R):R:=sortK t 5 <|
  slE x (k (.tuple #[]) s) fun a n _=>sizeK (elemT t) fun _=>zerosK (elemT t) n fun cs=>storeS s a.block a.off cs fun s'=>k (.tuple #[]) s'
noncomputable def lengthK (t:TypeId) (x:Value) (s:St) (k:Value→St→R):R:=
  (@Value.casesOn (fun _=>R) x (fun _=>none) (fun _ _=>none) (fun _ _=>none) (fun _ _ _=>none) (fun _=>none) (fun _=>none) (fun _ n _=>sortK t 5 (k (.int .i64 (Int.ofNat n)) s)) (fun p=>sortK t 7 (@Option.casesOn Nat (fun _=>R) p (k (.int .i64 (Int.ofNat 0)) s) fun r=>mapK s r fun es=>forceN es.length fun n=>k (.int .i64 (Int.ofNat n)) s)) (fun _=>none) (fun _ _ _=>none) none (fun _ _=>none) none (fun _=>@Nat.casesOn (fun _=>R) (alenT t) none fun n=>k (.int .i64 (Int.ofNat n)) s) (fun _=>none))
noncomputable def capK (t:TypeId) (x:Value) (s:St) (k:Value→St→R):R:=sortK t 5 <| slK x (k (.int .i64 (Int.ofNat 0)) s) fun _ _ c=>(@Bool.rec (fun _=>R) (k (.int .i64 (Int.ofNat c)) s) (none) (Nat.beq c U))
noncomputable def deleteK (t:TypeId) (x i:Value) (s:St) (k:Value→St→R):R:=sortK t 7 <| refK x fun r=>mapK s r fun es=>intK i fun j n=>delE j n es fun es=>putS s r (.map es) fun s'=>k (.tuple #[]) s'
noncomputable def minK (up:Bool) (l:List Value) (s:St) (k:Value→St→R):R:=
  @List.casesOn Value (fun _=>R) l none fun v l=>intK v fun j x=>@List.rec Value (fun _=>Int→R) (fun x=>forceI x fun x=>k (.int j x) s) (fun w _ ih x=>intK w fun h y=>same j h (ih (@Bool.rec (fun _=>Int) ((@Bool.rec (fun _=>Int) (x) (y) (ltQ y x))) ((@Bool.rec (fun _=>Int) (x) (y) (ltQ x y))) (up)))) l x
noncomputable def head1 (l:List Value) (f:Value→R):R:=@List.casesOn Value (fun _=>R) l none fun v _=>f v
noncomputable def head2 (l:List Value) (f:Value→Value→R):R:=@List.casesOn Value (fun _=>R) l none fun v l=>@List.casesOn Value (fun _=>R) l none fun w _=>f v w
noncomputable def headT (l:List TypeId) (f:TypeId→R):R:=@List.casesOn TypeId (fun _=>R) l none fun t _=>f t
noncomputable def headT2 (l:List TypeId) (f:TypeId→TypeId→R):R:=@List.casesOn TypeId (fun _=>R) l none fun t l=>@List.casesOn TypeId (fun _=>R) l none fun u _=>f t u
noncomputable def builtinK (b:Builtin) (ts:List TypeId) (l:List Value) (s:St) (k:Value→St→R):R:=
  @Builtin.casesOn (fun _=>R) b
    (headT2 ts fun t u=>head2 l fun x y=>appendK t u x y s k) (headT ts fun t=>head1 l fun x=>capK t x s k) (headT ts fun t=>head1 l fun x=>clearK t x s k) none none (headT ts fun t=>head2 l fun x y=>copyK t x y s k) (headT ts fun t=>head2 l fun x y=>deleteK t x y s k) none (headT ts fun t=>head1 l fun x=>lengthK t x s k) none (minK true l s k) (minK false l s k) none none none none none none none none none none none none none none
noncomputable def callK (c:Call):KT:=fun cf tm s k=>@Callee.casesOn (fun _=>R) c.callee (fun f=>evK f tm fun v=>funK v fun g caps=>listK c.args fun l=>evLK l tm fun xs=>appK xs caps fun xs=>@Option.casesOn (Value × St) (fun _=>R) (cf g xs s) none fun p=>@Prod.casesOn Value St (fun _=>R) p k) (fun _ _=>none) (fun b=>listK c.args fun l=>evLK l tm fun l=>listK c.argTypes fun ts=>builtinK b ts l s k)
def noK:KT:=fun _ _ _ _=>none
noncomputable def disp (op:Op):KT:=@Op.casesOn (fun _=>KT) op
  moveK
  moveK
  pickK
  allocK
  boxK
  buildK
  buildSliceK
  (fun _ _ _ _=>noK)
  loadK
  storeK
  (fun _=>noK)
  (fun _=>noK)
  nilCheckK
  binOpK
  unOpK
  convertK
  (fun _ _=>noK)
  (fun _ _=>noK)
  makeFuncK
  makeMapK
  (fun _ _=>noK)
  makeSliceK
  sliceK
  fieldAddrK
  (fun _ _ _=>noK)
  indexAddrK
  indexK
  lookupK
  mapUpdateK
  (fun _ _ _=>noK)
  (fun _ _ _ _=>noK)
  (fun _ _=>noK)
  (fun _ _=>noK)
  (fun _=>noK)
  (fun _ _ _ _=>noK)
  extractK
  callK
  (fun _=>noK)
  (fun _=>noK)
  (fun _=>noK)
  (fun _ _=>noK)
  (fun _ _ _=>noK)
  (fun _ _=>noK)
inductive X where
  | normal | exit (id:Nat) | ret
noncomputable def putK (tm:Tm) (d:Option Tmp) (v:Value):Tm:=@Option.casesOn Tmp (fun _=>Tm) d tm fun d=>(d,v) :: tm
noncomputable def wantK (all:List Oper) (tm:Tm) (j:Nat) (w:Bool) (yes no:R):R:=
  nthK all j fun o=>@Option.casesOn Tmp (fun _=>R) o.dst none fun d=>atK tm d fun v=>(@Value.casesOn (fun _=>R) v (fun b=>(@Bool.rec (fun _=>R) ((@Bool.rec (fun _=>R) (yes) (no) (w))) ((@Bool.rec (fun _=>R) (no) (yes) (w))) (b))) (fun _ _=>no) (fun _ _=>no) (fun _ _ _=>no) (fun _=>no) (fun _=>no) (fun _ _ _=>no) (fun _=>no) (fun _=>no) (fun _ _ _=>no) no (fun _ _=>no) no (fun _=>no) (fun _=>no))
noncomputable def opsK (cf:CallF) (all l:List Oper):Tm→St→R:=
  @List.rec Oper (fun _=>Tm→St→R) (fun tm s=>some (tm,s))
    (fun o _ ih tm s=>@Option.casesOn (Nat × Bool) (fun _=>R) o.guard (disp o.op cf tm s fun v s'=>ih (putK tm o.dst v) s')
      fun g=>wantK all tm g.1 g.2 (disp o.op cf tm s fun v s'=>ih (putK tm o.dst v) s') (ih (putK tm o.dst undef) s)) l
def eqA (a b:Addr):Bool:=match a.spot,b.spot with | none,none=>Nat.beq a.block b.block && Nat.beq a.off b.off | _,_=>false
def eqV1 (u v:Value):Bool:=match u,v with
  | .int j x,.int k y=>Nat.beq (kn j) (kn k) && x == y
  | .bool a,.bool b=>a == b
  | .pointer none,.pointer none=>true
  | .pointer (some a),.pointer (some b)=>eqA a b
  | .slice none n c,.slice none m d=>Nat.beq n m && Nat.beq c d
  | .slice (some a) n c,.slice (some b) m d=>eqA a b && Nat.beq n m && Nat.beq c d
  | .map none,.map none=>true
  | .map (some a),.map (some b)=>Nat.beq a b
  | .nilFunc,.nilFunc=>true
  | _,_=>false
def eqVL (l m:List Value):Bool:=match l,m with
  | [],[]=>true
  | u :: l,v :: m=>eqV1 u v && eqVL l m
  | _,_=>false
def eqV (u v:Value):Bool:=match u,v with
  | .agg ⟨l⟩,.agg ⟨m⟩=>eqVL l m
  | .tuple ⟨l⟩,.tuple ⟨m⟩=>eqVL l m
  | u,v=>eqV1 u v
noncomputable def stepK (cf:CallF) (all:List Oper) (c:Nat) (ih:Tm→St→R) (tm:Tm) (s:St):R:=
  nthK all (Nat.shiftRight c 1) fun o=>(@Bool.rec (fun _=>R) (@Option.casesOn Tmp (fun _=>R) o.dst none fun d=>atK tm d fun u=>@Option.casesOn (Nat × Bool) (fun _=>R) o.guard (disp o.op cf tm s fun v _=>(@Bool.rec (fun _=>R) (none) (ih tm s) (eqV u v))) fun g=>wantK all tm g.1 g.2 (disp o.op cf tm s fun v _=>(@Bool.rec (fun _=>R) (none) (ih tm s) (eqV u v))) (@Bool.rec (fun _=>R) (none) (ih tm s) (eqV u undef))) (@Option.casesOn (Nat × Bool) (fun _=>R) o.guard (disp o.op cf tm s fun v s'=>ih (putK tm o.dst v) s') fun g=>wantK all tm g.1 g.2 (disp o.op cf tm s fun v s'=>ih (putK tm o.dst v) s') (ih (putK tm o.dst undef) s)) (Nat.beq (Nat.land c 1) 0))
noncomputable def drawK (cf:CallF) (all:List Oper) (l:List Nat):Tm→St→R:=
  @List.rec Nat (fun _=>Tm→St→R) (fun tm s=>some (tm,s)) (fun c _ ih tm s=>stepK cf all c ih tm s) l
abbrev XR:=Option (X × Tm × St)
noncomputable def pruneK (l:Tm):Nat→(Tm→XR)→XR:=
  @List.rec (Nat × Value) (fun _=>Nat→(Tm→XR)→XR) (fun _ f=>f []) (fun p _ ih m f=>(@Bool.rec (fun _=>XR) (ih m f) (ih (Nat.xor m (Nat.shiftLeft 1 p.1)) fun r=>f (p :: r)) (Nat.beq (Nat.land (Nat.shiftRight m p.1) 1) 1))) l
noncomputable def condK (c:Operand) (tm:Tm) (a b:XR):XR:=evK c tm fun v=>boolK v a b
noncomputable def seqK (r:XR) (f:Tm→St→XR):XR:=
  @Option.casesOn (X × Tm × St) (fun _=>XR) r none fun p=>@Prod.casesOn X (Tm × St) (fun _=>XR) p fun x q=>@X.casesOn (fun _=>XR) x (@Prod.casesOn Tm St (fun _=>XR) q f) (fun i=>some (.exit i,q)) (some (.ret,q))
noncomputable def blockK (id:Nat) (r:XR):XR:=
  @Option.casesOn (X × Tm × St) (fun _=>XR) r none fun p=>@Prod.casesOn X (Tm × St) (fun _=>XR) p fun x q=>@X.casesOn (fun _=>XR) x (some (.normal,q)) (fun i=>(@Bool.rec (fun _=>XR) (some (.exit i,q)) (some (.normal,q)) (Nat.beq i id))) (some (.ret,q))
noncomputable def listE (a:Array Oper) (f:List Oper→XR):XR:=@Array.casesOn Oper (fun _=>XR) a f
noncomputable def endK (r:R):XR:=@Option.casesOn (Tm × St) (fun _=>XR) r none fun p=>some (.normal,p)
abbrev VR:=Option (Value × St)
noncomputable def resK (tm:Tm) (s:St) (l:List ResultVar):(List Value→VR)→VR:=
  @List.rec ResultVar (fun _=>(List Value→VR)→VR) (fun f=>f [])
    (fun r _ ih f=>@ResultVar.casesOn (fun _=>VR) r (fun t=>atK tm t fun v=>noTup v (ih fun l=>f (v :: l))) (fun a t=>atK tm a fun v=>ptrK v fun ad=>loadV t s ad fun v=>ih fun l=>f (v :: l))) l
noncomputable def tmOf (l:List Value):Nat→(Tm→VR)→VR:=@List.rec Value (fun _=>Nat→(Tm→VR)→VR) (fun _ f=>f []) (fun v _ ih i f=>ih (Nat.succ i) fun r=>f ((i,v) :: r)) l
noncomputable def tupV (l:List Value) (s:St):VR:=@List.casesOn Value (fun _=>VR) l (some (.tuple ⟨[]⟩,s)) fun v r=>@List.casesOn Value (fun _=>VR) r (some (v,s)) fun _ _=>some (.tuple ⟨l⟩,s)
noncomputable def retV (fn:Func) (q:Tm × St):VR:=@Prod.casesOn Tm St (fun _=>VR) q fun tm s=>listK fn.results fun rs=>resK tm s rs fun l=>tupV l s
noncomputable def retK (fn:Func) (r:XR):VR:=
  @Option.casesOn (X × Tm × St) (fun _=>VR) r none fun p=>@Prod.casesOn X (Tm × St) (fun _=>VR) p fun x q=>@X.casesOn (fun _=>VR) x (retV fn q) (fun _=>none) (retV fn q)
noncomputable def callW (kn:CallF) (run:FuncId→Code→Tm→St→XR):CallF:=fun f args s=>
  @Option.casesOn (Value × St) (fun _=>VR) (kn f args s)
    (getK fuT f fun fn=>@Option.casesOn Code (fun _=>VR) fn.body none fun b=>tmOf args 0 fun tm=>retK fn (run f b tm s)) some
abbrev CT:=CallF→(FuncId→Code→Tm→St→XR)→FuncId→Tm→St→XR
noncomputable def cSkip:CT:=fun _ _ _ tm s=>some (.normal,tm,s)
noncomputable def cRegion (id:Nat) (ops:Array Oper) (d:Bool):CT:=fun kn run f tm s=>listE ops fun l=>endK (@Bool.rec (fun _=>R) (opsK (callW kn run) l l tm s) (getK schT f fun t=>getK t id fun ns=>drawK (callW kn run) l ns tm s) (d))
noncomputable def cSeq (a b:Code):CT:=fun _ run f tm s=>seqK (run f a tm s) (run f b)
noncomputable def cCond (c:Operand) (a b:Code):CT:=fun _ run f tm s=>condK c tm (run f a tm s) (run f b tm s)
noncomputable def cBlock (id:Nat) (b:Code):CT:=fun _ run f tm s=>blockK id (run f b tm s)
noncomputable def cLoop (b:Code):CT:=fun _ run f tm s=>seqK (run f b tm s) fun tm s=>pruneK tm (keepT f) fun tm=>run f (.loop b) tm s
noncomputable def cNo:CT:=fun _ _ _ _ _=>none
noncomputable def cExit (i:Nat):CT:=fun _ _ _ tm s=>some (.exit i,tm,s)
noncomputable def cScope (b:Code):CT:=fun _ run f tm s=>run f b tm s
noncomputable def cLabel (_:Nat):CT:=fun _ _ _ tm s=>some (.normal,tm,s)
noncomputable def cRet:CT:=fun _ _ _ tm s=>some (.ret,tm,s)
noncomputable def cdisp (c:Code):CT:=@Code.casesOn (fun _=>CT) c cSkip cRegion cSeq cCond cBlock cLoop (fun _ _ _ _=>cNo) cExit cScope cLabel (fun _=>cNo) cRet (fun _=>cNo)
noncomputable def code (kn:CallF) (n:Nat):FuncId→Code→Tm→St→XR:=
  @Nat.rec (fun _=>FuncId→Code→Tm→St→XR) (fun _ _ _ _=>none) (fun _ ih f c tm s=>cdisp c kn ih f tm s) n
end Go.Proofs.YtnpdcjdmbkcpbaaGreat.Ev
