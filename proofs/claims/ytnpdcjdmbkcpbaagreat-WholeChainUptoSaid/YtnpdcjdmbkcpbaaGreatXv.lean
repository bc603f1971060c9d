/- The evaluator's operands: what they are in a run. The evaluator's looks at a value: what succeeds says what the value is. The tables say what the program says. The evaluator's operations: what a run does there; moves and new blocks. The evaluator's operations: rows, parts of values, loads and stores. No condition. -/
import Derived.Test.YtnpdcjdmbkcpbaaGreatXu
import Derived.KernelRfl
import Derived.WalkKit
set_option linter.unusedVariables false
set_option linter.unusedSimpArgs false
namespace Go.Proofs.YtnpdcjdmbkcpbaaGreat.Ev
open Go
def TmR (σ:Sg) (tm:Tm) (a:Act):Prop:=∀ k v,tm.lookup k=some v→∃ v',a.tmps[k]?=some v'∧VT σ v v'
theorem TmR.mono {σ τ:Sg} (h:σ.Le τ) {tm:Tm} {a:Act} (k:TmR σ tm a):TmR τ tm a:=fun i v hi=>by
  obtain ⟨v',h1,h2⟩:=k i v hi
  exact ⟨v',h1,h2.mono h⟩
def TmAt (σ:Sg) (tm:Tm) (a:Act) (x:Operand):Prop:=∀ t,x = .tmp t→∀ v,tm.lookup t=some v→∃ v',a.tmps[t]?=some v'∧VT σ v v'
def OpsR (σ:Sg) (tm:Tm) (a:Act) (op:Op):Prop:=∀ x∈op.operands,TmAt σ tm a x
theorem TmR.at {σ:Sg} {tm:Tm} {a:Act} (h:TmR σ tm a) (x:Operand):TmAt σ tm a x:=fun t _ v hv=>h t v hv
theorem TmR.ops {σ:Sg} {tm:Tm} {a:Act} (h:TmR σ tm a) (op:Op):OpsR σ tm a op:=fun x _=>h.at x
def EvR (σ:Sg) (a:Act) (x:Operand) (v:Value):Prop:=VT σ v (a.eval x)
section
variable {α:Type} {r:α}
theorem constK_some {v:Value} {f:Option α} (h:constK v f=some r):f=some r∧∀ σ,V1 σ v v:=by
  cases v with
  | int k n=>exact ⟨h,fun σ=>.int k n⟩
  | bool b=>exact ⟨h,fun σ=>.bool b⟩
  | string s=>exact ⟨h,fun σ=>.str s⟩
  | pointer p=>cases p with
    | none=>exact ⟨h,fun σ=>.pnil⟩
    | some a=>cases h
  | slice p n c=>cases p with
    | none=>
      have h' : @Bool.rec (fun _=>Option α) none (@Bool.rec (fun _=>Option α) none f (Nat.beq c 0)) (Nat.beq n 0)=some r:=h
      cases n with
      | zero=>cases c with
        | zero=>exact ⟨h',fun σ=>.snil⟩
        | succ c=>cases h'
      | succ n=>cases h'
    | some a=>cases h
  | map p=>cases p with
    | none=>exact ⟨h,fun σ=>.mnil⟩
    | some a=>cases h
  | chan p=>cases p with
    | none=>exact ⟨h,fun σ=>.chn⟩
    | some a=>cases h
  | nilFunc=>exact ⟨h,fun σ=>.fnil⟩
  | float k b=>cases h
  | complex k a b=>cases h
  | func a b c=>cases h
  | iface t v=>cases h
  | nilIface=>cases h
  | agg c=>cases h
  | tuple c=>cases h
theorem evK_some {x:Operand} {tm:Tm} {f:Value→Option α} (h:evK x tm f=some r):∃ v,f v=some r∧∀ σ a,TmAt σ tm a x→EvR σ a x v:=by
  cases x with
  | tmp t=>
    obtain ⟨v,h1,h2,h3⟩:=atK_some (l:=tm) h
    refine ⟨v,h3,fun σ a ha=>?_⟩
    obtain ⟨v',h4,h5⟩:=ha t rfl v h2
    unfold EvR
    simp only [Act.eval]
    rw [Array.getD_eq_getD_getElem?,h4]
    exact h5
  | const v=>
    obtain ⟨h1,h2⟩:=constK_some h
    exact ⟨v,h1,fun σ a _=>.va (.one (h2 σ))⟩
  | global g=>cases h
  | func g=>exact ⟨_,h,fun σ a _=>.va (.one (.fn rfl fun j v v' h=>by simp at h))⟩
theorem evLK_some:∀ {l:List Operand} {tm:Tm} {f:List Value→Option α},evLK l tm f=some r→∃ vs,f vs=some r∧∀ σ a,(∀ x∈l,TmAt σ tm a x)→L2 (VT σ) vs (l.map a.eval)
  | [],tm,f,h=>⟨[],h,fun σ a _=>.nil⟩
  | x :: l,tm,f,h=>by
    obtain ⟨v,h1,h2⟩:=evK_some (x:=x) (tm:=tm) (f:=fun v=>evLK l tm fun r=>f (v :: r)) h
    obtain ⟨vs,h3,h4⟩:=evLK_some (l:=l) h1
    exact ⟨v :: vs,h3,fun σ a ha=>.cons (h2 σ a (ha x (by simp))) (h4 σ a fun y hy=>ha y (by simp [hy]))⟩
inductive OpR (σ:Sg) (a:Act):Option Operand→Option Value→Prop
  | none:OpR σ a none none
  | some {x v}:EvR σ a x v→OpR σ a (some x) (some v)
theorem evQK_some {x:Option Operand} {tm:Tm} {f:Option Value→Option α} (h:evQK x tm f=some r):∃ v,f v=some r∧∀ σ a,(∀ y,x=some y→TmAt σ tm a y)→OpR σ a x v:=by
  cases x with
  | none=>exact ⟨none,h,fun σ a _=>.none⟩
  | some x=>
    obtain ⟨v,h1,h2⟩:=evK_some (x:=x) (tm:=tm) (f:=fun v=>f (some v)) h
    exact ⟨some v,h1,fun σ a ha=>.some (h2 σ a (ha x rfl))⟩
end
end Go.Proofs.YtnpdcjdmbkcpbaaGreat.Ev
namespace Go.Proofs.YtnpdcjdmbkcpbaaGreat.Ev
open Go
section
variable {α:Type} {r:α}
theorem intK_some {v:Value} {f:IntKind→Int→Option α} (h:intK v f=some r):∃ k n,v = .int k n∧f k n=some r:=by
  cases v <;> first | exact ⟨_,_,rfl,h⟩ | cases h
theorem natK_some {v:Value} {f:Nat→Option α} (h:natK v f=some r):∃ k n,v = .int k (Int.ofNat n)∧f n=some r:=by
  obtain ⟨k,n,rfl,h1⟩:=intK_some h
  cases n with
  | ofNat n=>exact ⟨k,n,rfl,h1⟩
  | negSucc n=>cases h1
theorem boolK_some {v:Value} {a b:Option α} (h:boolK v a b=some r):(v = .bool true∧a=some r)∨(v = .bool false∧b=some r):=by
  cases v with
  | bool c=>cases c with
    | true=>exact .inl ⟨rfl,h⟩
    | false=>exact .inr ⟨rfl,h⟩
  | _=>cases h
theorem ptrK_some {v:Value} {f:Addr→Option α} (h:ptrK v f=some r):∃ a,v = .pointer (some a)∧f a=some r:=by
  cases v with
  | pointer p=>cases p with
    | none=>cases h
    | some a=>exact ⟨a,rfl,h⟩
  | _=>cases h
theorem slK_some {v:Value} {e:Option α} {f:Addr→Nat→Nat→Option α} (h:slK v e f=some r):(v = .slice none 0 0∧e=some r)∨∃ b o n c,v = .slice (some ⟨b,o,none⟩) n c∧f ⟨b,o,none⟩ n c=some r:=by
  cases v with
  | slice p n c=>cases p with
    | none=>
      have h' : @Bool.rec (fun _=>Option α) none (@Bool.rec (fun _=>Option α) none e (Nat.beq c 0)) (Nat.beq n 0)=some r:=h
      cases n with
      | zero=>cases c with
        | zero=>exact .inl ⟨rfl,h'⟩
        | succ c=>cases h'
      | succ n=>cases h'
    | some a=>
      obtain ⟨b,o,sp⟩:=a
      cases sp with
      | none=>exact .inr ⟨b,o,n,c,rfl,h⟩
      | some _=>cases h
  | _=>cases h
theorem slE_some {v:Value} {e:Option α} {f:Addr→Nat→Nat→Option α} (h:slE v e f=some r):(v = .slice none 0 0∧e=some r)∨(∃ b o x c,v = .slice (some ⟨b,o,some x⟩) 0 c∧e=some r)∨∃ b o n c,v = .slice (some ⟨b,o,none⟩) n c∧f ⟨b,o,none⟩ n c=some r:=by
  cases v with
  | slice p n c=>cases p with
    | none=>
      have h' : @Bool.rec (fun _=>Option α) none (@Bool.rec (fun _=>Option α) none e (Nat.beq c 0)) (Nat.beq n 0)=some r:=h
      cases n with
      | zero=>cases c with
        | zero=>exact .inl ⟨rfl,h'⟩
        | succ c=>cases h'
      | succ n=>cases h'
    | some a=>
      obtain ⟨b,o,sp⟩:=a
      cases sp with
      | none=>exact .inr (.inr ⟨b,o,n,c,rfl,h⟩)
      | some x=>
        have h' : @Bool.rec (fun _=>Option α) none e (Nat.beq n 0)=some r:=h
        cases n with
        | zero=>exact .inr (.inl ⟨b,o,x,c,rfl,h'⟩)
        | succ n=>cases h'
  | _=>cases h
theorem refK_some {v:Value} {f:Nat→Option α} (h:refK v f=some r):∃ i,v = .map (some i)∧f i=some r:=by
  cases v with
  | map p=>cases p with
    | none=>cases h
    | some a=>exact ⟨a,rfl,h⟩
  | _=>cases h
theorem tupK_some {v:Value} {f:List Value→Option α} (h:tupK v f=some r):∃ l,v = .tuple ⟨l⟩∧f l=some r:=by
  cases v with
  | tuple a=>obtain ⟨l⟩:=a;exact ⟨l,rfl,h⟩
  | _=>cases h
theorem funK_some {v:Value} {f:FuncId→List Value→Option α} (h:funK v f=some r):∃ g l,v = .func (.func g) ⟨[]⟩ ⟨l⟩∧f g l=some r:=by
  cases v with
  | func fn a b=>
    obtain ⟨a⟩:=a
    obtain ⟨b⟩:=b
    cases a with
    | nil=>cases fn with
      | func g=>exact ⟨g,b,rfl,h⟩
      | _=>cases h
    | cons x a=>cases h
  | _=>cases h
def cellsOfV (v:Value):List Value:=v.cells.toList
theorem cellsV_some {v:Value} {f:List Value→Option α} (h:cellsV v f=some r):f (cellsOfV v)=some r∧∀ l,v≠.tuple l:=by
  cases v with
  | agg a=>obtain ⟨l⟩:=a;exact ⟨h,fun l e=>by cases e⟩
  | tuple a=>cases h
  | _=>exact ⟨h,fun l e=>by cases e⟩
end
section
variable {σ:Sg}
theorem VT.int {k:IntKind} {n:Int} {v:Value} (h:VT σ (.int k n) v):v = .int k n:=by
  cases h with | va h=>cases h with | one h=>cases h;rfl
theorem VT.bool {b:Bool} {v:Value} (h:VT σ (.bool b) v):v = .bool b:=by
  cases h with | va h=>cases h with | one h=>cases h;rfl
theorem VT.str {b:ByteArray} {v:Value} (h:VT σ (.string b) v):v = .string b:=by
  cases h with | va h=>cases h with | one h=>cases h;rfl
theorem VT.ptr {a:Addr} {v:Value} (h:VT σ (.pointer (some a)) v):∃ p,σ a.block=some p∧a.spot=none∧v = .pointer (some ⟨p.b,a.off,none⟩):=by
  cases h with | va h=>cases h with | one h=>cases h with | ptr h=>cases h with | mk h=>exact ⟨_,h,rfl,rfl⟩
theorem VT.pnil {v:Value} (h:VT σ (.pointer none) v):v = .pointer none:=by
  cases h with | va h=>cases h with | one h=>cases h;rfl
theorem VT.snil {v:Value} (h:VT σ (.slice none 0 0) v):v = .slice none 0 0:=by
  cases h with | va h=>cases h with | one h=>cases h;rfl
theorem VT.sl {b o n c:Nat} {v:Value} (h:VT σ (.slice (some ⟨b,o,none⟩) n c) v):∃ p c',σ b=some p∧n≤c'∧c' < U∧RmR σ b o c c'∧v = .slice (some ⟨p.b,o,none⟩) n c':=by
  cases h with | va h=>cases h with | one h=>cases h with | sl h1 h2 h3 h4=>exact ⟨_,_,h1,h2,h3,h4,rfl⟩
theorem VT.sle {b o x n c:Nat} {v:Value} (h:VT σ (.slice (some ⟨b,o,some x⟩) n c) v):n=0∧∃ b' o' c',v = .slice (some ⟨b',o',none⟩) 0 c':=by
  cases h with | va h=>cases h with | one h=>cases h with | sle=>exact ⟨rfl,_,_,_,rfl⟩
theorem VT.slice {p:Option Addr} {n c:Nat} {v:Value} (h:VT σ (.slice p n c) v):∃ p' c',v = .slice p' n c':=by
  cases h with | va h=>cases h with | one h=>cases h <;> exact ⟨_,_,rfl⟩
theorem VT.mp {i:Nat} {v:Value} (h:VT σ (.map (some i)) v):∃ p,σ i=some p∧v = .map (some p.b):=by
  cases h with | va h=>cases h with | one h=>cases h with | mp h=>exact ⟨_,h,rfl⟩
theorem VT.tup' {l:List Value} {v:Value} (h:VT σ (.tuple ⟨l⟩) v):∃ l',v = .tuple ⟨l'⟩∧L2 (VA σ) l l':=by
  cases h with
  | va h=>cases h with | one h=>cases h
  | tup h=>exact ⟨_,rfl,h⟩
theorem VT.agg {l:List Value} {v:Value} (h:VT σ (.agg ⟨l⟩) v):∃ l',v = .agg ⟨l'⟩∧L2 (V1 σ) l l':=by
  cases h with | va h=>cases h with
    | one h=>cases h
    | agg h=>exact ⟨_,rfl,h⟩
theorem VT.fn {g:FuncId} {l:List Value} {v:Value} (h:VT σ (.func (.func g) ⟨[]⟩ ⟨l⟩) v):∃ l',v = .func (.func g) ⟨[]⟩ ⟨l'⟩∧l.length=l'.length∧∀ (j:Nat) (x y:Value),l[j]?=some x→l'[j]?=some y→V1 σ x y:=by
  cases h with | va h=>cases h with | one h=>cases h with | fn h1 h2=>exact ⟨_,rfl,h1,h2⟩
theorem VT.va' {v v':Value} (h:VT σ v v') (hn:∀ l,v≠.tuple l):VA σ v v':=by
  cases h with
  | va h=>exact h
  | tup h=>exact absurd rfl (hn _)
theorem VA.cells {v v':Value} (h:VA σ v v'):L2 (V1 σ) (cellsOfV v) (cellsOfV v'):=by
  cases h with
  | agg h=>exact h
  | one h=>cases h <;> exact .cons (by first | exact .int _ _ | exact .bool _ | exact .str _ | exact .pnil | exact .ptr ‹_› | exact .snil | exact .sl ‹_› ‹_› ‹_› ‹_› | exact .sle | exact .mnil | exact .mp ‹_› | exact .fnil | exact .chn | exact .nif | exact .fn ‹_› ‹_›) .nil
end
end Go.Proofs.YtnpdcjdmbkcpbaaGreat.Ev
namespace Go.Proofs.YtnpdcjdmbkcpbaaGreat.Ev
open Go
set_option maxRecDepth 1000000
noncomputable def chk (f:Nat→Bool) (n:Nat):Bool:=@Nat.rec (fun _=>Bool) true (fun t ih=>@Bool.rec (fun _=>Bool) false ih (f t)) n
theorem chk_all {f:Nat→Bool}:∀ {n:Nat},chk f n=true→∀ t,t < n→f t=true
  | n + 1,h,t,ht=>by
    have h' : @Bool.rec (fun _=>Bool) false (chk f n) (f n)=true:=h
    cases hf:f n with
    | false=>rw [hf] at h';cases h'
    | true=>
      rw [hf] at h'
      rcases Nat.lt_or_ge t n with h1 | h1
      · exact chk_all h' t h1
      · have:t=n:=by omega
        rw [this];exact hf
theorem shift_zero {n b k:Nat} (h:n < Nat.pow 2 b) (hk:b≤k):Nat.shiftRight n k=0:=by
  have:n >>> k=0:=by
    rw [Nat.shiftRight_eq_div_pow]
    exact Nat.div_eq_of_lt (Nat.lt_of_lt_of_le h (Nat.pow_le_pow_right (by omega) hk))
  exact this
def isAggD:TypeDesc→Bool
  | .struct _=>true
  | .array _ _=>true
  | _=>false
def zeroV:Value→Value→Bool
  | .int j x,.int k y=>Nat.beq (kn j) (kn k) && x == y
  | .bool a,.bool b=>a == b
  | .string a,.string b=>a.size == 0 && b.size == 0
  | .pointer none,.pointer none=>true
  | .slice none n c,.slice none m d=>Nat.beq n 0 && Nat.beq c 0 && Nat.beq m 0 && Nat.beq d 0
  | .map none,.map none=>true
  | .chan none,.chan none=>true
  | .nilFunc,.nilFunc=>true
  | .nilIface,.nilIface=>true
  | _,_=>false
def zeroL:List Value→List Value→Bool
  | [],[]=>true
  | u :: l,v :: m=>zeroV u v && zeroL l m
  | _,_=>false
def zeroC (b:Bool) (z:Value) (zs:List Value):Bool:=match z with
  | .agg c=>b && zeroL c.toList zs
  | .tuple _=>false
  | v=>!b && zeroL [v] zs
noncomputable def fieldC (t:Nat) (fs:List Field):Nat→Bool
  | 0=>true
  | i + 1=>(match Nat.land (offT t i) 65535 with
    | 0=>true
    | p + 1=>match fs[i]? with
      | none=>false
      | some f=>f.offset == p && (match Tryz.prog.info? f.type with | some j=>j.size == Nat.shiftRight (offT t i) 16 && j.size != 0 | none=>false)) && fieldC t fs i
noncomputable def sortC (t:Nat) (d:TypeDesc):Bool:=
  match sortT t,d with
  | 0,_=>true
  | 1,.bool=>true
  | 2,.int _=>true
  | 3,.string=>true
  | 4,.pointer _=>true
  | 5,.slice e=>e == elemT t
  | 6,.array n e=>e == elemT t && alenT t == n + 1
  | 7,.map k e=>e == elemT t && (match Tryz.prog.underlying k with | some (.int _)=>true | _=>false)
  | 10,.struct fs=>fs.toList.all (fun f=>(Tryz.prog.info? f.type).isSome)
  | 8,_=>true
  | 9,_=>true
  | _,_=>false
noncomputable def kindC (t:Nat) (d:TypeDesc):Bool:=
  match kindT t,d with
  | none,_=>true
  | some j,.int k=>Nat.beq (kn j) (kn k)
  | _,_=>false
noncomputable def alenC (t:Nat) (d:TypeDesc):Bool:=
  match alenT t,d with
  | 0,_=>true
  | n + 1,.array m e=>m == n && e == elemT t
  | _,_=>false
noncomputable def offC (t:Nat) (d:TypeDesc):Bool:=match look foT t with
  | none=>true
  | some n=>Nat.blt n (Nat.pow 2 (Nat.mul 32 40)) && (match d with | .struct fs=>fieldC t fs.toList 40 | _=>false)
noncomputable def tyC (t:Nat):Bool:=
  match Tryz.prog.info? t with
  | none=>false
  | some i=>i.bytes≤1048576 && (sizeT t == 0 || i.size == sizeT t) && (sizeT t == 0 || (match i.zero with | some z=>z.cells.size == i.size | none=>false)) &&
    match Tryz.prog.underlying t with
    | none=>false
    | some d=>(isAggD d == aggT t) && sortC t d && kindC t d && alenC t d && offC t d &&
      match look zeT t with
      | none=>true
      | some zs=>zs.length == i.size && (match i.zero with | some z=>zeroC (aggT t) z zs | none=>false)
theorem ty_c:chk tyC 392=true:=by kernel_rfl
def keysC {β:Type}:T β→Nat→Nat→Nat→Bool
  | .lf,_,_,_=>true
  | .nd v l r,m,a,n=>(v.isNone || Nat.blt a n) && keysC l (2 * m) (m + a) n && keysC r (2 * m) (2 * m + a) n
theorem keys_c {β:Type}:∀ (t:T β) (m a n:Nat),keysC t m a n=true→∀ k x,look t k=some x→m * k + a < n
  | .lf,m,a,n,h,k,x,hk=>by cases hk
  | .nd v l r,m,a,n,h,k,x,hk=>by
    unfold keysC at h
    simp only [Bool.and_eq_true,Bool.or_eq_true] at h
    obtain ⟨⟨h1,h2⟩,h3⟩:=h
    rw [look_nd] at hk
    split at hk
    · rename_i e;subst e;subst hk
      rcases h1 with h1 | h1
      · cases h1
      · have:=Nat.le_of_ble_eq_true h1;omega
    · rename_i e
      split at hk
      · rename_i e2
        have h4:=keys_c r _ _ _ h3 _ _ hk
        have h5:k=2 * ((k - 1) / 2) + 2:=by omega
        have h6:m * k=2 * m * ((k - 1) / 2) + 2 * m:=by
          conv=>lhs;rw [h5]
          rw [Nat.mul_add,← Nat.mul_assoc,Nat.mul_comm m 2]
        omega
      · rename_i e2
        have h4:=keys_c l _ _ _ h2 _ _ hk
        have h5:k=2 * (k / 2) + 1:=by omega
        have h6:m * k=2 * m * (k / 2) + m:=by
          conv=>lhs;rw [h5]
          rw [Nat.mul_add,← Nat.mul_assoc,Nat.mul_comm m 2,Nat.mul_one]
        omega
theorem ze_k:keysC zeT 1 0 392=true:=by kernel_rfl
theorem fo_k:keysC foT 1 0 392=true:=by kernel_rfl
theorem szN_b:Nat.ble (Nat.succ szN) (Nat.pow 2 (Nat.mul 16 392))=true:=by kernel_rfl
theorem szN_lt:szN < Nat.pow 2 (Nat.mul 16 392):=Nat.le_of_ble_eq_true szN_b
theorem soN_b:Nat.ble (Nat.succ soN) (Nat.pow 2 (Nat.mul 4 392))=true:=by kernel_rfl
theorem soN_lt:soN < Nat.pow 2 (Nat.mul 4 392):=Nat.le_of_ble_eq_true soN_b
theorem kdN_b:Nat.ble (Nat.succ kdN) (Nat.pow 2 (Nat.mul 4 392))=true:=by kernel_rfl
theorem kdN_lt:kdN < Nat.pow 2 (Nat.mul 4 392):=Nat.le_of_ble_eq_true kdN_b
theorem lnN_b:Nat.ble (Nat.succ lnN) (Nat.pow 2 (Nat.mul 16 392))=true:=by kernel_rfl
theorem lnN_lt:lnN < Nat.pow 2 (Nat.mul 16 392):=Nat.le_of_ble_eq_true lnN_b
theorem size_lt {t:Nat} (h:sizeT t≠0):t < 392:=by
  rcases Nat.lt_or_ge t 392 with h1 | h1
  · exact h1
  · refine absurd ?_ h
    unfold sizeT
    have h3:Nat.shiftRight szN (Nat.mul 16 t)=0:=shift_zero szN_lt (show 16 * 392≤16 * t by omega)
    rw [h3];rfl
theorem sort_lt {t:Nat} (h:sortT t≠0):t < 392:=by
  rcases Nat.lt_or_ge t 392 with h1 | h1
  · exact h1
  · refine absurd ?_ h
    unfold sortT
    have h3:Nat.shiftRight soN (Nat.mul 4 t)=0:=shift_zero soN_lt (show 4 * 392≤4 * t by omega)
    rw [h3];rfl
theorem kind_lt {t:Nat} (h:kindT t≠none):t < 392:=by
  rcases Nat.lt_or_ge t 392 with h1 | h1
  · exact h1
  · refine absurd ?_ h
    unfold kindT
    have h3:Nat.shiftRight kdN (Nat.mul 4 t)=0:=shift_zero kdN_lt (show 4 * 392≤4 * t by omega)
    rw [h3];rfl
theorem alen_lt {t:Nat} (h:alenT t≠0):t < 392:=by
  rcases Nat.lt_or_ge t 392 with h1 | h1
  · exact h1
  · refine absurd ?_ h
    unfold alenT
    have h3:Nat.shiftRight lnN (Nat.mul 16 t)=0:=shift_zero lnN_lt (show 16 * 392≤16 * t by omega)
    rw [h3];rfl
structure TyOk (t:Nat) (i:TypeInfo) (d:TypeDesc):Prop where
  info:Tryz.prog.info? t=some i
  desc:Tryz.prog.underlying t=some d
  bytes:i.bytes≤1048576
  size:sizeT t=0∨i.size=sizeT t
  zval:sizeT t=0∨∃ z,i.zero=some z∧z.cells.size=i.size
  agg:isAggD d=aggT t
  sort:sortC t d=true
  kind:kindC t d=true
  alen:alenC t d=true
  off:offC t d=true
  zero:∀ zs,look zeT t=some zs→zs.length=i.size∧∃ z,i.zero=some z∧zeroC (aggT t) z zs=true
theorem ty_ok {t:Nat} (ht:t < 392):∃ i d,TyOk t i d:=by
  have h:=chk_all ty_c t ht
  unfold tyC at h
  cases hi:Tryz.prog.info? t with
  | none=>rw [hi] at h;cases h
  | some i=>
    rw [hi] at h
    cases hd:Tryz.prog.underlying t with
    | none=>rw [hd] at h;simp at h
    | some d=>
      rw [hd] at h
      simp only [Bool.and_eq_true,decide_eq_true_eq,Bool.or_eq_true,beq_iff_eq] at h
      obtain ⟨⟨⟨h1,h2⟩,h20⟩,⟨⟨⟨⟨h3,h4⟩,h5⟩,h6⟩,h7⟩,h8⟩:=h
      have h21:sizeT t=0∨∃ z,i.zero=some z∧z.cells.size=i.size:=by
        rcases h20 with h | h
        · exact .inl h
        · cases hz:i.zero with
          | none=>rw [hz] at h;cases h
          | some z=>rw [hz] at h;exact .inr ⟨z,rfl,by simpa using h⟩
      refine ⟨i,d,hi,hd,h1,h2,h21,h3,h4,h5,h6,h7,fun zs hz=>?_⟩
      rw [hz] at h8
      simp only [Bool.and_eq_true,beq_iff_eq] at h8
      refine ⟨h8.1,?_⟩
      cases hz:i.zero with
      | none=>rw [hz] at h8;simp at h8
      | some z=>rw [hz] at h8;exact ⟨z,rfl,h8.2⟩
theorem kn_inj {j k:IntKind} (h:Nat.beq (kn j) (kn k)=true):j=k:=by
  have:=Nat.eq_of_beq_eq_true h
  cases j <;> cases k <;> first | rfl | (simp [kn] at this)
theorem size_ok {t n:Nat} (h:sizeT t=n + 1):∃ i d,TyOk t i d∧i.size=n + 1:=by
  obtain ⟨i,d,k⟩:=ty_ok (size_lt (t:=t) (by omega))
  exact ⟨i,d,k,by rcases k.size with h1 | h1 <;> omega⟩
def SortR (t:Nat):Nat→Prop
  | 1=>Tryz.prog.underlying t=some .bool
  | 2=>∃ k,Tryz.prog.underlying t=some (.int k)
  | 3=>Tryz.prog.underlying t=some .string
  | 4=>∃ e,Tryz.prog.underlying t=some (.pointer e)
  | 5=>Tryz.prog.underlying t=some (.slice (elemT t))
  | 6=>∃ n,Tryz.prog.underlying t=some (.array n (elemT t))∧alenT t=n + 1
  | 7=>∃ q k,Tryz.prog.underlying t=some (.map q (elemT t))∧Tryz.prog.underlying q=some (.int k)
  | 10=>∃ fs,Tryz.prog.underlying t=some (.struct fs)∧∀ f∈fs.toList,(Tryz.prog.info? f.type).isSome=true
  | _=>True
theorem sort_ok {t c:Nat} (h:sortT t=c) (hc:c≠0):SortR t c:=by
  obtain ⟨i,d,k⟩:=ty_ok (sort_lt (t:=t) (by omega))
  have h1:=k.sort
  have h2:=k.desc
  unfold sortC at h1
  subst h
  split at h1 <;> rename_i e
  all_goals first
    | exact absurd e hc
    | (rw [e];exact h2)
    | (rw [e];exact ⟨_,h2⟩)
    | (rw [e];exact ⟨_,h2,fun f hf=>List.all_eq_true.1 h1 f hf⟩)
    | (rw [e];simp only [Bool.and_eq_true,beq_iff_eq] at h1;obtain ⟨rfl,h3⟩:=h1;exact ⟨_,h2,h3⟩)
    | (rw [e];simp only [beq_iff_eq] at h1;subst h1;exact h2)
    | (rw [e];trivial)
    | (cases h1)
    | (rw [e];simp only [Bool.and_eq_true,beq_iff_eq] at h1;obtain ⟨rfl,h3⟩:=h1;split at h3
       · rename_i e2;exact ⟨_,_,h2,e2⟩
       · cases h3)
theorem kind_ok {t:Nat} {j:IntKind} (h:kindT t=some j):Tryz.prog.underlying t=some (.int j):=by
  obtain ⟨i,d,k⟩:=ty_ok (kind_lt (t:=t) (by rw [h];simp))
  have h1:=k.kind
  unfold kindC at h1
  rw [h] at h1
  split at h1
  · rename_i e;cases e
  · rename_i j' k' e
    cases e
    rw [kn_inj h1];exact k.desc
  · cases h1
theorem alen_ok {t n:Nat} (h:alenT t=n + 1):Tryz.prog.underlying t=some (.array n (elemT t)):=by
  obtain ⟨i,d,k⟩:=ty_ok (alen_lt (t:=t) (by omega))
  have h1:=k.alen
  unfold alenC at h1
  rw [h] at h1
  split at h1
  · rename_i e;cases e
  · rename_i e
    simp only [Bool.and_eq_true,beq_iff_eq] at h1
    obtain ⟨rfl,rfl⟩:=h1
    cases e
    exact k.desc
  · cases h1
theorem field_ok {t:Nat} {fs:List Field}:∀ {n i p:Nat},fieldC t fs n=true→i < n→Nat.land (offT t i) 65535=p + 1→∃ f j,fs[i]?=some f∧f.offset=p∧Tryz.prog.info? f.type=some j∧j.size=Nat.shiftRight (offT t i) 16∧j.size≠0
  | n + 1,i,p,h,hi,hp=>by
    have h':((match Nat.land (offT t n) 65535 with
      | 0=>true
      | p + 1=>match fs[n]? with
        | none=>false
        | some f=>f.offset == p && (match Tryz.prog.info? f.type with | some j=>j.size == Nat.shiftRight (offT t n) 16 && j.size != 0 | none=>false)) && fieldC t fs n)=true:=h
    rw [Bool.and_eq_true] at h'
    obtain ⟨h1,h2⟩:=h'
    by_cases e:i=n
    · subst e
      rw [hp] at h1
      cases hf:fs[i]? with
      | none=>rw [hf] at h1;cases h1
      | some f=>
        rw [hf] at h1
        simp only [Bool.and_eq_true,beq_iff_eq] at h1
        obtain ⟨h3,h4⟩:=h1
        cases hj:Tryz.prog.info? f.type with
        | none=>rw [hj] at h4;cases h4
        | some j=>
          rw [hj] at h4
          simp only [Bool.and_eq_true,beq_iff_eq,bne_iff_ne] at h4
          exact ⟨f,j,rfl,h3,hj,h4.1,h4.2⟩
    · exact field_ok h2 (by omega) hp
theorem off_ok {t i p:Nat} (h:Nat.land (offT t i) 65535=p + 1):∃ fs f j,Tryz.prog.underlying t=some (.struct fs)∧fs[i]?=some f∧f.offset=p∧Tryz.prog.info? f.type=some j∧j.size=Nat.shiftRight (offT t i) 16∧j.size≠0:=by
  have ho:∃ n,look foT t=some n:=by
    cases hl:look foT t with
    | some n=>exact ⟨n,rfl⟩
    | none=>
      have:offT t i=0:=by
        unfold offT
        rw [getK_look,hl];rfl
      rw [this] at h;cases h
  obtain ⟨n,hn⟩:=ho
  have ht:t < 392:=by have:=keys_c foT 1 0 392 fo_k t n hn;omega
  obtain ⟨q,d,k⟩:=ty_ok ht
  have h1:=k.off
  unfold offC at h1
  rw [hn] at h1
  rw [Bool.and_eq_true] at h1
  obtain ⟨hb,h1⟩:=h1
  cases d with
  | struct fs=>
    have hi:i < 40:=by
      rcases Nat.lt_or_ge i 40 with h2 | h2
      · exact h2
      · have:offT t i=0:=by
          unfold offT
          rw [getK_look,hn]
          have h3:Nat.shiftRight n (Nat.mul 32 i)=0:=shift_zero (Nat.le_of_ble_eq_true hb) (show 32 * 40≤32 * i by omega)
          show optN (some (Nat.land (Nat.shiftRight n (Nat.mul 32 i)) 4294967295))=0
          rw [h3];rfl
        rw [this] at h;cases h
    obtain ⟨f,j,h3,h4⟩:=field_ok h1 hi h
    exact ⟨fs,f,j,k.desc,by rw [← Array.getElem?_toList];exact h3,h4⟩
  | _=>cases h1
theorem zeroV_ok {u v:Value} (h:zeroV u v=true):u=v∧∀ σ,V1 σ u u:=by
  unfold zeroV at h
  split at h
  · simp only [Bool.and_eq_true,beq_iff_eq] at h;obtain ⟨h1,rfl⟩:=h;rw [kn_inj h1];exact ⟨rfl,fun σ=>.int _ _⟩
  · simp only [beq_iff_eq] at h;subst h;exact ⟨rfl,fun σ=>.bool _⟩
  · rename_i a b
    simp only [Bool.and_eq_true,beq_iff_eq] at h
    have e:a=b:=by
      obtain ⟨⟨a⟩⟩:=a
      obtain ⟨⟨b⟩⟩:=b
      have h1:a.length=0:=h.1
      have h2:b.length=0:=h.2
      rw [List.length_eq_zero_iff] at h1 h2
      rw [h1,h2]
    exact ⟨by rw [e],fun σ=>.str _⟩
  · exact ⟨rfl,fun σ=>.pnil⟩
  · simp only [Bool.and_eq_true] at h
    obtain ⟨⟨⟨h1,h2⟩,h3⟩,h4⟩:=h
    rw [Nat.eq_of_beq_eq_true h1,Nat.eq_of_beq_eq_true h2,Nat.eq_of_beq_eq_true h3,Nat.eq_of_beq_eq_true h4]
    exact ⟨rfl,fun σ=>.snil⟩
  · exact ⟨rfl,fun σ=>.mnil⟩
  · exact ⟨rfl,fun σ=>.chn⟩
  · exact ⟨rfl,fun σ=>.fnil⟩
  · exact ⟨rfl,fun σ=>.nif⟩
  · cases h
theorem zeroL_ok:∀ {l m:List Value},zeroL l m=true→l=m∧∀ σ,L2 (V1 σ) l l
  | [],[],_=>⟨rfl,fun σ=>.nil⟩
  | u :: l,v :: m,h=>by
    have h':(zeroV u v && zeroL l m)=true:=h
    rw [Bool.and_eq_true] at h'
    obtain ⟨h1,h2⟩:=zeroV_ok h'.1
    obtain ⟨h3,h4⟩:=zeroL_ok h'.2
    exact ⟨by rw [h1,h3],fun σ=>.cons (h2 σ) (h4 σ)⟩
  | [],_ :: _,h=>by cases h
  | _ :: _,[],h=>by cases h
theorem zero_ok {t:Nat} {zs:List Value} (h:look zeT t=some zs):∃ i d z,TyOk t i d∧i.zero=some z∧z.cells.toList=zs∧zs.length=i.size∧(∀ σ,L2 (V1 σ) zs zs)∧(aggT t=false→zs=[z]):=by
  have ht:t < 392:=by have:=keys_c zeT 1 0 392 ze_k t zs h;omega
  obtain ⟨i,d,k⟩:=ty_ok ht
  obtain ⟨h1,z,h2,h3⟩:=k.zero zs h
  refine ⟨i,d,z,k,h2,?_⟩
  unfold zeroC at h3
  split at h3
  · rename_i c
    simp only [Bool.and_eq_true] at h3
    obtain ⟨h4,h5⟩:=zeroL_ok h3.2
    exact ⟨h4,h1,by rw [← h4];exact h5,fun e=>by rw [h3.1] at e;cases e⟩
  · cases h3
  · rename_i hn1 hn2
    simp only [Bool.and_eq_true] at h3
    obtain ⟨h4,h5⟩:=zeroL_ok h3.2
    refine ⟨?_,h1,by rw [← h4];exact h5,fun _=>h4.symm⟩
    rw [← h4]
    cases z <;> first | rfl | exact absurd rfl (hn1 _)
end Go.Proofs.YtnpdcjdmbkcpbaaGreat.Ev
namespace Go.Proofs.YtnpdcjdmbkcpbaaGreat.Ev
open Go
def PureR (op:Op) (tm:Tm) (v:Value):Prop:=
  ∀ (σ:Sg) (w:World) (a:Act) (o:Oper),o.op=op→OpsR σ tm a op→∃ v',(execOp a.eval o).run Tryz.prog w = .ok (.value v') w∧VT σ v v'
def ReadR (op:Op) (tm:Tm) (s:St) (v:Value):Prop:=
  ∀ (σ:Sg) (w:World) (a:Act) (o:Oper),o.op=op→SimO σ s w→OpsR σ tm a op→∃ v',(execOp a.eval o).run Tryz.prog w = .ok (.value v') w∧VT σ v v'
def FloR (op:Op) (tm:Tm) (v:Value) (nm:Nat) (x:Ob):Prop:=
  ∀ (σ:Sg) (w:World) (a:Act) (o:Oper),o.op=op→OpsR σ tm a op→σ nm=none →
    ∃ v' w' p,(execOp a.eval o).run Tryz.prog w = .ok (.value v') w'∧Oth (fun _=>False) w w'∧p.b=w.heap.size∧OR (σ.add nm p) p x w'.heap[p.b]?∧VT (σ.add nm p) v v'
def EffR (op:Op) (tm:Tm) (s:St) (v:Value) (s':St):Prop:=
  ∀ (σ:Sg) (w:World) (a:Act) (o:Oper) (K:Act→World→Prop) (Q:Exit→Act→World→Prop),o.op=op→Sim σ s w→OpsR σ tm a op →
    (∀ v' w' σ',Goes σ s w σ' s' w'→VT σ' v v'→K (a.put o.dst v') w')→o.wp Tryz.prog a w K Q
theorem PureR.read {op:Op} {tm:Tm} {v:Value} (h:PureR op tm v) (s:St):ReadR op tm s v:=fun σ w a o ho _ ht=>h σ w a o ho ht
theorem ReadR.eff {op:Op} {tm:Tm} {s:St} {v:Value} (h:ReadR op tm s v):EffR op tm s v s:=fun σ w a o K Q ho hs ht hk=>by
  obtain ⟨v',h1,h2⟩:=h σ w a o ho hs.o ht
  unfold Oper.wp
  rw [h1]
  exact hk v' w σ (.refl hs) h2
theorem FloR.eff {op:Op} {tm:Tm} {s:St} {v:Value} {x:Ob} (h:FloR op tm v s.next x):EffR op tm s v (s.add x):=fun σ w a o K Q ho hs ht hk=>by
  obtain ⟨v',w',p,h1,h2,h3,h4,h5⟩:=h σ w a o ho ht (hs.new _ (Nat.le_refl _))
  unfold Oper.wp
  rw [h1]
  exact hk v' w' _ (hs.more h2 h3 h4) h5
theorem EffR.of {op:Op} {tm:Tm} {s s':St} {v:Value} (h:∀ (σ:Sg) (w:World) (a:Act) (o:Oper),o.op=op→Sim σ s w→OpsR σ tm a op →
    ∃ nx v' w' σ',(execOp a.eval o).run Tryz.prog w = .ok nx w'∧(nx = .value v'∨(nx = .skip∧v'=undef))∧Goes σ s w σ' s' w'∧VT σ' v v'):EffR op tm s v s':=fun σ w a o K Q ho hs ht hk=>by
  obtain ⟨nx,v',w',σ',h1,h2,h3,h4⟩:=h σ w a o ho hs ht
  unfold Oper.wp
  rw [h1]
  rcases h2 with rfl | ⟨rfl,rfl⟩
  · exact hk v' w' σ' h3 h4
  · exact hk undef w' σ' h3 h4
theorem oth_alloc (S:Nat→Prop) (w:World) (o:Obj):Oth S w (w.alloc o):=⟨rfl,rfl,rfl,by simp,fun k hk _=>heap_alloc_old w o hk⟩
theorem OR.row {σ:Sg} {p:Pl} {l:List Value} {t:TypeId} {c:Array Value} (h1:c.size=p.cap * p.z) (h0:p.z=sizeT t) (h2:0 < p.z) (h3:L2 (V1 σ) l c.toList):OR σ p (.cells l t) (some (.cells c t (0,0))):=
  .cells h1 h0 h2 (by rw [h3.length];simp) (by rw [List.take_of_length_le (by rw [h3.length];simp)];exact h3)
theorem VT.here {σ:Sg} {nm o:Nat} {p:Pl}:VT (σ.add nm p) (.pointer (some ⟨nm,o,none⟩)) (.pointer (some ⟨p.b,o,none⟩)):=.va (.one (.ptr (.mk (Sg.add_at _ _ _))))
section
variable {α:Type} {r:α}
theorem sizeK_some {t:TypeId} {f:Nat→Option α} (h:sizeK t f=some r):∃ n i d,TyOk t i d∧i.size=n + 1∧sizeT t=n + 1∧f (n + 1)=some r:=by
  unfold sizeK at h
  cases hs:sizeT t with
  | zero=>rw [hs] at h;cases h
  | succ n=>
    rw [hs] at h
    obtain ⟨i,d,h1,h2⟩:=size_ok hs
    exact ⟨n,i,d,h1,h2,rfl,h⟩
theorem sortK_some {t c:Nat} {f:Option α} (h:sortK t c f=some r):sortT t=c∧f=some r:=by
  unfold sortK at h
  cases hb:Nat.beq (sortT t) c with
  | false=>rw [hb] at h;cases h
  | true=>rw [hb] at h;exact ⟨Nat.eq_of_beq_eq_true hb,h⟩
theorem bif_some {c:Bool} {x:Option α} (h : @Bool.rec (fun _=>Option α) none x c=some r):c=true∧x=some r:=by
  cases c with
  | false=>cases h
  | true=>exact ⟨rfl,h⟩
theorem TyOk.same {t:Nat} {i j:TypeInfo} {d e:TypeDesc} (h:TyOk t i d) (k:TyOk t j e):i=j∧d=e:=by
  have h1:=h.info
  have h2:=h.desc
  rw [k.info] at h1
  rw [k.desc] at h2
  cases h1;cases h2;exact ⟨rfl,rfl⟩
end
section
variable {cf:CallF} {tm:Tm} {s:St} {k:Value→St→R} {r:Tm × St}
theorem move_some {x:Operand} (h:moveK x cf tm s k=some r):∃ v,k v s=some r∧PureR (.move x) tm v∧PureR (.assign x) tm v:=by
  obtain ⟨v,h1,h2⟩:=evK_some (x:=x) (tm:=tm) (f:=fun v=>k v s) h
  exact ⟨v,h1,fun σ w a o ho ht=>⟨a.eval x,by simp [execOp,ho],h2 σ a (ht x (by simp [Op.operands]))⟩,fun σ w a o ho ht=>⟨a.eval x,by simp [execOp,ho],h2 σ a (ht x (by simp [Op.operands]))⟩⟩
theorem pick_some {c x y:Operand} (h:pickK c x y cf tm s k=some r):∃ v,k v s=some r∧PureR (.pick c x y) tm v:=by
  obtain ⟨b,h1,h2⟩:=evK_some (x:=c) (tm:=tm) (f:=fun v=>boolK v (evK x tm fun v=>k v s) (evK y tm fun v=>k v s)) h
  rcases boolK_some h1 with ⟨rfl,h3⟩ | ⟨rfl,h3⟩
  · obtain ⟨v,h4,h5⟩:=evK_some (x:=x) (tm:=tm) (f:=fun v=>k v s) h3
    exact ⟨v,h4,fun σ w a o ho ht=>⟨a.eval x,by simp [execOp,ho,(h2 σ a (ht c (by simp [Op.operands]))).bool,asBool],h5 σ a (ht x (by simp [Op.operands]))⟩⟩
  · obtain ⟨v,h4,h5⟩:=evK_some (x:=y) (tm:=tm) (f:=fun v=>k v s) h3
    exact ⟨v,h4,fun σ w a o ho ht=>⟨a.eval y,by simp [execOp,ho,(h2 σ a (ht c (by simp [Op.operands]))).bool,asBool],h5 σ a (ht y (by simp [Op.operands]))⟩⟩
theorem extract_some {x:Operand} {i:Nat} (h:extractK x i cf tm s k=some r):∃ v,k v s=some r∧PureR (.extract x i) tm v:=by
  obtain ⟨b,h1,h2⟩:=evK_some (x:=x) (tm:=tm) (f:=fun v=>tupK v fun l=>nthK l i fun v=>k v s) h
  obtain ⟨l,rfl,h3⟩:=tupK_some h1
  obtain ⟨v,h4,h5⟩:=nthK_some h3
  refine ⟨v,h5,fun σ w a o ho ht=>?_⟩
  obtain ⟨l',h6,h7⟩:=(h2 σ a (ht x (by simp [Op.operands]))).tup'
  obtain ⟨v',h8,h9⟩:=h7.get h4
  exact ⟨v',by simp [execOp,ho,h6,Instr.extract,h8],.va h9⟩
theorem nilCheck_some {x:Operand} (h:nilCheckK x cf tm s k=some r):∃ v,k v s=some r∧PureR (.nilCheck x) tm v:=by
  obtain ⟨b,h1,h2⟩:=evK_some (x:=x) (tm:=tm) (f:=fun v=>ptrK v fun _=>k v s) h
  obtain ⟨ad,rfl,h3⟩:=ptrK_some h1
  refine ⟨_,h3,fun σ w a o ho ht=>?_⟩
  have h4:=h2 σ a (ht x (by simp [Op.operands]))
  obtain ⟨p,h5,h6,h7⟩:=h4.ptr
  have h8:VT σ _ (a.eval x):=h4
  rw [h7] at h8
  exact ⟨_,by simp only [execOp,ho,h7];rfl,h8⟩
theorem zeroK_some {α:Type} {r:α} {t:TypeId} {f:List Value→Option α} (h:zeroK t f=some r):∃ zs,look zeT t=some zs∧f zs=some r:=by
  unfold zeroK at h
  rw [getK_look] at h
  cases hl:look zeT t with
  | none=>rw [hl] at h;cases h
  | some zs=>rw [hl] at h;exact ⟨zs,rfl,h⟩
theorem alloc_some {e:TypeId} (h:allocK e cf tm s k=some r):∃ v x,k v (s.add x)=some r∧FloR (.alloc e) tm v s.next x:=by
  obtain ⟨n,i2,d2,q1,q2,q3,h0⟩:=sizeK_some (t:=e) h
  obtain ⟨zs,h1,h2⟩:=zeroK_some (t:=e) (f:=fun z=>newS s (.cells z e) fun i s'=>k (ptr i) s') h0
  rw [newS_eq] at h2
  refine ⟨_,_,h2,fun σ w a o ho ht hn=>?_⟩
  obtain ⟨i,d,z,h3,h4,h5,h6,h7,_⟩:=zero_ok h1
  obtain ⟨rfl,rfl⟩:=q1.same h3
  have hz:z.cells.size=n + 1:=by rw [← q2,← h6,← h5];simp
  refine ⟨.pointer (some ⟨w.heap.size,0,none⟩),w.alloc (.cells z.cells e (0,0)),⟨w.heap.size,1,n + 1⟩,?_,oth_alloc _ _ _,rfl,?_,.here⟩
  · simp [execOp,ho,Instr.alloc,zeroValue,typeInfo,h3.info,h4,newVar,newRow]
  · rw [heap_alloc_new]
    exact .row (by simp [hz]) q3.symm (by simp) (by rw [h5];exact h7 _)
theorem box_some {e:TypeId} {x:Operand} (h:boxK e x cf tm s k=some r):∃ v x',k v (s.add x')=some r∧FloR (.box e x) tm v s.next x':=by
  obtain ⟨b,h1,h2⟩:=evK_some (x:=x) (tm:=tm) (f:=fun v=>cellsV v fun l=>sizeK e fun n=>@Bool.rec (fun _=>R) none (newS s (.cells l e) fun i s'=>k (ptr i) s') (Nat.beq l.length n)) h
  obtain ⟨h3,h4⟩:=cellsV_some h1
  obtain ⟨n,i2,d2,q1,q2,q3,h0⟩:=sizeK_some (t:=e) h3
  obtain ⟨hb,h0⟩:=bif_some h0
  rw [newS_eq] at h0
  refine ⟨_,_,h0,fun σ w a o ho ht hn=>?_⟩
  have h5:=((h2 σ a (ht x (by simp [Op.operands]))).va' h4).cells
  have hz:(a.eval x).cells.size=n + 1:=by
    rw [← Nat.eq_of_beq_eq_true hb,h5.length];simp [cellsOfV]
  have hle:σ.Le (σ.add s.next ⟨w.heap.size,1,n + 1⟩):=Sg.le_add hn
  refine ⟨.pointer (some ⟨w.heap.size,0,none⟩),w.alloc (.cells (a.eval x).cells e (0,0)),⟨w.heap.size,1,n + 1⟩,?_,oth_alloc _ _ _,rfl,?_,.here⟩
  · simp [execOp,ho,Instr.box,newVar,newRow]
  · rw [heap_alloc_new]
    exact .row (by simp [hz]) q3.symm (by simp) (h5.mono fun _ _=>V1.mono hle)
theorem makeMap_some {t:TypeId} {q:Option Operand} (h:makeMapK t q cf tm s k=some r):∃ v x,k v (s.add x)=some r∧FloR (.makeMap t q) tm v s.next x:=by
  cases q with
  | some x=>cases h
  | none=>
    have h1:newS s (.map []) (fun i s'=>k (.map (some i)) s')=some r:=h
    rw [newS_eq] at h1
    refine ⟨_,_,h1,fun σ w a o ho ht hn=>⟨.map (some w.heap.size),w.alloc (.map #[] 0),⟨w.heap.size,0,1⟩,?_,oth_alloc _ _ _,rfl,?_,.va (.one (.mp (Sg.add_at _ _ _)))⟩⟩
    · simp [execOp,ho,Instr.makeMap]
    · rw [heap_alloc_new];exact .map .nil
end
end Go.Proofs.YtnpdcjdmbkcpbaaGreat.Ev
namespace Go.Proofs.YtnpdcjdmbkcpbaaGreat.Ev
open Go
theorem L2.over {R:Value→Value→Prop} {l l' ys ys':List Value} (n:Nat) (h:L2 R l l') (k:L2 R ys ys'):L2 R (over l n ys) (over l' n ys'):=by
  unfold Ev.over
  rw [k.length]
  exact ((h.take n).append k).append (h.drop _)
theorem over_length {l ys:List Value} {n:Nat} (h:n + ys.length≤l.length):(over l n ys).length=l.length:=by
  simp [over];omega
theorem sets_over (off:Nat):∀ (ys:List Value) (n:Nat) (cs:Array Value),off + n + ys.length≤cs.size →
    ((ys.zipIdx n).foldl (fun (cs:Array Value) (p:Value × Nat)=>cs.setIfInBounds (off + p.2) p.1) cs).toList=over cs.toList (off + n) ys
  | [],n,cs,_=>by simp [over]
  | y :: ys,n,cs,h=>by
    simp only [List.zipIdx_cons,List.foldl_cons]
    rw [sets_over off ys (n + 1) _ (by simp at h ⊢;omega)]
    have e:=list_seg_step cs.toList (off + n) y ys (by simp at h ⊢;omega)
    simp only [over,Array.toList_setIfInBounds,List.length_cons]
    rw [show off + (n + 1)=off + n + 1 by omega]
    exact e
theorem fill_over (plc:Nat→Option (Nat × Nat)) (cs:Array Value) (i off:Nat) (v:Value) (rest:List (Nat × Value)) (hp:plc i=some (off,v.cells.size)) (h:off + v.cells.size≤cs.size) :
    ∃ cs':Array Value,cs'.toList=over cs.toList off v.cells.toList∧Instr.fill plc cs ((i,v) :: rest)=Instr.fill plc cs' rest:=by
  refine ⟨v.cells.zipIdx.foldl (fun cs (c,j)=>cs.setIfInBounds (off + j) c) cs,?_,?_⟩
  · rw [← Array.foldl_toList,Array.toList_zipIdx]
    exact sets_over off v.cells.toList 0 cs (by simpa using h)
  · have h':¬ (cs.size < off + v.cells.size):=by omega
    simp [Instr.fill,hp,h']
section
variable {tm:Tm} {r:Tm × St}
theorem fillL_some {place:Nat→(Nat→Nat→R)→R} {plc:Nat→Option (Nat × Nat)} (hp:∀ i g,place i g=some r→∃ off n,g off n=some r∧plc i=some (off,n)) :
    ∀ {parts:List (Nat × Operand)} {cs:List Value} {f:List Value→R},fillL place tm parts cs f=some r→∃ l,f l=some r∧l.length=cs.length ∧
      ∀ σ a,(∀ p∈parts,TmAt σ tm a p.2)→∀ cs':Array Value,L2 (V1 σ) cs cs'.toList→∃ l',Instr.fill plc cs' (parts.map fun p=>(p.1,a.eval p.2))=some l'∧L2 (V1 σ) l l'.toList
  | [],cs,f,h=>⟨cs,h,rfl,fun σ a _ cs' hc=>⟨cs',rfl,hc⟩⟩
  | (i,x) :: parts,cs,f,h=>by
    obtain ⟨v,h1,h2⟩:=evK_some (x:=x) (tm:=tm) (f:=fun v=>cellsV v fun l=>place i fun q n=>@Bool.rec (fun _=>R) none (writeK cs q l fun cs=>fillL place tm parts cs f) (Nat.beq l.length n)) h
    obtain ⟨h3,h4⟩:=cellsV_some h1
    obtain ⟨off,n,h5,h6⟩:=hp _ _ h3
    cases hb:Nat.beq (cellsOfV v).length n with
    | false=>rw [hb] at h5;cases h5
    | true=>
      rw [hb] at h5
      have hn:=Nat.eq_of_beq_eq_true hb
      obtain ⟨h7,h8⟩:=writeK_some (f:=fun cs=>fillL place tm parts cs f) h5
      obtain ⟨l,h9,h10,h11⟩:=fillL_some hp (parts:=parts) h8
      refine ⟨l,h9,by rw [h10,over_length h7],fun σ a ha cs' hc=>?_⟩
      have hv:=((h2 σ a (ha (i,x) (by simp))).va' h4).cells
      have hl:(a.eval x).cells.size=n:=by rw [← hn,hv.length];simp [cellsOfV]
      have hcl:=hc.length
      obtain ⟨cs2,h12,h13⟩:=fill_over plc cs' i off (a.eval x) (parts.map fun p=>(p.1,a.eval p.2)) (by rw [h6,hl]) (by rw [hl,← hn];simp at hcl;omega)
      obtain ⟨l',h14,h15⟩:=h11 σ a (fun p hp=>ha p (by simp [hp])) cs2 (by rw [h12];exact hc.over off hv)
      exact ⟨l',by rw [List.map_cons,h13];exact h14,h15⟩
theorem fillK_some {place:Nat→(Nat→Nat→R)→R} {plc:Nat→Option (Nat × Nat)} (hp:∀ i g,place i g=some r→∃ off n,g off n=some r∧plc i=some (off,n))
    {parts:Array (Nat × Operand)} {cs:List Value} {f:List Value→R} (h:fillK place tm parts cs f=some r):∃ l,f l=some r∧l.length=cs.length ∧
      ∀ σ a,(∀ p∈parts.toList,TmAt σ tm a p.2)→∀ cs':Array Value,L2 (V1 σ) cs cs'.toList→∃ l',Instr.fill plc cs' (parts.map fun (p:Nat × Operand)=>(p.1,a.eval p.2)).toList=some l'∧L2 (V1 σ) l l'.toList:=by
  unfold fillK at h
  rw [listK_eq] at h
  obtain ⟨l,h1,h2,h3⟩:=fillL_some hp h
  refine ⟨l,h1,h2,fun σ a ha cs' hc=>?_⟩
  obtain ⟨l',h4,h5⟩:=h3 σ a ha cs' hc
  exact ⟨l',by rw [Array.toList_map];exact h4,h5⟩
end
section
variable {α:Type} {r:α}
theorem repK_eq (n:Nat) (l:List Value):∀ (f:List Value→Option α),repK n l f=f (List.replicate n l).flatten:=by
  induction n with
  | zero=>intro f;rfl
  | succ n ih=>
    intro f
    show repK n l (fun r=>appK l r f)=_
    rw [ih,appK_eq,List.replicate_succ,List.flatten_cons]
theorem made_cells (z:Array Value) (m:Nat):(((Array.range (m * z.size)).map (z[· % z.size]!)).toList)=(List.replicate m z.toList).flatten:=by
  rw [Array.toList_map,Array.toList_range]
  induction m with
  | zero=>simp
  | succ m ih=>
    rw [show (m + 1) * z.size=z.size + m * z.size by rw [Nat.succ_mul];omega,List.range_add,List.map_append,List.map_map,List.replicate_succ,List.flatten_cons,← ih]
    congr 1
    · apply List.ext_getElem?
      intro j
      by_cases hj:j < z.size
      · simp [hj,Nat.mod_eq_of_lt hj]
      · simp [Nat.not_lt.1 hj]
    · apply List.map_congr_left
      intro j _
      simp
theorem L2.reps {σ:Sg} {l:List Value} (h:L2 (V1 σ) l l):∀ n,L2 (V1 σ) (List.replicate n l).flatten (List.replicate n l).flatten
  | 0=>.nil
  | n + 1=>by rw [List.replicate_succ,List.flatten_cons];exact h.append (h.reps n)
theorem reps_length (l:List Value):∀ n,(List.replicate n l).flatten.length=n * l.length
  | 0=>by simp
  | n + 1=>by rw [List.replicate_succ,List.flatten_cons,List.length_append,reps_length l n,Nat.succ_mul];omega
theorem zerosK_some {e:TypeId} {n:Nat} {f:List Value→Option α} (h:zerosK e n f=some r):∃ zs i d z,TyOk e i d∧i.zero=some z∧z.cells.toList=zs∧zs.length=i.size∧(∀ σ,L2 (V1 σ) zs zs)∧f (List.replicate n zs).flatten=some r:=by
  obtain ⟨zs,h1,h2⟩:=zeroK_some (t:=e) (f:=fun z=>repK n z f) h
  rw [repK_eq] at h2
  obtain ⟨i,d,z,h3,h4,h5,h6,h7,_⟩:=zero_ok h1
  exact ⟨zs,i,d,z,h3,h4,h5,h6,h7,h2⟩
end
theorem mapM_all {α β:Type} {f:α→Option β}:∀ (l:List α),(∀ x∈l,(f x).isSome=true)→∃ m,l.mapM f=some m∧∀ i:Nat,m[i]?=(l[i]?).bind f
  | [],_=>⟨[],rfl,fun i=>by simp⟩
  | x :: l,h=>by
    obtain ⟨y,hy⟩:=Option.isSome_iff_exists.1 (h x (by simp))
    obtain ⟨m,h1,h2⟩:=mapM_all l (fun z hz=>h z (by simp [hz]))
    refine ⟨y :: m,by simp [List.mapM_cons,hy,h1],fun i=>?_⟩
    cases i with
    | zero=>simp [hy]
    | succ i=>simpa using h2 i
section
variable {cf:CallF} {tm:Tm} {s:St} {k:Value→St→R} {r:Tm × St}
theorem build_ops {t:TypeId} {parts:Array (Nat × Operand)} {σ:Sg} {a:Act} (ht:OpsR σ tm a (.build t parts)):∀ p∈parts.toList,TmAt σ tm a p.2:=fun p hp=>
  ht p.2 (by simp only [Op.operands,List.mem_toArray];exact List.mem_map.2 ⟨p,hp,rfl⟩)
theorem build_some {t:TypeId} {parts:Array (Nat × Operand)} (h:buildK t parts cf tm s k=some r):∃ v,k v s=some r∧PureR (.build t parts) tm v:=by
  obtain ⟨zs,h1,h2⟩:=zeroK_some (t:=t) h
  obtain ⟨i,d,z,h3,h4,h5,h6,h7,_⟩:=zero_ok h1
  cases hb:Nat.beq (sortT t) 6 with
  | true=>
    rw [hb] at h2
    obtain ⟨n,j,e,h8,h9,_,h10⟩:=sizeK_some (t:=elemT t) h2
    obtain ⟨l,h11,h12,h13⟩:=fillK_some (plc:=fun i=>some (i * (n + 1),n + 1)) (fun i g hg=>⟨_,_,hg,rfl⟩) h10
    refine ⟨_,h11,fun σ w a o ho ht=>?_⟩
    obtain ⟨l',h14,h15⟩:=h13 σ a (build_ops ht) z.cells (by rw [h5];exact h7 σ)
    obtain ⟨m,hm,_⟩:=sort_ok (Nat.eq_of_beq_eq_true hb) (by omega)
    refine ⟨.agg l',?_,.va (.agg h15)⟩
    have hb2:Tryz.prog.built t (parts.map fun (p:Nat × Operand)=>(p.1,a.eval p.2)).toList=some l':=by
      unfold Program.built
      simp only [h3.info,hm,h4,h8.info,h9]
      exact h14
    have:=run_build (P:=Tryz.prog) w t _ _ hb2
    simp [execOp,ho,this]
  | false=>
    rw [hb] at h2
    obtain ⟨h8,h9⟩:=sortK_some (t:=t) (c:=10) h2
    obtain ⟨fs,h10,h11⟩:=sort_ok h8 (by omega)
    obtain ⟨places,hpl,hat⟩:=mapM_all (f:=fun f:Field=>(Tryz.prog.info? f.type).map fun i=>(f.offset,i.size)) fs.toList (fun f hf=>by
      have:=h11 f hf
      cases hi:Tryz.prog.info? f.type with
      | none=>rw [hi] at this;cases this
      | some i=>rfl)
    obtain ⟨l,h12,h13,h14⟩:=fillK_some (plc:=fun i=>places[i]?) (place:=partK t) (fun i g hg=>by
      unfold partK at hg
      cases ho:Nat.land (offT t i) 65535 with
      | zero=>rw [ho] at hg;cases hg
      | succ p=>
        rw [ho] at hg
        obtain ⟨fs',f,j,k1,k2,k3,k4,k5,k6⟩:=off_ok ho
        rw [h10] at k1;cases k1
        refine ⟨_,_,hg,?_⟩
        rw [hat,Array.getElem?_toList,k2]
        simp [k4,k3,k5]) h9
    refine ⟨_,h12,fun σ w a o ho ht=>?_⟩
    obtain ⟨l',h15,h16⟩:=h14 σ a (build_ops ht) z.cells (by rw [h5];exact h7 σ)
    refine ⟨.agg l',?_,.va (.agg h16)⟩
    have hb2:Tryz.prog.built t (parts.map fun (p:Nat × Operand)=>(p.1,a.eval p.2)).toList=some l':=by
      unfold Program.built
      simp only [h3.info,h10,h4,hpl]
      simpa using h15
    have:=run_build (P:=Tryz.prog) w t _ _ hb2
    simp [execOp,ho,this]
end
end Go.Proofs.YtnpdcjdmbkcpbaaGreat.Ev
