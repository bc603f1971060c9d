/- The evaluator's values and blocks, and those of a run: what relates them. The evaluator's lists and values: what succeeds says what it found. The evaluator's values and blocks, and those of a run: what relates them. The evaluator's heap: what its operations find and leave. The evaluator's heap and a run's: how they go on together. No condition. -/
import Derived.Test.YtnpdcjdmbkcpbaaGreatXr
import Derived.Test.YtnpdcjdmbkcpbaaGreatXt
set_option linter.unusedVariables false
set_option linter.unusedSimpArgs false
namespace Go.Proofs.YtnpdcjdmbkcpbaaGreat.Ev
open Go
noncomputable def look {β:Type} (t:T β) (k:Nat):Option β:=getK t k some
theorem getK_nd {α β:Type} (v:Option β) (l r:T β) (k:Nat) (f:β→Option α) :
    getK (T.nd v l r) k f=if k=0 then v.bind f else if k % 2=0 then getK r ((k - 1) / 2) f else getK l (k / 2) f:=by
  show @Bool.rec (fun _=>Option α) _ _ _=_
  by_cases h0:k=0
  · subst h0;cases v <;> rfl
  · have e0:Nat.beq k 0=false:=by cases k with | zero=>exact absurd rfl h0 | succ k=>rfl
    rw [e0,if_neg h0]
    show @Bool.rec (fun _=>Option α) _ _ (Nat.beq (Nat.land k 1) 0)=_
    have h1:Nat.land k 1=k % 2:=Nat.and_one_is_mod k
    have s1:∀ m:Nat,Nat.shiftRight m 1=m / 2:=fun m=>Nat.shiftRight_succ m 0
    rw [h1,s1,s1]
    by_cases h2:k % 2=0
    · rw [if_pos h2,h2];rfl
    · have h3:k % 2=1:=by omega
      rw [if_neg h2,h3];rfl
theorem getK_look {α β:Type} (t:T β):∀ (k:Nat) (f:β→Option α),getK t k f=(look t k).bind f:=by
  induction t with
  | lf=>intro k f;rfl
  | nd v l r ihl ihr=>
    intro k f
    unfold look
    rw [getK_nd,getK_nd]
    split
    · cases v <;> rfl
    · split
      · rw [ihr];rfl
      · rw [ihl];rfl
theorem look_lf {β:Type} (k:Nat):look (T.lf:T β) k=none:=rfl
theorem look_nd {β:Type} (v:Option β) (l r:T β) (k:Nat):look (T.nd v l r) k=if k=0 then v else if k % 2=0 then look r ((k - 1) / 2) else look l (k / 2):=by
  unfold look
  rw [getK_nd]
  split
  · cases v <;> rfl
  · rfl
def upd {β:Type} (x:Option β):Nat→T β→Nat→T β
  | 0,t,_=>t
  | n + 1,.lf,k=>if k=0 then .nd x .lf .lf else if k % 2=0 then .nd none .lf (upd x n .lf ((k - 1) / 2)) else .nd none (upd x n .lf (k / 2)) .lf
  | n + 1,.nd v l r,k=>if k=0 then .nd x l r else if k % 2=0 then .nd v l (upd x n r ((k - 1) / 2)) else .nd v (upd x n l (k / 2)) r
theorem setK_upd {α β:Type} (x:Option β):∀ (n:Nat) (t:T β) (k:Nat) (f:T β→Option α),setK x n t k f=f (upd x n t k)
  | 0,t,k,f=>rfl
  | n + 1,t,k,f=>by
    have s1:∀ m:Nat,Nat.shiftRight m 1=m / 2:=fun m=>Nat.shiftRight_succ m 0
    have h1:Nat.land k 1=k % 2:=Nat.and_one_is_mod k
    cases t with
    | lf=>
      show @Bool.rec (fun _=>Option α) _ _ _=_
      by_cases h0:k=0
      · subst h0;rfl
      · have e0:Nat.beq k 0=false:=by cases k with | zero=>exact absurd rfl h0 | succ k=>rfl
        rw [e0]
        show @Bool.rec (fun _=>Option α) _ _ (Nat.beq (Nat.land k 1) 0)=_
        rw [h1,s1,s1]
        unfold upd
        rw [if_neg h0]
        by_cases h2:k % 2=0
        · rw [if_pos h2,h2];exact setK_upd x n _ _ _
        · have h3:k % 2=1:=by omega
          rw [if_neg h2,h3];exact setK_upd x n _ _ _
    | nd v l r=>
      show @Bool.rec (fun _=>Option α) _ _ _=_
      by_cases h0:k=0
      · subst h0;rfl
      · have e0:Nat.beq k 0=false:=by cases k with | zero=>exact absurd rfl h0 | succ k=>rfl
        rw [e0]
        show @Bool.rec (fun _=>Option α) _ _ (Nat.beq (Nat.land k 1) 0)=_
        rw [h1,s1,s1]
        unfold upd
        rw [if_neg h0]
        by_cases h2:k % 2=0
        · rw [if_pos h2,h2];exact setK_upd x n _ _ _
        · have h3:k % 2=1:=by omega
          rw [if_neg h2,h3];exact setK_upd x n _ _ _
theorem look_upd {β:Type} (x:Option β):∀ (n:Nat) (t:T β) (k j:Nat),k < n→look (upd x n t k) j=if j=k then x else look t j
  | n + 1, t, k,j,hk=>by
    cases t with
    | lf=>
      unfold upd
      by_cases h0:k=0
      · subst h0;rw [if_pos rfl,look_nd,look_lf,look_lf,look_lf]
        by_cases hj:j=0 <;> simp [hj]
      · rw [if_neg h0]
        by_cases h2:k % 2=0
        · rw [if_pos h2,look_nd,look_upd x n _ _ _ (by omega),look_lf,look_lf,look_lf]
          by_cases hj:j=0
          · subst hj;rw [if_pos rfl,if_neg (by omega)]
          · rw [if_neg hj]
            by_cases hj2:j % 2=0
            · rw [if_pos hj2]
              by_cases e:j=k
              · subst e;rw [if_pos rfl,if_pos rfl]
              · rw [if_neg (by omega),if_neg e]
            · rw [if_neg hj2,if_neg (by omega)]
        · rw [if_neg h2,look_nd,look_upd x n _ _ _ (by omega),look_lf,look_lf,look_lf]
          by_cases hj:j=0
          · subst hj;rw [if_pos rfl,if_neg (by omega)]
          · rw [if_neg hj]
            by_cases hj2:j % 2=0
            · rw [if_pos hj2,if_neg (by omega)]
            · rw [if_neg hj2]
              by_cases e:j=k
              · subst e;rw [if_pos rfl,if_pos rfl]
              · rw [if_neg (by omega),if_neg e]
    | nd v l r=>
      unfold upd
      by_cases h0:k=0
      · subst h0;rw [if_pos rfl,look_nd,look_nd]
        by_cases hj:j=0 <;> simp [hj]
      · rw [if_neg h0]
        by_cases h2:k % 2=0
        · rw [if_pos h2,look_nd,look_upd x n _ _ _ (by omega),look_nd]
          by_cases hj:j=0
          · subst hj;rw [if_pos rfl,if_neg (by omega),if_pos rfl]
          · rw [if_neg hj,if_neg hj]
            by_cases hj2:j % 2=0
            · rw [if_pos hj2,if_pos hj2]
              by_cases e:j=k
              · subst e;rw [if_pos rfl,if_pos rfl]
              · rw [if_neg (by omega),if_neg e]
            · rw [if_neg hj2,if_neg hj2,if_neg (by omega)]
        · rw [if_neg h2,look_nd,look_upd x n _ _ _ (by omega),look_nd]
          by_cases hj:j=0
          · subst hj;rw [if_pos rfl,if_neg (by omega),if_pos rfl]
          · rw [if_neg hj,if_neg hj]
            by_cases hj2:j % 2=0
            · rw [if_pos hj2,if_pos hj2,if_neg (by omega)]
            · rw [if_neg hj2,if_neg hj2]
              by_cases e:j=k
              · subst e;rw [if_pos rfl,if_pos rfl]
              · rw [if_neg (by omega),if_neg e]
end Go.Proofs.YtnpdcjdmbkcpbaaGreat.Ev
namespace Go.Proofs.YtnpdcjdmbkcpbaaGreat.Ev
open Go
section
variable {α β:Type} {r:α}
theorem forceN_eq (n:Nat) (f:Nat→Option α):forceN n f=f n:=by cases n <;> rfl
theorem forceI_eq (n:Int) (f:Int→Option α):forceI n f=f n:=by
  cases n with
  | ofNat a=>exact forceN_eq a fun a=>f (Int.ofNat a)
  | negSucc a=>exact forceN_eq a fun a=>f (Int.negSucc a)
theorem forceB_eq (b:Bool) (f:Bool→Option α):forceB b f=f b:=by cases b <;> rfl
theorem listK_eq (a:Array β) (f:List β→Option α):listK a f=f a.toList:=by cases a;rfl
theorem appK_eq:∀ (l m:List β) (f:List β→Option α),appK l m f=f (l ++ m)
  | [],m,f=>rfl
  | v :: l,m,f=>appK_eq l m fun t=>f (v :: t)
theorem atK_some:∀ {l:Tm} {k:Nat} {f:Value→Option α},atK l k f=some r→∃ v,(k,v)∈l∧l.lookup k=some v∧f v=some r
  | [],k,f,h=>by cases h
  | (i,v) :: l,k,f,h=>by
    have h' : @Bool.rec (fun _=>Option α) (atK l k f) (f v) (Nat.beq i k)=some r:=h
    by_cases e:i=k
    · subst e
      rw [Nat.beq_refl i] at h'
      exact ⟨v,by simp,by simp [List.lookup],h'⟩
    · have hb:Nat.beq i k=false:=by rw [← Bool.not_eq_true,Nat.beq_eq];exact e
      rw [hb] at h'
      obtain ⟨w,h1,h2,h3⟩:=atK_some (l:=l) h'
      refine ⟨w,by simp [h1],?_,h3⟩
      rw [List.lookup]
      have:(k == i)=false:=by simp;exact fun h=>e h.symm
      rw [this];exact h2
theorem nthK_some:∀ {l:List β} {n:Nat} {f:β→Option α},nthK l n f=some r→∃ v,l[n]?=some v∧f v=some r
  | [],n,f,h=>by cases h
  | v :: l,n,f,h=>by
    have h' : @Bool.rec (fun _=>Option α) (nthK l (n - 1) f) (f v) (Nat.beq n 0)=some r:=h
    cases n with
    | zero=>exact ⟨v,rfl,h'⟩
    | succ n=>exact nthK_some (l:=l) (n:=n) h'
theorem dropK_some:∀ {l:List β} {n:Nat} {f:List β→Option α},dropK l n f=some r→n≤l.length∧f (l.drop n)=some r
  | [],n,f,h=>by
    have h' : @Bool.rec (fun _=>Option α) none (f []) (Nat.beq n 0)=some r:=h
    cases n with
    | zero=>exact ⟨Nat.le_refl _,h'⟩
    | succ n=>cases h'
  | v :: l,n,f,h=>by
    have h' : @Bool.rec (fun _=>Option α) (dropK l (n - 1) f) (f (v :: l)) (Nat.beq n 0)=some r:=h
    cases n with
    | zero=>exact ⟨Nat.zero_le _,h'⟩
    | succ n=>
      obtain ⟨h1,h2⟩:=dropK_some (l:=l) (n:=n) h'
      exact ⟨by simp;omega,h2⟩
theorem takeK_some:∀ {l:List β} {n:Nat} {f:List β→Option α},takeK l n f=some r→n≤l.length∧f (l.take n)=some r
  | [],n,f,h=>by
    have h' : @Bool.rec (fun _=>Option α) none (f []) (Nat.beq n 0)=some r:=h
    cases n with
    | zero=>exact ⟨Nat.le_refl _,h'⟩
    | succ n=>cases h'
  | v :: l,n,f,h=>by
    have h' : @Bool.rec (fun _=>Option α) (takeK l (n - 1) fun t=>f (v :: t)) (f []) (Nat.beq n 0)=some r:=h
    cases n with
    | zero=>exact ⟨Nat.zero_le _,h'⟩
    | succ n=>
      obtain ⟨h1,h2⟩:=takeK_some (l:=l) (n:=n) h'
      exact ⟨by simp;omega,h2⟩
def over (l:List Value) (n:Nat) (ys:List Value):List Value:=l.take n ++ ys ++ l.drop (n + ys.length)
theorem writeK_some:∀ {l:List Value} {n:Nat} {ys:List Value} {f:List Value→Option α},writeK l n ys f=some r→n + ys.length≤l.length∧f (over l n ys)=some r
  | [],n,ys,f,h=>by
    cases ys with
    | nil=>
      have h' : @Bool.rec (fun _=>Option α) none (f []) (Nat.beq n 0)=some r:=h
      cases n with
      | zero=>exact ⟨Nat.le_refl _,h'⟩
      | succ n=>cases h'
    | cons y yt=>cases h
  | v :: l,n,ys,f,h=>by
    cases n with
    | zero=>
      cases ys with
      | nil=>exact ⟨Nat.zero_le _,h⟩
      | cons y yt=>
        have h':writeK l 0 yt (fun r=>f (y :: r))=some r:=h
        obtain ⟨h1,h2⟩:=writeK_some (l:=l) h'
        refine ⟨by simp at h1 ⊢;omega,?_⟩
        simpa [over] using h2
    | succ n=>
      have h':writeK l n ys (fun r=>f (v :: r))=some r:=h
      obtain ⟨h1,h2⟩:=writeK_some (l:=l) h'
      refine ⟨by simp at h1 ⊢;omega,?_⟩
      have e:n + 1 + ys.length=(n + ys.length) + 1:=by omega
      simp only [over,List.take_succ_cons,e,List.drop_succ_cons,List.cons_append] at h2 ⊢
      exact h2
end
end Go.Proofs.YtnpdcjdmbkcpbaaGreat.Ev
namespace Go.Proofs.YtnpdcjdmbkcpbaaGreat.Ev
open Go
inductive L2 {α β:Type} (R:α→β→Prop):List α→List β→Prop
  | nil:L2 R [] []
  | cons {a b l m}:R a b→L2 R l m→L2 R (a :: l) (b :: m)
section
variable {α β:Type} {R S:α→β→Prop}
theorem L2.length:∀ {l:List α} {m:List β},L2 R l m→l.length=m.length
  | _,_,.nil=>rfl
  | _,_,.cons _ h=>by simp [h.length]
theorem L2.mono (h:∀ a b,R a b→S a b):∀ {l:List α} {m:List β},L2 R l m→L2 S l m
  | _,_,.nil=>.nil
  | _,_,.cons h1 h2=>.cons (h _ _ h1) (h2.mono h)
theorem L2.append:∀ {l l':List α} {m m':List β},L2 R l m→L2 R l' m'→L2 R (l ++ l') (m ++ m')
  | _,_,_,_,.nil,k=>k
  | _,_,_,_,.cons h1 h2,k=>.cons h1 (h2.append k)
theorem L2.take:∀ {l:List α} {m:List β} (n:Nat),L2 R l m→L2 R (l.take n) (m.take n)
  | _,_,0,_=>by simp;exact .nil
  | _,_,n + 1,.nil=>.nil
  | _,_,n + 1,.cons h1 h2=>.cons h1 (h2.take n)
theorem L2.drop:∀ {l:List α} {m:List β} (n:Nat),L2 R l m→L2 R (l.drop n) (m.drop n)
  | _,_,0,h=>h
  | _,_,n + 1,.nil=>.nil
  | _,_,n + 1,.cons h1 h2=>h2.drop n
theorem L2.get:∀ {l:List α} {m:List β} {n:Nat} {a:α},L2 R l m→l[n]?=some a→∃ b,m[n]?=some b∧R a b
  | _,_,0,a,.cons h1 h2,h=>by simp at h;subst h;exact ⟨_,rfl,h1⟩
  | _,_,n + 1,a,.cons h1 h2,h=>by
    obtain ⟨b,h3,h4⟩:=h2.get (n:=n) (by simpa using h)
    exact ⟨b,by simpa using h3,h4⟩
end
structure Pl where
  b:Nat
  cap:Nat
  z:Nat
abbrev Sg:=Nat→Option Pl
def Sg.Le (σ τ:Sg):Prop:=∀ i p,σ i=some p→τ i=some p
theorem Sg.Le.refl (σ:Sg):σ.Le σ:=fun _ _ h=>h
inductive AdR (σ:Sg):Addr→Addr→Prop
  | mk {i o:Nat} {p:Pl}:σ i=some p→AdR σ ⟨i,o,none⟩ ⟨p.b,o,none⟩
theorem AdR.mono {σ τ:Sg} (h:σ.Le τ) {a b:Addr}:AdR σ a b→AdR τ a b
  | .mk k=>.mk (h _ _ k)
def RmR (σ:Sg) (i o c c':Nat):Prop:=(c=c'∧c < U)∨(c=U∧∃ p e,σ i=some p∧o=e * p.z∧e + c'=p.cap)
inductive V1 (σ:Sg):Value→Value→Prop
  | int (k:IntKind) (n:Int):V1 σ (.int k n) (.int k n)
  | bool (b:Bool):V1 σ (.bool b) (.bool b)
  | str (s:ByteArray):V1 σ (.string s) (.string s)
  | pnil:V1 σ (.pointer none) (.pointer none)
  | ptr {a a':Addr}:AdR σ a a'→V1 σ (.pointer (some a)) (.pointer (some a'))
  | snil:V1 σ (.slice none 0 0) (.slice none 0 0)
  | sl {i o n c c':Nat} {p:Pl}:σ i=some p→n≤c'→c' < U→RmR σ i o c c'→V1 σ (.slice (some ⟨i,o,none⟩) n c) (.slice (some ⟨p.b,o,none⟩) n c')
  | sle {b o c:Nat}:V1 σ emptyV (.slice (some ⟨b,o,none⟩) 0 c)
  | mnil:V1 σ (.map none) (.map none)
  | mp {i:Nat} {p:Pl}:σ i=some p→V1 σ (.map (some i)) (.map (some p.b))
  | fnil:V1 σ .nilFunc .nilFunc
  | chn:V1 σ (.chan none) (.chan none)
  | nif:V1 σ .nilIface .nilIface
  | fn {g:FuncId} {l l':List Value}:l.length=l'.length→(∀ (j:Nat) (v v':Value),l[j]?=some v→l'[j]?=some v'→V1 σ v v')→V1 σ (.func (.func g) ⟨[]⟩ ⟨l⟩) (.func (.func g) ⟨[]⟩ ⟨l'⟩)
theorem RmR.mono {σ τ:Sg} (h:σ.Le τ) {i o c c':Nat}:RmR σ i o c c'→RmR τ i o c c'
  | .inl k=>.inl k
  | .inr ⟨k,p,e,h1,h2⟩=>.inr ⟨k,p,e,h _ _ h1,h2⟩
theorem V1.mono {σ τ:Sg} (h:σ.Le τ) {v v':Value} (k:V1 σ v v'):V1 τ v v':=by
  induction k with
  | int k n=>exact .int k n
  | bool b=>exact .bool b
  | str s=>exact .str s
  | pnil=>exact .pnil
  | ptr a=>exact .ptr (a.mono h)
  | snil=>exact .snil
  | sl h1 h2 h3 h4=>exact .sl (h _ _ h1) h2 h3 (h4.mono h)
  | sle=>exact .sle
  | mnil=>exact .mnil
  | mp h1=>exact .mp (h _ _ h1)
  | fnil=>exact .fnil
  | chn=>exact .chn
  | nif=>exact .nif
  | fn h1 _ ih=>exact .fn h1 ih
inductive VA (σ:Sg):Value→Value→Prop
  | one {v v':Value}:V1 σ v v'→VA σ v v'
  | agg {l l':List Value}:L2 (V1 σ) l l'→VA σ (.agg ⟨l⟩) (.agg ⟨l'⟩)
inductive VT (σ:Sg):Value→Value→Prop
  | va {v v':Value}:VA σ v v'→VT σ v v'
  | tup {l l':List Value}:L2 (VA σ) l l'→VT σ (.tuple ⟨l⟩) (.tuple ⟨l'⟩)
theorem VA.mono {σ τ:Sg} (h:σ.Le τ) {v v':Value}:VA σ v v'→VA τ v v'
  | .one k=>.one (k.mono h)
  | .agg k=>.agg (k.mono fun _ _=>V1.mono h)
theorem VT.mono {σ τ:Sg} (h:σ.Le τ) {v v':Value}:VT σ v v'→VT τ v v'
  | .va k=>.va (k.mono h)
  | .tup k=>.tup (k.mono fun _ _=>VA.mono h)
def ER (σ:Sg) (e:Value × Value) (m:MapEntry):Prop:=(∃ k n,e.1 = .int k n∧m.key = .int k n)∧V1 σ e.2 m.val
inductive OR (σ:Sg) (p:Pl):Ob→Option Obj→Prop
  | cells {vs:List Value} {t:TypeId} {c:Array Value}:c.size=p.cap * p.z→p.z=sizeT t→0 < p.z→vs.length≤c.size→L2 (V1 σ) vs (c.toList.take vs.length)→OR σ p (.cells vs t) (some (.cells c t (0,0)))
  | map {es:List (Value × Value)} {ms:Array MapEntry} {clock:Nat}:L2 (ER σ) es ms.toList→OR σ p (.map es) (some (.map ms clock))
theorem OR.mono {σ τ:Sg} (h:σ.Le τ) {p:Pl} {o:Ob} {x:Option Obj}:OR σ p o x→OR τ p o x
  | .cells h1 h0 h2 h3 h4=>.cells h1 h0 h2 h3 (h4.mono fun _ _=>V1.mono h)
  | .map h1=>.map (h1.mono fun _ _ k=>⟨k.1,k.2.mono h⟩)
structure Oth (S:Nat→Prop) (w w':World):Prop where
  os:w'.os=w.os
  tape:w'.tape=w.tape
  output:w'.output=w.output
  size:w.heap.size≤w'.heap.size
  block:∀ k,k < w.heap.size→¬ S k→w'.heap[k]?=w.heap[k]?
structure Sim (σ:Sg) (s:St) (w:World):Prop where
  obj:∀ i o p,look s.heap i=some o→σ i=some p→OR σ p o w.heap[p.b]?
  inj:∀ i j o o' p q,look s.heap i=some o→look s.heap j=some o'→σ i=some p→σ j=some q→p.b=q.b→i=j
  new:∀ i,s.next≤i→σ i=none
  top:∀ i,s.next≤i→look s.heap i=none
structure SimO (σ:Sg) (s:St) (w:World):Prop where
  obj:∀ i o p,look s.heap i=some o→σ i=some p→OR σ p o w.heap[p.b]?
  inj:∀ i j o o' p q,look s.heap i=some o→look s.heap j=some o'→σ i=some p→σ j=some q→p.b=q.b→i=j
theorem Sim.o {σ:Sg} {s:St} {w:World} (h:Sim σ s w):SimO σ s w:=⟨h.obj,h.inj⟩
theorem SimO.sub {σ:Sg} {s s':St} {w:World} (h:SimO σ s' w) (k:∀ i o,look s.heap i=some o→look s'.heap i=some o):SimO σ s w:=
  ⟨fun i o p h1 h2=>h.obj i o p (k i o h1) h2,fun i j o o' p q h1 h2=>h.inj i j o o' p q (k i o h1) (k j o' h2)⟩
def Img (σ:Sg) (s:St) (k:Nat):Prop:=∃ i o p,look s.heap i=some o∧σ i=some p∧p.b=k
structure Goes (σ:Sg) (s:St) (w:World) (σ':Sg) (s':St) (w':World):Prop where
  sim:Sim σ' s' w'
  next:s.next≤s'.next
  sig:∀ i,i < s.next→σ' i=σ i
  keep:∀ i,i < s.next→σ i=none→look s'.heap i=look s.heap i
  oth:Oth (Img σ s) w w'
  img:∀ k,Img σ' s' k→k < w.heap.size→Img σ s k
theorem Oth.refl (S:Nat→Prop) (w:World):Oth S w w:=⟨rfl,rfl,rfl,Nat.le_refl _,fun _ _ _=>rfl⟩
theorem Goes.refl {σ:Sg} {s:St} {w:World} (h:Sim σ s w):Goes σ s w σ s w:=
  ⟨h,Nat.le_refl _,fun _ _=>rfl,fun _ _ _=>rfl,.refl _ _,fun _ h _=>h⟩
theorem Sim.lt {σ:Sg} {s:St} {w:World} (h:Sim σ s w) {i:Nat} {p:Pl} (hp:σ i=some p):i < s.next:=by
  rcases Nat.lt_or_ge i s.next with h1 | h1
  · exact h1
  · rw [h.new i h1] at hp;cases hp
theorem Goes.le {σ σ':Sg} {s s':St} {w w':World} (h:Goes σ s w σ' s' w') (hs:Sim σ s w):σ.Le σ':=fun i p hp=>by
  rw [h.sig i (hs.lt hp)];exact hp
theorem Goes.trans {σ σ' σ'':Sg} {s s' s'':St} {w w' w'':World} (h:Goes σ s w σ' s' w') (k:Goes σ' s' w' σ'' s'' w''):Goes σ s w σ'' s'' w'':=by
  refine ⟨k.sim,Nat.le_trans h.next k.next,fun i hi=>?_,fun i hi hn=>?_,⟨k.oth.os.trans h.oth.os,k.oth.tape.trans h.oth.tape,k.oth.output.trans h.oth.output,Nat.le_trans h.oth.size k.oth.size,fun b hb hS=>?_⟩,fun b hb hlt=>?_⟩
  · rw [k.sig i (Nat.lt_of_lt_of_le hi h.next)];exact h.sig i hi
  · rw [k.keep i (Nat.lt_of_lt_of_le hi h.next) (by rw [h.sig i hi];exact hn)];exact h.keep i hi hn
  · rw [k.oth.block b (Nat.lt_of_lt_of_le hb h.oth.size) (fun hI=>hS (h.img b hI hb))];exact h.oth.block b hb hS
  · exact h.img b (k.img b hb (Nat.lt_of_lt_of_le hlt h.oth.size)) hlt
end Go.Proofs.YtnpdcjdmbkcpbaaGreat.Ev
namespace Go.Proofs.YtnpdcjdmbkcpbaaGreat.Ev
open Go
section
variable {α:Type} {r:α}
def St.upd (s:St) (i:Nat) (x:Option Ob):St:=⟨Ev.upd x (i + 1) s.heap i,s.next⟩
def St.add (s:St) (o:Ob):St:=⟨Ev.upd (some o) (s.next + 1) s.heap s.next,s.next + 1⟩
theorem St.look_upd (s:St) (i j:Nat) (x:Option Ob):look (s.upd i x).heap j=if j=i then x else look s.heap j:=Ev.look_upd x _ _ _ _ (Nat.lt_succ_self _)
theorem St.look_add (s:St) (j:Nat) (o:Ob):look (s.add o).heap j=if j=s.next then some o else look s.heap j:=Ev.look_upd (some o) _ _ _ _ (Nat.lt_succ_self _)
theorem cellsK_some {s:St} {i:Nat} {f:List Value→TypeId→Option α} (h:cellsK s i f=some r):∃ vs t,look s.heap i=some (.cells vs t)∧f vs t=some r:=by
  obtain ⟨hp,n⟩:=s
  have h':getK hp i (fun ob=>@Ob.casesOn (fun _=>Option α) ob f (fun _=>none))=some r:=h
  rw [getK_look] at h'
  cases hl:look hp i with
  | none=>rw [hl] at h';cases h'
  | some o=>
    rw [hl] at h'
    cases o with
    | cells vs t=>exact ⟨vs,t,rfl,h'⟩
    | map es=>cases h'
theorem mapK_some {s:St} {i:Nat} {f:List (Value × Value)→Option α} (h:mapK s i f=some r):∃ es,look s.heap i=some (.map es)∧f es=some r:=by
  obtain ⟨hp,n⟩:=s
  have h':getK hp i (fun ob=>@Ob.casesOn (fun _=>Option α) ob (fun _ _=>none) f)=some r:=h
  rw [getK_look] at h'
  cases hl:look hp i with
  | none=>rw [hl] at h';cases h'
  | some o=>
    rw [hl] at h'
    cases o with
    | cells vs t=>cases h'
    | map es=>exact ⟨es,rfl,h'⟩
theorem readK_some {s:St} {i off n:Nat} {f:List Value→Option α} (h:readK s i off n f=some r):∃ vs t,look s.heap i=some (.cells vs t)∧off + n≤vs.length∧f ((vs.drop off).take n)=some r:=by
  obtain ⟨vs,t,h1,h2⟩:=cellsK_some h
  obtain ⟨h3,h4⟩:=dropK_some h2
  obtain ⟨h5,h6⟩:=takeK_some h4
  exact ⟨vs,t,h1,by simp at h5;omega,h6⟩
theorem putS_eq (s:St) (i:Nat) (o:Ob) (f:St→Option α):putS s i o f=f (s.upd i (some o)):=by
  obtain ⟨hp,n⟩:=s
  exact setK_upd (some o) (i + 1) hp i fun h=>f ⟨h,n⟩
theorem killS_eq (s:St) (i:Nat) (f:St→Option α):killS s i f=f (s.upd i none):=by
  obtain ⟨hp,n⟩:=s
  exact setK_upd none (i + 1) hp i fun h=>f ⟨h,n⟩
theorem newS_eq (s:St) (o:Ob) (f:Nat→St→Option α):newS s o f=f s.next (s.add o):=by
  obtain ⟨hp,n⟩:=s
  refine (setK_upd (some o) (n + 1) hp n fun h=>forceN (n + 1) fun m=>f n ⟨h,m⟩).trans ?_
  exact forceN_eq (n + 1) fun m=>f n ⟨upd (some o) (n + 1) hp n,m⟩
theorem storeS_some {s:St} {i off:Nat} {ys:List Value} {f:St→Option α} (h:storeS s i off ys f=some r):∃ vs t,look s.heap i=some (.cells vs t)∧off + ys.length≤vs.length∧f (s.upd i (some (.cells (over vs off ys) t)))=some r:=by
  obtain ⟨vs,t,h1,h2⟩:=cellsK_some h
  obtain ⟨h3,h4⟩:=writeK_some h2
  rw [putS_eq] at h4
  exact ⟨vs,t,h1,h3,h4⟩
end
section
variable {σ:Sg} {s:St} {w:World}
theorem SimO.cells (h:SimO σ s w) {i:Nat} {vs:List Value} {t:TypeId} {p:Pl} (hi:look s.heap i=some (.cells vs t)) (hp:σ i=some p) :
    ∃ c t',w.heap[p.b]?=some (.cells c t' (0,0))∧t'=t∧c.size=p.cap * p.z∧p.z=sizeT t∧0 < p.z∧vs.length≤c.size∧L2 (V1 σ) vs (c.toList.take vs.length):=by
  have h2:=h.obj i _ p hi hp
  generalize hx:w.heap[p.b]?=x at h2
  cases h2 with
  | cells a b c d e=>exact ⟨_,_,rfl,rfl,a,b,c,d,e⟩
theorem SimO.map (h:SimO σ s w) {i:Nat} {es:List (Value × Value)} {p:Pl} (hi:look s.heap i=some (.map es)) (hp:σ i=some p) :
    ∃ ms clock,w.heap[p.b]?=some (.map ms clock)∧L2 (ER σ) es ms.toList:=by
  have h2:=h.obj i _ p hi hp
  generalize hx:w.heap[p.b]?=x at h2
  cases h2 with
  | map a=>exact ⟨_,_,rfl,a⟩
theorem SimO.cell (h:SimO σ s w) {i j:Nat} {vs:List Value} {t:TypeId} {v:Value} {p:Pl} (hi:look s.heap i=some (.cells vs t)) (hp:σ i=some p) (hv:vs[j]?=some v) :
    ∃ v',w.cell? ⟨p.b,j,none⟩=some v'∧V1 σ v v':=by
  obtain ⟨c,t',h2,_,h3,_,_,h4,h5⟩:=h.cells hi hp
  obtain ⟨v',h7,h8⟩:=h5.get hv
  refine ⟨v',?_,h8⟩
  have hj:=(List.getElem?_eq_some_iff.1 hv).1
  rw [List.getElem?_take,if_pos hj,Array.getElem?_toList] at h7
  simp [World.cell?,h2,h7]
theorem addr_add (b o j:Nat):(⟨b,o,none⟩:Addr).add j=⟨b,o + j,none⟩:=by unfold Addr.add;split <;> simp_all
theorem SimO.reads (h:SimO σ s w) {i off n:Nat} {vs:List Value} {t:TypeId} {p:Pl} (hi:look s.heap i=some (.cells vs t)) (hp:σ i=some p) (hn:off + n≤vs.length) :
    ∃ l,l.length=n∧L2 (V1 σ) ((vs.drop off).take n) l∧∀ j v,l[j]?=some v→w.cell? ((⟨p.b,off,none⟩:Addr).add j)=some v:=by
  obtain ⟨c,t',h2,_,h3,_,_,h4,h5⟩:=h.cells hi hp
  refine ⟨((c.toList.take vs.length).drop off).take n,?_,(h5.drop off).take n,fun j v hv=>?_⟩
  · rw [List.length_take,List.length_drop,List.length_take]
    have:c.toList.length=c.size:=Array.length_toList
    omega
  · rw [List.getElem?_take] at hv
    split at hv
    · rename_i hj
      rw [List.getElem?_drop,List.getElem?_take,if_pos (by omega),Array.getElem?_toList] at hv
      rw [addr_add]
      simp [World.cell?,h2,hv]
    · cases hv
end
end Go.Proofs.YtnpdcjdmbkcpbaaGreat.Ev
namespace Go.Proofs.YtnpdcjdmbkcpbaaGreat.Ev
open Go
def Sg.add (σ:Sg) (i:Nat) (p:Pl):Sg:=fun j=>if j=i then some p else σ j
theorem Sg.le_add {σ:Sg} {i:Nat} {p:Pl} (h:σ i=none):σ.Le (σ.add i p):=fun j q hq=>by
  unfold Sg.add
  rw [if_neg (fun e=>by subst e;rw [h] at hq;cases hq)];exact hq
theorem Sg.add_at (σ:Sg) (i:Nat) (p:Pl):σ.add i p i=some p:=by simp [Sg.add]
theorem Sg.add_other (σ:Sg) {i j:Nat} (p:Pl) (h:j≠i):σ.add i p j=σ j:=by simp [Sg.add,h]
section
variable {σ:Sg} {s:St} {w w':World}
theorem OR.block {p:Pl} {o:Ob} {x:Option Obj} (h:OR σ p o x):∃ y,x=some y:=by
  cases h <;> exact ⟨_,rfl⟩
theorem lt_of_heap {k:Nat} {y:Obj} (h:w.heap[k]?=some y):k < w.heap.size:=(Array.getElem?_eq_some_iff.1 h).1
theorem SimO.inside (h:SimO σ s w) {i:Nat} {o:Ob} {p:Pl} (hi:look s.heap i=some o) (hp:σ i=some p):p.b < w.heap.size:=by
  obtain ⟨y,hy⟩:=(h.obj i o p hi hp).block
  exact lt_of_heap hy
theorem Sim.inside (h:Sim σ s w) {i:Nat} {o:Ob} {p:Pl} (hi:look s.heap i=some o) (hp:σ i=some p):p.b < w.heap.size:=h.o.inside hi hp
theorem Sim.more (h:Sim σ s w) (hs:Oth (fun _=>False) w w') {o:Ob} {p:Pl} (hb:p.b=w.heap.size) (ho:OR (σ.add s.next p) p o w'.heap[p.b]?) :
    Goes σ s w (σ.add s.next p) (s.add o) w':=by
  have hle:σ.Le (σ.add s.next p):=Sg.le_add (h.new _ (Nat.le_refl _))
  refine ⟨⟨fun i o' q hi hq=>?_,fun i j o1 o2 p1 p2 h1 h2 h3 h4 h5=>?_,fun i hi=>?_,fun i hi=>?_⟩,Nat.le_succ _,fun i hi=>Sg.add_other _ _ (Nat.ne_of_lt hi),fun i hi _=>?_,⟨hs.os,hs.tape,hs.output,hs.size,fun k hk _=>hs.block k hk id⟩,fun k hk hlt=>?_⟩
  · rw [St.look_add] at hi
    split at hi
    · rename_i e;cases hi;subst e
      rw [Sg.add_at] at hq;cases hq
      exact ho
    · rename_i e
      rw [Sg.add_other _ _ e] at hq
      rw [hs.block _ (h.inside hi hq) id]
      exact (h.obj i o' q hi hq).mono hle
  · rw [St.look_add] at h1 h2
    by_cases e1:i=s.next
    · by_cases e2:j=s.next
      · rw [e1,e2]
      · rw [if_neg e2] at h2
        rw [Sg.add_other _ _ e2] at h4
        subst e1
        rw [Sg.add_at] at h3;cases h3
        have:=h.inside h2 h4;omega
    · rw [if_neg e1] at h1
      rw [Sg.add_other _ _ e1] at h3
      by_cases e2:j=s.next
      · subst e2
        rw [Sg.add_at] at h4;cases h4
        have:=h.inside h1 h3;omega
      · rw [if_neg e2] at h2
        rw [Sg.add_other _ _ e2] at h4
        exact h.inj i j o1 o2 p1 p2 h1 h2 h3 h4 h5
  · have hi':s.next + 1≤i:=hi
    rw [Sg.add_other _ _ (by omega)];exact h.new i (by omega)
  · have hi':s.next + 1≤i:=hi
    rw [St.look_add,if_neg (by omega)];exact h.top i (by omega)
  · rw [St.look_add,if_neg (Nat.ne_of_lt hi)]
  · obtain ⟨i,o',q,h1,h2,h3⟩:=hk
    rw [St.look_add] at h1
    split at h1
    · rename_i e;subst e
      rw [Sg.add_at] at h2;cases h2;omega
    · rename_i e
      rw [Sg.add_other _ _ e] at h2
      exact ⟨i,o',q,h1,h2,h3⟩
theorem Sim.put (h:Sim σ s w) {i:Nat} {o0 o:Ob} {p:Pl} (hi:look s.heap i=some o0) (hp:σ i=some p) (hs:Oth (fun k=>k=p.b) w w') (ho:OR σ p o w'.heap[p.b]?):Goes σ s w σ (s.upd i (some o)) w':=by
  have hlt:=h.lt hp
  refine ⟨⟨fun j o' q hj hq=>?_,fun a b o1 o2 p1 p2 h1 h2 h3 h4 h5=>?_,h.new,fun j hj=>?_⟩,Nat.le_refl _,fun _ _=>rfl,fun j hj hn=>?_,⟨hs.os,hs.tape,hs.output,hs.size,fun k hk hS=>hs.block k hk fun e=>hS ⟨i,o0,p,hi,hp,e.symm⟩⟩,fun k hk _=>?_⟩
  · rw [St.look_upd] at hj
    split at hj
    · rename_i e;cases hj;subst e
      rw [hp] at hq;cases hq
      exact ho
    · rename_i e
      rw [hs.block _ (h.inside hj hq) (fun e2=>e (h.inj j i o' o0 q p hj hi hq hp e2))]
      exact h.obj j o' q hj hq
  · rw [St.look_upd] at h1 h2
    have g1:∃ o,look s.heap a=some o:=by
      by_cases e:a=i
      · subst e;exact ⟨_,hi⟩
      · rw [if_neg e] at h1;exact ⟨_,h1⟩
    have g2:∃ o,look s.heap b=some o:=by
      by_cases e:b=i
      · subst e;exact ⟨_,hi⟩
      · rw [if_neg e] at h2;exact ⟨_,h2⟩
    obtain ⟨x,hx⟩:=g1
    obtain ⟨y,hy⟩:=g2
    exact h.inj a b x y p1 p2 hx hy h3 h4 h5
  · have hj':s.next≤j:=hj
    rw [St.look_upd,if_neg (by omega)];exact h.top j hj'
  · rw [St.look_upd,if_neg (fun e=>by subst e;rw [hp] at hn;cases hn)]
  · obtain ⟨j,o',q,h1,h2,h3⟩:=hk
    rw [St.look_upd] at h1
    split at h1
    · rename_i e;subst e;exact ⟨j,o0,q,hi,h2,h3⟩
    · exact ⟨j,o',q,h1,h2,h3⟩
theorem Sim.kill (h:Sim σ s w) {i:Nat} {p:Pl} (hp:σ i=some p):Goes σ s w σ (s.upd i none) w:=by
  have hl:∀ j o,look (s.upd i none).heap j=some o→look s.heap j=some o:=fun j o hj=>by
    rw [St.look_upd] at hj
    split at hj
    · cases hj
    · exact hj
  exact ⟨⟨fun j o q hj hq=>h.obj j o q (hl j o hj) hq,fun a b o1 o2 p1 p2 h1 h2=>h.inj a b o1 o2 p1 p2 (hl _ _ h1) (hl _ _ h2),h.new,fun j hj=>by
      cases hc:look (s.upd i none).heap j with
      | none=>rfl
      | some o=>have h1:=hl j o hc;rw [h.top j hj] at h1;cases h1⟩,Nat.le_refl _,fun _ _=>rfl,
    fun j hj hn=>by rw [St.look_upd,if_neg (fun e=>by subst e;rw [hp] at hn;cases hn)],.refl _ _,fun k ⟨j,o,q,h1,h2,h3⟩ _=>⟨j,o,q,hl _ _ h1,h2,h3⟩⟩
theorem Sim.again (h:Sim σ s w) {i:Nat} {o0 o:Ob} {p q:Pl} (hi:look s.heap i=some o0) (hp:σ i=some p) (hq:q.b=p.b) (hs:Oth (fun k=>k=p.b) w w') (ho:OR (σ.add s.next q) q o w'.heap[q.b]?) :
    Goes σ s w (σ.add s.next q) ((s.upd i none).add o) w':=by
  have hle:σ.Le (σ.add s.next q):=Sg.le_add (h.new _ (Nat.le_refl _))
  have hl:∀ j o,look ((s.upd i none).add o).heap j=if j=s.next then some o else if j=i then none else look s.heap j:=fun j o=>by
    rw [St.look_add,St.look_upd];rfl
  refine ⟨⟨fun j o' r hj hr=>?_,fun a b o1 o2 p1 p2 h1 h2 h3 h4 h5=>?_,fun j hj=>?_,fun j hj=>?_⟩,Nat.le_succ _,fun j hj=>Sg.add_other _ _ (Nat.ne_of_lt hj),fun j hj hn=>?_,⟨hs.os,hs.tape,hs.output,hs.size,fun k hk hS=>hs.block k hk fun e=>hS ⟨i,o0,p,hi,hp,e.symm⟩⟩,fun k hk hlt=>?_⟩
  · rw [hl] at hj
    split at hj
    · rename_i e;cases hj;subst e
      rw [Sg.add_at] at hr;cases hr
      exact ho
    · rename_i e
      split at hj
      · cases hj
      · rename_i e2
        rw [Sg.add_other _ _ e] at hr
        rw [hs.block _ (h.inside hj hr) (fun e3=>e2 (h.inj j i o' o0 r p hj hi hr hp e3))]
        exact (h.obj j o' r hj hr).mono hle
  · rw [hl] at h1 h2
    by_cases e1:a=s.next
    · by_cases e2:b=s.next
      · rw [e1,e2]
      · rw [if_neg e2] at h2
        split at h2
        · cases h2
        · rename_i e3
          rw [Sg.add_other _ _ e2] at h4
          subst e1
          rw [Sg.add_at] at h3;cases h3
          exact absurd (h.inj b i o2 o0 p2 p h2 hi h4 hp (by omega)) e3
    · rw [if_neg e1] at h1
      split at h1
      · cases h1
      · rename_i e3
        rw [Sg.add_other _ _ e1] at h3
        by_cases e2:b=s.next
        · subst e2
          rw [Sg.add_at] at h4;cases h4
          exact absurd (h.inj a i o1 o0 p1 p h1 hi h3 hp (by omega)) e3
        · rw [if_neg e2] at h2
          split at h2
          · cases h2
          · rw [Sg.add_other _ _ e2] at h4
            exact h.inj a b o1 o2 p1 p2 h1 h2 h3 h4 h5
  · have hj':s.next + 1≤j:=hj
    rw [Sg.add_other _ _ (by omega)];exact h.new j (by omega)
  · have hj':s.next + 1≤j:=hj
    have hlt:=h.lt hp
    rw [hl,if_neg (by omega),if_neg (by omega)];exact h.top j (by omega)
  · rw [hl,if_neg (Nat.ne_of_lt hj),if_neg (fun e=>by subst e;rw [hp] at hn;cases hn)]
  · obtain ⟨j,o',r,h1,h2,h3⟩:=hk
    rw [hl] at h1
    split at h1
    · rename_i e;subst e
      rw [Sg.add_at] at h2;cases h2
      exact ⟨i,o0,p,hi,hp,by omega⟩
    · rename_i e
      rw [Sg.add_other _ _ e] at h2
      split at h1
      · cases h1
      · exact ⟨j,o',r,h1,h2,h3⟩
end
end Go.Proofs.YtnpdcjdmbkcpbaaGreat.Ev
