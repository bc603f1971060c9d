/- The evaluator's operations: maps. The evaluator's operations: built-ins but append. The evaluator's operations: append. The evaluator's operations: calls; all operations at once. No condition. -/
import Derived.Test.YtnpdcjdmbkcpbaaGreatXw
import Derived.Lib.AppendZerosOnto
set_option linter.unusedVariables false
set_option linter.unusedSimpArgs false
namespace Go.Proofs.YtnpdcjdmbkcpbaaGreat.Ev
open Go
theorem run_getMap {w:World} {r:Nat} {ms:Array MapEntry} {c:Nat} (h:w.heap[r]?=some (.map ms c)):(getObj r).run Tryz.prog w = .ok (.map ms c) w:=by
  simp only [getObj,Sem.run,h]
theorem run_setMap {w:World} {r:Nat} {ms:Array MapEntry} {c:Nat} (o:Obj) (h:w.heap[r]?=some (.map ms c)):(setObj r o).run Tryz.prog w = .ok () { w with heap:=w.heap.setIfInBounds r o }:=by
  simp only [setObj,Sem.run,h]
theorem oth_set {w:World} {r:Nat} (o:Obj):Oth (fun k=>k=r) w { w with heap:=w.heap.setIfInBounds r o }:=
  ⟨rfl,rfl,rfl,by simp,fun k _ hk=>by
    show (w.heap.setIfInBounds r o)[k]?=_
    rw [Array.getElem?_setIfInBounds_ne (Ne.symm hk)]⟩
theorem heap_set {w:World} {r:Nat} {x:Obj} (o:Obj) (h:w.heap[r]?=some x):(w.heap.setIfInBounds r o)[r]?=some o:=by
  have hlt:r < w.heap.size:=(Array.getElem?_eq_some_iff.1 h).1
  simp [hlt]
def FindAt (j:IntKind) (n:Int) (ms:List MapEntry) (q:IntKind) (res:Option (Nat × Value)):Prop:=∀ st,Instr.findNow (.int q) (.int j n) ms st=some (res.map fun p=>(st + p.1,p.2))
theorem FindAt.nil (j:IntKind) (n:Int) (q:IntKind):FindAt j n [] q none:=fun st=>rfl
theorem FindAt.here {j:IntKind} {n:Int} {m:MapEntry} {ms:List MapEntry} {q:IntKind} (h:m.key = .int j n):FindAt j n (m :: ms) q (some (0,m.val)):=fun st=>by
  simp [Instr.findNow,h,Instr.sameNow]
theorem FindAt.next {j:IntKind} {n y:Int} {m:MapEntry} {ms:List MapEntry} {q:IntKind} {res:Option (Nat × Value)} (h:m.key = .int j y) (hne:n≠y) (k:FindAt j n ms q res):FindAt j n (m :: ms) q (res.map fun p=>(p.1 + 1,p.2)):=fun st=>by
  have:(n == y)=false:=by simpa using hne
  simp only [Instr.findNow,h,Instr.sameNow,if_true,this]
  rw [k (st + 1)]
  cases res with
  | none=>rfl
  | some p=>simp;omega
section
variable {α:Type} {r:α}
theorem findE_some {j:IntKind} {n:Int}:∀ {l:List (Value × Value)} {no:Option α} {f:Value→Option α},findE j n l no f=some r →
    (no=some r∧∀ σ ms q,L2 (ER σ) l ms→FindAt j n ms q none)∨(∃ v,f v=some r∧∀ σ ms q,L2 (ER σ) l ms→∃ i v',V1 σ v v'∧FindAt j n ms q (some (i,v')))
  | [],no,f,h=>.inl ⟨h,fun σ ms q hl=>by cases hl;exact .nil _ _ _⟩
  | (key,v) :: l,no,f,h=>by
    have h':intK key (fun h y=>same j h (@Bool.rec (fun _=>Option α) (findE j n l no f) (f v) (eqQ n y)))=some r:=h
    obtain ⟨jj,y,rfl,h1⟩:=intK_some h'
    obtain ⟨rfl,h2⟩:=same_some h1
    rw [eqQ_eq] at h2
    cases hb:(n == y) with
    | true=>
      rw [hb] at h2
      have hny:n=y:=by simpa using hb
      subst hny
      refine .inr ⟨v,h2,fun σ ms q hl=>?_⟩
      cases hl with | cons h3 h4=>
      obtain ⟨⟨kk,nn,e1,e2⟩,h5⟩:=h3
      cases e1
      exact ⟨0,_,h5,.here e2⟩
    | false=>
      rw [hb] at h2
      have hny:n≠y:=by simpa using hb
      rcases findE_some (l:=l) h2 with ⟨h3,h4⟩ | ⟨u,h3,h4⟩
      · refine .inl ⟨h3,fun σ ms q hl=>?_⟩
        cases hl with | cons h5 h6=>
        obtain ⟨⟨kk,nn,e1,e2⟩,h7⟩:=h5
        cases e1
        exact (h4 σ _ q h6).next e2 hny
      · refine .inr ⟨u,h3,fun σ ms q hl=>?_⟩
        cases hl with | cons h5 h6=>
        obtain ⟨⟨kk,nn,e1,e2⟩,h7⟩:=h5
        cases e1
        obtain ⟨i,v',h8,h9⟩:=h4 σ _ q h6
        exact ⟨i + 1,v',h8,h9.next e2 hny⟩
end
section
variable {r:Tm × St}
theorem setE_some {j:IntKind} {n:Int} {x:Value}:∀ {l:List (Value × Value)} {f:List (Value × Value)→R},setE j n x l f=some r→∃ l',f l'=some r ∧
    ∀ σ ms q,L2 (ER σ) l ms→(FindAt j n ms q none∧∀ x' b,V1 σ x x'→L2 (ER σ) l' (ms ++ [⟨.int j n,x',b⟩])) ∨
      (∃ i m,ms[i]?=some m∧m.key = .int j n∧FindAt j n ms q (some (i,m.val))∧∀ x',V1 σ x x'→L2 (ER σ) l' (ms.modify i fun e=>{ e with key:=.int j n,val:=x' }))
  | [],f,h=>⟨_,h,fun σ ms q hl=>by
      cases hl
      exact .inl ⟨.nil _ _ _,fun x' b hx=>.cons ⟨⟨j,n,rfl,rfl⟩,hx⟩ .nil⟩⟩
  | (key,v) :: l,f,h=>by
    have h':intK key (fun h y=>same j h (@Bool.rec (fun _=>R) (setE j n x l fun r=>f ((key,v) :: r)) (f ((.int j n,x) :: l)) (eqQ n y)))=some r:=h
    obtain ⟨jj,y,rfl,h1⟩:=intK_some h'
    obtain ⟨rfl,h2⟩:=same_some h1
    rw [eqQ_eq] at h2
    cases hb:(n == y) with
    | true=>
      rw [hb] at h2
      have hny:n=y:=by simpa using hb
      subst hny
      refine ⟨_,h2,fun σ ms q hl=>?_⟩
      cases hl with | cons h3 h4=>
      obtain ⟨⟨kk,nn,e1,e2⟩,h5⟩:=h3
      cases e1
      exact .inr ⟨0,_,rfl,e2,.here e2,fun x' hx=>.cons ⟨⟨_,_,rfl,rfl⟩,hx⟩ h4⟩
    | false=>
      rw [hb] at h2
      have hny:n≠y:=by simpa using hb
      obtain ⟨l',h3,h4⟩:=setE_some (l:=l) h2
      refine ⟨_,h3,fun σ ms q hl=>?_⟩
      cases hl with | cons h5 h6=>
      have h5':=h5
      obtain ⟨⟨kk,nn,e1,e2⟩,h7⟩:=h5
      cases e1
      rcases h4 σ _ q h6 with ⟨h8,h9⟩ | ⟨i,m,h8,h9,h10,h11⟩
      · exact .inl ⟨h8.next e2 hny,fun x' b hx=>.cons h5' (h9 x' b hx)⟩
      · exact .inr ⟨i + 1,m,h8,h9,h10.next e2 hny,fun x' hx=>.cons h5' (h11 x' hx)⟩
theorem delE_some {j:IntKind} {n:Int}:∀ {l:List (Value × Value)} {f:List (Value × Value)→R},delE j n l f=some r→∃ l',f l'=some r ∧
    ∀ σ ms q,L2 (ER σ) l ms→(FindAt j n ms q none∧L2 (ER σ) l' ms)∨(∃ i v,FindAt j n ms q (some (i,v))∧L2 (ER σ) l' (ms.eraseIdx i))
  | [],f,h=>⟨_,h,fun σ ms q hl=>by
      cases hl
      exact .inl ⟨.nil _ _ _,.nil⟩⟩
  | (key,v) :: l,f,h=>by
    have h':intK key (fun h y=>same j h (@Bool.rec (fun _=>R) (delE j n l fun r=>f ((key,v) :: r)) (f l) (eqQ n y)))=some r:=h
    obtain ⟨jj,y,rfl,h1⟩:=intK_some h'
    obtain ⟨rfl,h2⟩:=same_some h1
    rw [eqQ_eq] at h2
    cases hb:(n == y) with
    | true=>
      rw [hb] at h2
      have hny:n=y:=by simpa using hb
      subst hny
      refine ⟨_,h2,fun σ ms q hl=>?_⟩
      cases hl with | cons h3 h4=>
      obtain ⟨⟨kk,nn,e1,e2⟩,h5⟩:=h3
      cases e1
      exact .inr ⟨0,_,.here e2,h4⟩
    | false=>
      rw [hb] at h2
      have hny:n≠y:=by simpa using hb
      obtain ⟨l',h3,h4⟩:=delE_some (l:=l) h2
      refine ⟨_,h3,fun σ ms q hl=>?_⟩
      cases hl with | cons h5 h6=>
      have h5':=h5
      obtain ⟨⟨kk,nn,e1,e2⟩,h7⟩:=h5
      cases e1
      rcases h4 σ _ q h6 with ⟨h8,h9⟩ | ⟨i,m,h8,h9⟩
      · exact .inl ⟨h8.next e2 hny,.cons h5' h9⟩
      · exact .inr ⟨i + 1,m,h8.next e2 hny,.cons h5' h9⟩
end
theorem checkKey_int {t:TypeId} {q j:IntKind} {n:Int} (hu:Tryz.prog.underlying t=some (.int q)) (e:Bool) (d:Nat) (w:World):(Instr.checkKey e (d + 1) t (.int j n)).run Tryz.prog w = .ok () w:=by
  simp [Instr.checkKey,run_underlying hu]
theorem findKey_int {t:TypeId} {q j:IntKind} {n:Int} {ms:List MapEntry} {res:Option (Nat × Value)} (hu:Tryz.prog.underlying t=some (.int q)) (h:FindAt j n ms q res) (w:World):(Instr.findKey t (.int j n) ms).run Tryz.prog w = .ok res w:=by
  have h0:=h 0
  cases res with
  | none=>simp [Instr.findKey,run_underlying hu,h0]
  | some p=>simp [Instr.findKey,run_underlying hu,h0]
section
variable {cf:CallF} {tm:Tm} {s:St} {k:Value→St→R} {r:Tm × St}
theorem lookup_some {t:TypeId} {x y:Operand} {ok:Bool} (h:lookupK t x y ok cf tm s k=some r):∃ v,k v s=some r∧ReadR (.lookup t x y ok) tm s v:=by
  obtain ⟨h0,h⟩:=sortK_some (t:=t) (c:=7) h
  obtain ⟨qt,q,hu,hq⟩:=sort_ok h0 (by omega)
  have hu:Tryz.prog.underlying t=some (.map qt (elemT t)):=hu
  obtain ⟨b,h1,h2⟩:=evK_some (x:=x) (tm:=tm) h
  obtain ⟨b',h3,h4⟩:=evK_some (x:=y) (tm:=tm) h1
  obtain ⟨i,rfl,h5⟩:=refK_some h3
  obtain ⟨es,h6,h7⟩:=mapK_some h5
  obtain ⟨j,n,rfl,h8⟩:=intK_some h7
  cases hag:aggT (elemT t) with
  | true=>rw [hag] at h8;cases h8
  | false=>
    rw [hag] at h8
    obtain ⟨zs,h9,h10⟩:=zeroK_some (t:=elemT t) h8
    obtain ⟨z,h11,h12⟩:=nthK_some h10
    obtain ⟨i2,d2,zv,z1,z2,z3,z4,z5,z6⟩:=zero_ok h9
    have hz:zs=[zv]:=z6 hag
    subst hz
    have hzz:z=zv:=by simpa using h11.symm
    subst hzz
    have hzr:∀ σ,V1 σ z z:=fun σ=>by have:=z5 σ;cases this with | cons a b=>exact a
    have glue:∀ σ w a (o:Oper),o.op = .lookup t x y ok→SimO σ s w→OpsR σ tm a (.lookup t x y ok)→∃ ms:Array MapEntry,L2 (ER σ) es ms.toList∧∀ res,FindAt j n ms.toList q res →
        (execOp a.eval o).run Tryz.prog w = .ok (.value (match res with | some p=>if ok then .tuple #[p.2,.bool true] else p.2 | none=>if ok then .tuple #[z,.bool false] else z)) w:=by
      intro σ w a o ho hs ht
      obtain ⟨p,k1,k2⟩:=(h2 σ a (ht x (by simp [Op.operands]))).mp
      have k3:=(h4 σ a (ht y (by simp [Op.operands]))).int
      obtain ⟨ms,clock,k4,k5⟩:=hs.map h6 k1
      refine ⟨ms,k5,fun res hres=>?_⟩
      have c1:=checkKey_int (t:=qt) (j:=j) (n:=n) hq ms.isEmpty 9999 w
      have c2:=findKey_int hq hres w
      have c3:=run_getMap k4
      have c4:(zeroValue (elemT t)).run Tryz.prog w = .ok z w:=by simp [zeroValue,typeInfo,z1.info,z2]
      simp only [execOp,ho,k2,k3,Instr.lookup,Sem.run_bind,run_underlying hu,Result.andThen_ok,c3,Sem.run_pure,c2,show (10000:Nat)=9999 + 1 from rfl,c1]
      cases res with
      | none=>simp [c4]
      | some p=>simp
    rcases findE_some h12 with ⟨h13,h14⟩ | ⟨u,h13,h14⟩
    · refine ⟨_,h13,fun σ w a o ho hs ht=>?_⟩
      obtain ⟨ms,g1,g2⟩:=glue σ w a o ho hs ht
      refine ⟨_,g2 none (h14 σ _ q g1),?_⟩
      cases ok with
      | true=>exact .tup (.cons (.one (hzr σ)) (.cons (.one (.bool _)) .nil))
      | false=>exact .va (.one (hzr σ))
    · refine ⟨_,h13,fun σ w a o ho hs ht=>?_⟩
      obtain ⟨ms,g1,g2⟩:=glue σ w a o ho hs ht
      obtain ⟨i,v',g3,g4⟩:=h14 σ _ q g1
      refine ⟨_,g2 _ g4,?_⟩
      cases ok with
      | true=>exact .tup (.cons (.one g3) (.cons (.one (.bool _)) .nil))
      | false=>exact .va (.one g3)
theorem oneK_some {α:Type} {r:α} {v:Value} {f:Option α} (h:oneK v f=some r):f=some r∧∀ σ v',VT σ v v'→V1 σ v v':=by
  cases v with
  | agg c=>cases h
  | tuple c=>cases h
  | _=>exact ⟨h,fun σ v' hv=>by cases hv with | va hv=>cases hv with | one hv=>exact hv⟩
theorem mapUpdate_some {t:TypeId} {x y u:Operand} (h:mapUpdateK t x y u cf tm s k=some r):∃ v s',k v s'=some r∧EffR (.mapUpdate t x y u) tm s v s':=by
  obtain ⟨h0,h⟩:=sortK_some (t:=t) (c:=7) h
  obtain ⟨qt,q,hu,hq⟩:=sort_ok h0 (by omega)
  have hu:Tryz.prog.underlying t=some (.map qt (elemT t)):=hu
  obtain ⟨b,h1,h2⟩:=evK_some (x:=x) (tm:=tm) h
  obtain ⟨b',h3,h4⟩:=evK_some (x:=y) (tm:=tm) h1
  obtain ⟨wv,h30,h40⟩:=evK_some (x:=u) (tm:=tm) h3
  obtain ⟨i,rfl,h5⟩:=refK_some h30
  obtain ⟨h50,hone⟩:=oneK_some h5
  obtain ⟨es,h6,h7⟩:=mapK_some h50
  obtain ⟨j,n,rfl,h8⟩:=intK_some h7
  obtain ⟨es',h9,h10⟩:=setE_some h8
  rw [putS_eq] at h9
  refine ⟨_,_,h9,.of fun σ w a o ho hs ht=>?_⟩
  obtain ⟨p,k1,k2⟩:=(h2 σ a (ht x (by simp [Op.operands]))).mp
  have k3:=(h4 σ a (ht y (by simp [Op.operands]))).int
  have k30:=hone σ _ (h40 σ a (ht u (by simp [Op.operands])))
  obtain ⟨ms,clock,k4,k5⟩:=hs.o.map h6 k1
  have c1:=checkKey_int (t:=qt) (j:=j) (n:=n) hq false 9999 w
  have c3:=run_getMap k4
  rcases h10 σ ms.toList q k5 with ⟨g1,g2⟩ | ⟨i',m,g1,g2,g3,g4⟩
  · have c2:=findKey_int hq g1 w
    have c4:=run_setMap (.map (ms.push ⟨.int j n,a.eval u,clock⟩) (clock + 1)) k4
    refine ⟨.skip,undef,_,σ,?_,.inr ⟨rfl,rfl⟩,hs.put h6 k1 (oth_set (r:=p.b) (.map (ms.push ⟨.int j n,a.eval u,clock⟩) (clock + 1))) ?_,.tup .nil⟩
    · simp only [execOp,ho,k2,k3,Instr.mapUpdate,Sem.run_bind,run_underlying hu,Result.andThen_ok,c3,Sem.run_pure,c2,show (10000:Nat)=9999 + 1 from rfl,c1,c4]
    · rw [heap_set _ k4]
      exact .map (by rw [Array.toList_push];exact g2 _ _ k30)
  · have c2:=findKey_int hq g3 w
    have hi:ms[i']?=some m:=by rw [← Array.getElem?_toList];exact g1
    have c4:=run_setMap (.map (ms.modify i' fun e=>{ e with key:=.int j n,val:=a.eval u }) clock) k4
    have c5:(Instr.keyThatStays (((ms[i']?).map (·.key)).getD (.int j n)) (.int j n)).run Tryz.prog w = .ok (.int j n) w:=by
      rw [hi]
      simp [Instr.keyThatStays,g2,Instr.sameBits]
    refine ⟨.skip,undef,_,σ,?_,.inr ⟨rfl,rfl⟩,hs.put h6 k1 (oth_set (r:=p.b) (.map (ms.modify i' fun e=>{ e with key:=.int j n,val:=a.eval u }) clock)) ?_,.tup .nil⟩
    · simp only [execOp,ho,k2,k3,Instr.mapUpdate,Sem.run_bind,run_underlying hu,Result.andThen_ok,c3,Sem.run_pure,c2,show (10000:Nat)=9999 + 1 from rfl,c1,c5,c4]
    · rw [heap_set _ k4]
      exact .map (by rw [Array.toList_modify];exact g4 _ k30)
end
end Go.Proofs.YtnpdcjdmbkcpbaaGreat.Ev
namespace Go.Proofs.YtnpdcjdmbkcpbaaGreat.Ev
open Go
def BRead (need:Prop) (b:Builtin) (ts:List TypeId) (s:St) (l:List Value) (v:Value):Prop:=
  ∀ (σ:Sg) (w:World) (l':List Value) (ty:TypeId) (cs:Array Bool),(need→SimO σ s w)→L2 (VT σ) l l'→∃ v',(builtin b ⟨ts⟩ ty cs ⟨l'⟩).run Tryz.prog w = .ok (.value v') w∧VT σ v v'
def BEff (b:Builtin) (ts:List TypeId) (s:St) (l:List Value) (v:Value) (s':St):Prop:=
  ∀ (σ:Sg) (w:World) (l':List Value) (ty:TypeId) (cs:Array Bool),Sim σ s w→L2 (VT σ) l l'→∃ v' w' σ',(builtin b ⟨ts⟩ ty cs ⟨l'⟩).run Tryz.prog w = .ok (.value v') w'∧Goes σ s w σ' s' w'∧VT σ' v v'
section
variable {s:St} {k:Value→St→R} {r:Tm × St}
theorem head1_some {l:List Value} {f:Value→R} (h:head1 l f=some r):∃ v m,l=v :: m∧f v=some r:=by
  cases l with
  | nil=>cases h
  | cons v m=>exact ⟨v,m,rfl,h⟩
theorem head2_some {l:List Value} {f:Value→Value→R} (h:head2 l f=some r):∃ v u m,l=v :: u :: m∧f v u=some r:=by
  cases l with
  | nil=>cases h
  | cons v m=>cases m with
    | nil=>cases h
    | cons u m=>exact ⟨v,u,m,rfl,h⟩
theorem headT_some {l:List TypeId} {f:TypeId→R} (h:headT l f=some r):∃ v m,l=v :: m∧f v=some r:=by
  cases l with
  | nil=>cases h
  | cons v m=>exact ⟨v,m,rfl,h⟩
theorem headT2_some {l:List TypeId} {f:TypeId→TypeId→R} (h:headT2 l f=some r):∃ v u m,l=v :: u :: m∧f v u=some r:=by
  cases l with
  | nil=>cases h
  | cons v m=>cases m with
    | nil=>cases h
    | cons u m=>exact ⟨v,u,m,rfl,h⟩
theorem len_some {ts:List TypeId} {l:List Value} (h:(headT ts fun t=>head1 l fun x=>lengthK t x s k)=some r):∃ v,k v s=some r∧BRead (sortT (ts.headD 0)=7) .len ts s l v:=by
  obtain ⟨t,ts',rfl,h1⟩:=headT_some h
  obtain ⟨x,m,rfl,h2⟩:=head1_some h1
  cases x with
  | slice p n c=>
    obtain ⟨h3,h4⟩:=sortK_some (t:=t) (c:=5) h2
    have hu:=(elem_of h3).1
    refine ⟨_,h4,fun σ w l' ty cs hs hl=>?_⟩
    cases hl with | cons a1 a2=>
    rename_i x' m'
    have e:∃ p' c',x' = .slice p' n c':=by
      cases a1 with | va a1=>cases a1 with | one a1=>cases a1 <;> exact ⟨_,_,rfl⟩
    obtain ⟨p',c',rfl⟩:=e
    exact ⟨.int .i64 (Int.ofNat n),by simp [builtin,Builtin.len_,run_underlying hu,goInt],VT.num _ _ _⟩
  | map p=>
    obtain ⟨h3,h4⟩:=sortK_some (t:=t) (c:=7) h2
    obtain ⟨qt,q,hu,hq⟩:=sort_ok h3 (by omega)
    have hu:Tryz.prog.underlying t=some (.map qt (elemT t)):=hu
    cases p with
    | none=>
      refine ⟨_,h4,fun σ w l' ty cs hs hl=>?_⟩
      cases hl with | cons a1 a2=>
      rename_i x' m'
      have e:x' = .map none:=by
        cases a1 with | va a1=>cases a1 with | one a1=>cases a1;rfl
      subst e
      exact ⟨.int .i64 (Int.ofNat 0),by simp [builtin,Builtin.len_,run_underlying hu,goInt],VT.num _ _ _⟩
    | some i=>
      obtain ⟨es,h5,h6⟩:=mapK_some (s:=s) h4
      rw [forceN_eq] at h6
      refine ⟨_,h6,fun σ w l' ty cs hs hl=>?_⟩
      cases hl with | cons a1 a2=>
      obtain ⟨p,k1,rfl⟩:=a1.mp
      obtain ⟨ms,clock,k2,k3⟩:=(hs h3).map h5 k1
      have c1:=run_getMap k2
      refine ⟨.int .i64 (Int.ofNat es.length),?_,VT.num _ _ _⟩
      have c2:=k3.length
      simp [builtin,Builtin.len_,run_underlying hu,goInt,c1,c2]
  | agg c=>
    cases ha:alenT t with
    | zero=>
      have h2' : @Nat.casesOn (fun _=>R) (alenT t) none (fun n=>k (.int .i64 (Int.ofNat n)) s)=some r:=h2
      rw [ha] at h2';cases h2'
    | succ n=>
      have h2' : @Nat.casesOn (fun _=>R) (alenT t) none (fun n=>k (.int .i64 (Int.ofNat n)) s)=some r:=h2
      rw [ha] at h2'
      have hu:=alen_ok ha
      refine ⟨_,h2',fun σ w l' ty cs hs hl=>?_⟩
      cases hl with | cons a1 a2=>
      rename_i x' m'
      exact ⟨.int .i64 (Int.ofNat n),by simp [builtin,Builtin.len_,run_underlying hu,goInt],VT.num _ _ _⟩
  | _=>cases h2
theorem cap_some {ts:List TypeId} {l:List Value} (h:(headT ts fun t=>head1 l fun x=>capK t x s k)=some r):∃ v,k v s=some r∧BRead False .cap ts s l v:=by
  obtain ⟨t,ts',rfl,h1⟩:=headT_some h
  obtain ⟨x,m,rfl,h2⟩:=head1_some h1
  obtain ⟨h3,h4⟩:=sortK_some (t:=t) (c:=5) h2
  have hu:=(elem_of h3).1
  rcases slK_some h4 with ⟨rfl,h5⟩ | ⟨b,o,n,c,rfl,h5⟩
  · refine ⟨_,h5,fun σ w l' ty cs hs hl=>?_⟩
    cases hl with | cons a1 a2=>
    rw [a1.snil]
    exact ⟨.int .i64 (Int.ofNat 0),by simp [builtin,Builtin.cap_,run_underlying hu,goInt],VT.num _ _ _⟩
  · cases hb:Nat.beq c U with
    | true=>
      have h5' : @Bool.rec (fun _=>R) (k (.int .i64 (Int.ofNat c)) s) none (Nat.beq c U)=some r:=h5
      rw [hb] at h5';cases h5'
    | false=>
      have h5' : @Bool.rec (fun _=>R) (k (.int .i64 (Int.ofNat c)) s) none (Nat.beq c U)=some r:=h5
      rw [hb] at h5'
      refine ⟨_,h5',fun σ w l' ty cs hs hl=>?_⟩
      cases hl with | cons a1 a2=>
      obtain ⟨p,c',k1,k2,k3,k4,rfl⟩:=a1.sl
      have hc:c≠U:=fun e=>by rw [e,Nat.beq_refl] at hb;cases hb
      rcases k4 with ⟨rfl,_⟩ | ⟨e,_⟩
      · exact ⟨.int .i64 (Int.ofNat c),by simp [builtin,Builtin.cap_,run_underlying hu,goInt],VT.num _ _ _⟩
      · exact absurd e hc
theorem min_fold {up:Bool} {j:IntKind}:∀ {l:List Value} {x:Int} {f:Int→R},(@List.rec Value (fun _=>Int→R) (fun x=>forceI x f) (fun w _ ih x=>intK w fun h y=>same j h (ih (@Bool.rec (fun _=>Int) (@Bool.rec (fun _=>Int) x y (ltQ y x)) (@Bool.rec (fun _=>Int) x y (ltQ x y)) up))) l x)=some r →
    ∃ n,f n=some r∧∀ σ w l',L2 (VT σ) l l'→(l'.foldlM (if up then Builtin.max2 else Builtin.min2) (.int j x)).run Tryz.prog w = .ok (.int j n) w
  | [],x,f,h=>by
    have h':forceI x f=some r:=h
    rw [forceI_eq] at h'
    exact ⟨x,h',fun σ w l' hl=>by cases hl;rfl⟩
  | v :: l,x,f,h=>by
    obtain ⟨jj,y,rfl,h1⟩:=intK_some (v:=v) h
    obtain ⟨rfl,h2⟩:=same_some h1
    obtain ⟨n,h3,h4⟩:=min_fold (l:=l) h2
    refine ⟨n,h3,fun σ w l' hl=>?_⟩
    cases hl with | cons a1 a2=>
    rw [a1.int]
    have h5:=h4 σ w _ a2
    rw [List.foldlM_cons,Sem.run_bind]
    cases up with
    | true=>
      simp only [if_true] at h5 ⊢
      simp only [Builtin.max2,Sem.run_pure,Result.andThen_ok]
      rw [ltQ_eq] at h5
      by_cases hxy:x < y
      · rw [if_pos hxy];simpa [hxy] using h5
      · rw [if_neg hxy];simpa [hxy] using h5
    | false=>
      simp only [Bool.false_eq_true,if_false] at h5 ⊢
      simp only [Builtin.min2,Sem.run_pure,Result.andThen_ok]
      rw [ltQ_eq] at h5
      by_cases hxy:y < x
      · rw [if_pos hxy];simpa [hxy] using h5
      · rw [if_neg hxy];simpa [hxy] using h5
theorem min_some {up:Bool} {ts:List TypeId} {l:List Value} (h:minK up l s k=some r):∃ v,k v s=some r∧BRead False (if up then .max else .min) ts s l v:=by
  cases l with
  | nil=>cases h
  | cons v l=>
    obtain ⟨j,x,rfl,h1⟩:=intK_some (v:=v) h
    obtain ⟨n,h2,h3⟩:=min_fold (l:=l) h1
    refine ⟨_,h2,fun σ w l' ty cs hs hl=>?_⟩
    cases hl with | cons a1 a2=>
    rw [a1.int]
    refine ⟨.int j n,?_,VT.num _ _ _⟩
    have h4:=h3 σ w _ a2
    cases up with
    | true=>
      simp only [if_true] at h4 ⊢
      simp [builtin,Builtin.max_,h4]
    | false=>
      simp only [Bool.false_eq_true,if_false] at h4 ⊢
      simp [builtin,Builtin.min_,h4]
theorem delete_some {ts:List TypeId} {l:List Value} (h:(headT ts fun t=>head2 l fun x y=>deleteK t x y s k)=some r):∃ v s',k v s'=some r∧BEff .delete ts s l v s':=by
  obtain ⟨t,ts',rfl,h1⟩:=headT_some h
  obtain ⟨x,y,m,rfl,h2⟩:=head2_some h1
  obtain ⟨h0,h3⟩:=sortK_some (t:=t) (c:=7) h2
  obtain ⟨qt,q,hu,hq⟩:=sort_ok h0 (by omega)
  have hu:Tryz.prog.underlying t=some (.map qt (elemT t)):=hu
  obtain ⟨i,rfl,h4⟩:=refK_some h3
  obtain ⟨es,h5,h6⟩:=mapK_some h4
  obtain ⟨j,n,rfl,h7⟩:=intK_some h6
  obtain ⟨es',h8,h9⟩:=delE_some h7
  rw [putS_eq] at h8
  refine ⟨_,_,h8,fun σ w l' ty cs hs hl=>?_⟩
  cases hl with | cons a1 a2=>cases a2 with | cons a2 a3=>
  obtain ⟨p,k1,rfl⟩:=a1.mp
  rw [a2.int]
  obtain ⟨ms,clock,k4,k5⟩:=hs.o.map h5 k1
  have c1:=checkKey_int (t:=qt) (j:=j) (n:=n) hq ms.isEmpty 9999 w
  have c3:=run_getMap k4
  rcases h9 σ ms.toList q k5 with ⟨g1,g2⟩ | ⟨i',v,g1,g2⟩
  · have c2:=findKey_int hq g1 w
    have c4:=run_setMap (.map ms clock) k4
    refine ⟨.tuple #[],_,σ,?_,hs.put h5 k1 (oth_set (r:=p.b) (.map ms clock)) ?_,.tup .nil⟩
    · simp only [builtin,Builtin.delete_,List.getElem?_toArray,List.getElem?_cons_zero,List.getElem?_cons_succ,Sem.run_bind,run_underlying hu,Result.andThen_ok,c3,Sem.run_pure,c2,show (10000:Nat)=9999 + 1 from rfl,c1,c4]
    · rw [heap_set _ k4];exact .map g2
  · have c2:=findKey_int hq g1 w
    have c4:=run_setMap (.map (ms.eraseIdxIfInBounds i') clock) k4
    refine ⟨.tuple #[],_,σ,?_,hs.put h5 k1 (oth_set (r:=p.b) (.map (ms.eraseIdxIfInBounds i') clock)) ?_,.tup .nil⟩
    · simp only [builtin,Builtin.delete_,List.getElem?_toArray,List.getElem?_cons_zero,List.getElem?_cons_succ,Sem.run_bind,run_underlying hu,Result.andThen_ok,c3,Sem.run_pure,c2,show (10000:Nat)=9999 + 1 from rfl,c1,c4]
    · rw [heap_set _ k4]
      refine .map ?_
      have e:(ms.eraseIdxIfInBounds i').toList=ms.toList.eraseIdx i':=by simp
      rw [e];exact g2
theorem clear_some {ts:List TypeId} {l:List Value} (h:(headT ts fun t=>head1 l fun x=>clearK t x s k)=some r):∃ v s',k v s'=some r∧BEff .clear ts s l v s':=by
  obtain ⟨t,ts',rfl,h1⟩:=headT_some h
  obtain ⟨x,m,rfl,h2⟩:=head1_some h1
  obtain ⟨h0,h3⟩:=sortK_some (t:=t) (c:=5) h2
  have hu:=(elem_of h0).1
  rcases slE_some h3 with ⟨rfl,h4⟩ | ⟨b,o,x,c,rfl,h4⟩ | ⟨b,o,n,c,rfl,h4⟩
  · refine ⟨_,_,h4,fun σ w l' ty cs hs hl=>?_⟩
    cases hl with | cons a1 a2=>
    rw [a1.snil]
    exact ⟨.tuple #[],w,σ,by simp [builtin,Builtin.clear_,run_underlying hu],.refl hs,.tup .nil⟩
  · refine ⟨_,_,h4,fun σ w l' ty cs hs hl=>?_⟩
    cases hl with | cons a1 a2=>
    obtain ⟨_,b',o',c',rfl⟩:=a1.sle
    exact ⟨.tuple #[],w,σ,by simp [builtin,Builtin.clear_,run_underlying hu],.refl hs,.tup .nil⟩
  · obtain ⟨z,i,d,q1,q2,q3,h5⟩:=sizeK_some (t:=elemT t) h4
    obtain ⟨zs,i2,d2,zv,q4,q5,q6,q7,q8,h6⟩:=zerosK_some (e:=elemT t) h5
    obtain ⟨rfl,rfl⟩:=q1.same q4
    obtain ⟨vs,tt,h7,h8,h9⟩:=storeS_some h6
    refine ⟨_,_,h9,fun σ w l' ty cs hs hl=>?_⟩
    cases hl with | cons a1 a2=>
    obtain ⟨p,c',k1,k2,k3,k4,rfl⟩:=a1.sl
    obtain ⟨w',c1,c2⟩:=hs.write h7 k1 h8 ((q8 σ).reps n)
    refine ⟨.tuple #[],w',σ,?_,c2,.tup .nil⟩
    cases n with
    | zero=>
      have c1':Result.ok () w=Result.ok () w':=c1
      cases c1'
      simp [builtin,Builtin.clear_,run_underlying hu]
    | succ n=>
      have e:(Builtin.zeroCells zv.cells (n + 1)).toList=(List.replicate (n + 1) zs).flatten:=by
        rw [← q6,← made_cells];rfl
      simp only [builtin,Builtin.clear_,List.getElem?_toArray,List.getElem?_cons_zero,Sem.run_bind,run_underlying hu,Result.andThen_ok,zeroValue,typeInfo,run_program,q1.info,Sem.run_pure,q5,e,c1]
theorem firstK_some {α:Type} {r:α} {z n:Nat} {v:Value} {f:List Value→Option α} (h:firstK s z n v f=some r):∃ l,f l=some r∧l.length=n * z∧∀ σ w v',SimO σ s w→VT σ v v'→∃ l',L2 (V1 σ) l l'∧(∃ p n' c',v' = .slice p n' c')∧l'.length=n * z∧∀ w2,w2.heap=w.heap→(Builtin.firstCells z n v').run Tryz.prog w2 = .ok l'.toArray w2:=by
  unfold firstK at h
  rcases slE_some h with ⟨rfl,h4⟩ | ⟨b,o,x,c,rfl,h4⟩ | ⟨b,o,m,c,rfl,h4⟩
  · obtain ⟨hn,h5⟩:=bif_some h4
    have hn:=Nat.eq_of_beq_eq_true hn
    subst hn
    refine ⟨[],h5,by simp,fun σ w v' hs hv=>⟨[],.nil,?_,by simp,fun w2 _=>?_⟩⟩
    · exact ⟨_,_,_,hv.snil⟩
    · rw [hv.snil];rfl
  · obtain ⟨hn,h5⟩:=bif_some h4
    have hn:=Nat.eq_of_beq_eq_true hn
    subst hn
    refine ⟨[],h5,by simp,fun σ w v' hs hv=>⟨[],.nil,?_,by simp,fun w2 _=>?_⟩⟩
    · obtain ⟨_,b',o',c',e⟩:=hv.sle;exact ⟨_,_,_,e⟩
    · obtain ⟨_,b',o',c',rfl⟩:=hv.sle
      simp [Builtin.firstCells,loadCells,loadCellsFrom]
  · obtain ⟨vs,t,h5,h6,h7⟩:=readK_some (s:=s) h4
    refine ⟨_,h7,by rw [List.length_take,List.length_drop];have:o + n * z≤vs.length:=h6;show min (n * z) (vs.length - o)=n * z;omega,fun σ w v' hs hv=>?_⟩
    obtain ⟨p,c',k1,k2,k3,k4,rfl⟩:=hv.sl
    obtain ⟨l,g1,g2,g3⟩:=hs.reads h5 k1 h6
    refine ⟨l,g2,⟨_,_,_,rfl⟩,g1,fun w2 hw=>?_⟩
    refine run_firstCells_some (P:=Tryz.prog) w2 z n _ m c' l g1 fun j u hu=>?_
    have:=g3 j u hu
    simpa [World.cell?,hw] using this
theorem copy_some {ts:List TypeId} {l:List Value} (h:(headT ts fun t=>head2 l fun x y=>copyK t x y s k)=some r):∃ v s',k v s'=some r∧BEff .copy ts s l v s':=by
  obtain ⟨t,ts',rfl,h1⟩:=headT_some h
  obtain ⟨x,y,m,rfl,h2⟩:=head2_some h1
  obtain ⟨h0,h3⟩:=sortK_some (t:=t) (c:=5) h2
  have hu:=(elem_of h0).1
  obtain ⟨z,i,d,q1,q2,q3,h4⟩:=sizeK_some (t:=elemT t) h3
  have hlen:∃ my,(slE x (k (.int .i64 (Int.ofNat 0)) s) fun a n _=>firstK s (z + 1) (minQ my n) y fun cs=>storeS s a.block a.off cs fun s'=>forceN (minQ my n) fun m=>k (.int .i64 (Int.ofNat m)) s')=some r∧∀ σ y',VT σ y y'→∃ p c,y' = .slice p my c:=by
    unfold lenK at h4
    rcases slE_some h4 with ⟨rfl,h5⟩ | ⟨b,o,x,c,rfl,h5⟩ | ⟨b,o,n,c,rfl,h5⟩
    · exact ⟨0,h5,fun σ y' hy=>⟨_,_,hy.snil⟩⟩
    · exact ⟨0,h5,fun σ y' hy=>by obtain ⟨_,b',o',c',e⟩:=hy.sle;exact ⟨_,_,e⟩⟩
    · exact ⟨n,h5,fun σ y' hy=>by obtain ⟨p,c',k1,k2,k3,k4,e⟩:=hy.sl;exact ⟨_,_,e⟩⟩
  obtain ⟨my,h5,hy⟩:=hlen
  have hsz:∀ w,(sizeOf (elemT t)).run Tryz.prog w = .ok (z + 1) w:=fun w=>by simp [sizeOf,typeInfo,q1.info,q2]
  have none0:∀ σ w y',VT σ y y'→(Builtin.firstCells (z + 1) 0 y').run Tryz.prog w = .ok #[] w:=by
    intro σ w y' hv
    obtain ⟨p,c,rfl⟩:=hy σ y' hv
    cases p with
    | none=>rfl
    | some a=>simp [Builtin.firstCells,loadCells,loadCellsFrom]
  rcases slE_some h5 with ⟨rfl,h6⟩ | ⟨b,o,x,c,rfl,h6⟩ | ⟨b,o,n,c,rfl,h6⟩
  · refine ⟨_,_,h6,fun σ w l' ty cs hs hl=>?_⟩
    cases hl with | cons a1 a2=>cases a2 with | cons a2 a3=>
    rw [a1.snil]
    obtain ⟨p,c,rfl⟩:=hy σ _ a2
    have g:=none0 σ w _ a2
    refine ⟨.int .i64 (Int.ofNat 0),w,σ,?_,.refl hs,VT.num _ _ _⟩
    simp only [builtin,Builtin.copy_,List.getElem?_toArray,List.getElem?_cons_zero,List.getElem?_cons_succ,Sem.run_bind,run_underlying hu,Result.andThen_ok,Builtin.lenOf,Sem.run_pure,hsz]
    have e0:Nat.min my 0=0:=Nat.min_zero my
    rw [e0,g]
    rfl
  · refine ⟨_,_,h6,fun σ w l' ty cs hs hl=>?_⟩
    cases hl with | cons a1 a2=>cases a2 with | cons a2 a3=>
    obtain ⟨_,b',o',c',rfl⟩:=a1.sle
    obtain ⟨p,c,rfl⟩:=hy σ _ a2
    have g:=none0 σ w _ a2
    refine ⟨.int .i64 (Int.ofNat 0),w,σ,?_,.refl hs,VT.num _ _ _⟩
    simp only [builtin,Builtin.copy_,List.getElem?_toArray,List.getElem?_cons_zero,List.getElem?_cons_succ,Sem.run_bind,run_underlying hu,Result.andThen_ok,Builtin.lenOf,Sem.run_pure,hsz]
    have e0:Nat.min my 0=0:=Nat.min_zero my
    rw [e0,g]
    rfl
  · rw [minQ_eq] at h6
    obtain ⟨cs,h7,_,h8⟩:=firstK_some h6
    obtain ⟨vs,tt,h9,h10,h11⟩:=storeS_some h7
    rw [forceN_eq] at h11
    refine ⟨_,_,h11,fun σ w l' ty bs hs hl=>?_⟩
    cases hl with | cons a1 a2=>cases a2 with | cons a2 a3=>
    obtain ⟨p,c',k1,k2,k3,k4,rfl⟩:=a1.sl
    obtain ⟨l2,g1,⟨p2,n2,c2,e2⟩,g3,g4⟩:=h8 σ w _ hs.o a2
    obtain ⟨p3,c3,e3⟩:=hy σ _ a2
    obtain ⟨w',c1,c2⟩:=hs.write h9 k1 h10 g1
    refine ⟨.int .i64 (Int.ofNat (min my n)),w',σ,?_,c2,VT.num _ _ _⟩
    have g5:=g4 w rfl
    rw [e3] at g5 ⊢
    simp only [builtin,Builtin.copy_,List.getElem?_toArray,List.getElem?_cons_zero,List.getElem?_cons_succ,Sem.run_bind,run_underlying hu,Result.andThen_ok,Builtin.lenOf,Sem.run_pure,hsz,show Nat.min my n=min my n from rfl,g5,c1]
    rfl
end
end Go.Proofs.YtnpdcjdmbkcpbaaGreat.Ev
namespace Go.Proofs.YtnpdcjdmbkcpbaaGreat.Ev
open Go
inductive NewsR (w:World) (u:TypeId) (z:Nat) (zv:Value) (n:Nat) (news:List Value):Value→Prop
  | row {p c e}:Tryz.prog.underlying u=some (.slice e)→(∀ w2,w2.heap=w.heap→(Builtin.firstCells z n (.slice p n c)).run Tryz.prog w2 = .ok news.toArray w2)→NewsR w u z zv n news (.slice p n c)
  | zeros {k q}:n≤100000→Tryz.prog.underlying u=some (.int q)→news.toArray=Builtin.zeroCells zv.cells n→NewsR w u z zv n news (.int k (Int.ofNat n))
section
variable {w:World} {t u e:TypeId} {ts:List TypeId} {i:TypeInfo} {zv:Value} {n:Nat} {news:List Value} {y:Value} {l:List Value}
theorem app_fits (ty:TypeId) (ht:Tryz.prog.underlying t=some (.slice e)) (hi:Tryz.prog.info? e=some i) (hz:i.zero=some zv) (hb:i.bytes≤1048576) (hs:0 < i.size)
    (h:NewsR w u i.size zv n news y) (base:Option Addr) (sLen sCap:Nat) (hr:sLen + n≤sCap) :
    (Builtin.append_ ⟨t :: u :: ts⟩ ty ⟨.slice base sLen sCap :: y :: l⟩).run Tryz.prog w=(match base with
      | some a=>(storeCells (a.add (sLen * i.size)) news).run Tryz.prog w
      | none=>.ok () w).andThen fun _ w'=>.ok (.slice base (sLen + n) sCap) w':=by
  cases h with
  | row hu hf=>
    have hf:=hf w rfl
    cases base <;> simp [Builtin.append_,run_underlying ht,run_underlying hu,sizeOf,typeInfo,hi,Builtin.lenOf,hr,hf]
  | zeros hn hu hf=>
    have hw:IntKind.i64.wrap (n:Int)=n:=by rw [IntKind.wrap_i64];omega
    have hneg:¬ ((n:Int) < 0):=by omega
    have h48:¬ (281474976710656 < (n:Int) * (i.bytes:Int)):=by
      rw [← Int.natCast_mul]
      have:=Nat.mul_le_mul hn hb
      omega
    by_cases h0:n=0
    · subst h0
      have hn0:news=[]:=by
        have:news.toArray = #[]:=by rw [hf];simp [Builtin.zeroCells]
        simpa using this
      subst hn0
      have hr':sLen≤sCap:=by simpa using hr
      have hw0:IntKind.i64.wrap 0=0:=by decide
      cases base <;> simp [Builtin.append_,run_underlying ht,run_underlying hu,sizeOf,typeInfo,hi,asInt,asIntOf,hw0,hr',storeCells]
    · have hns:¬ (n * i.size=0):=Nat.mul_ne_zero h0 (by omega)
      have hsz:¬ i.size=0:=by omega
      cases base with
      | none=>simp [Builtin.append_,run_underlying ht,run_underlying hu,sizeOf,typeInfo,zeroValue,hi,hz,asInt,asIntOf,hw,hneg,h48,hr,hns,h0,hsz,← hf]
      | some a=>simp [Builtin.append_,run_underlying ht,run_underlying hu,sizeOf,typeInfo,zeroValue,hi,hz,asInt,asIntOf,hw,hneg,h48,hr,hns,h0,hsz,← hf]
theorem app_grow (ty:TypeId) (ht:Tryz.prog.underlying t=some (.slice e)) (hi:Tryz.prog.info? e=some i) (hz:i.zero=some zv) (hb:i.bytes≤1048576) (hs:0 < i.size)
    (h:NewsR w u i.size zv n news y) (base:Option Addr) (sLen sCap:Nat) (hr:sCap < sLen + n) (hm:sLen + n≤100000) (olds:List Value)
    (ho:(Builtin.firstCells i.size sLen (.slice base sLen sCap)).run Tryz.prog w.drew = .ok olds.toArray w.drew) :
    (Builtin.append_ ⟨t :: u :: ts⟩ ty ⟨.slice base sLen sCap :: y :: l⟩).run Tryz.prog w = .ok (.slice (some ⟨w.heap.size,0,none⟩) (sLen + n) (grownCap w (sLen + n) sCap e))
        (w.drew.alloc (.cells (olds.toArray ++ news.toArray ++ Builtin.zeroCells zv.cells (grownCap w (sLen + n) sCap e - (sLen + n))) e)):=by
  have hnot:¬ (sLen + n≤sCap):=by omega
  have h63':¬ (9223372036854775807 < ((sLen:Int) + (n:Int))):=by omega
  have hfit:Builtin.nextslicecap (sLen + n) sCap * i.bytes≤281474976710656:=growslice_fits hr (by
    have:=Nat.mul_le_mul hm hb
    omega)
  have h48':¬ (281474976710656 < Builtin.nextslicecap (sLen + n) sCap * i.bytes):=by omega
  cases h with
  | row hu hf=>
    have hf:=hf w.drew rfl
    simp [Builtin.append_,run_underlying ht,run_underlying hu,sizeOf,typeInfo,zeroValue,hi,hz,Builtin.lenOf,hnot,h63',h48',Question.forced,hf,ho,newRow,grownCap]
    have e:∀ Z:Array Value,olds.toArray ++ (news.toArray ++ Z)=(olds ++ news).toArray ++ Z:=fun Z=>by apply Array.ext';simp
    rw [e]
  | zeros hn hu hf=>
    have hw:IntKind.i64.wrap (n:Int)=n:=by rw [IntKind.wrap_i64];omega
    have hneg:¬ ((n:Int) < 0):=by omega
    have h48:¬ (281474976710656 < (n:Int) * (i.bytes:Int)):=by
      rw [← Int.natCast_mul]
      have:=Nat.mul_le_mul hn hb
      omega
    by_cases h0:n=0
    · subst h0
      have hn0:news=[]:=by
        have:news.toArray = #[]:=by rw [hf];simp [Builtin.zeroCells]
        simpa using this
      subst hn0
      have hnot':¬ (sLen≤sCap):=by simpa using hnot
      have h63'':¬ (9223372036854775807 < (sLen:Int)):=by omega
      have h48'':¬ (281474976710656 < Builtin.nextslicecap sLen sCap * i.bytes):=by simpa using h48'
      have hw0:IntKind.i64.wrap 0=0:=by decide
      simp [Builtin.append_,run_underlying ht,run_underlying hu,sizeOf,typeInfo,zeroValue,hi,hz,asInt,asIntOf,hw0,hnot',h63'',h48'',Question.forced,ho,newRow,grownCap]
    · have hns:¬ (n * i.size=0):=Nat.mul_ne_zero h0 (by omega)
      have hsz:¬ i.size=0:=by omega
      simp [Builtin.append_,run_underlying ht,run_underlying hu,sizeOf,typeInfo,zeroValue,hi,hz,asInt,asIntOf,hw,hnot,hneg,hns,h0,hsz,h63',h48',h48,Question.forced,ho,newRow,grownCap,hf]
end
theorem oth_drew (S:Nat→Prop) (w:World) (o:Obj):Oth S w (w.drew.alloc o):=⟨rfl,rfl,rfl,by simp,fun k hk _=>heap_alloc_old w.drew o hk⟩
theorem grown_lt (w:World) (n c:Nat) (e:TypeId) (hn:n≤100000):n≤grownCap w n c e∧grownCap w n c e < U:=by
  simp only [grownCap,Question.cut]
  have h1:=Nat.mod_lt (w.tape w.drawn (.appendCap n c e)) (show 0 < 2 ^ 63 - n by omega)
  unfold U
  exact ⟨by omega,by omega⟩
section
variable {s:St} {k:Value→St→R} {r:Tm × St}
theorem OR.grown {σ:Sg} {e:TypeId} {z n c:Nat} {zv:Value} {l l':List Value} (hz:zv.cells.size=z) (hse:sizeT e=z) (h0:0 < z) (hl:L2 (V1 σ) l l') (hn:l.length=n * z) (hnc:n≤c) (b:Nat) :
    OR σ ⟨b,c,z⟩ (.cells l e) (some (.cells (l'.toArray ++ Builtin.zeroCells zv.cells (c - n)) e (0,0))):=by
  have hlen:l'.length=n * z:=by rw [← hl.length,hn]
  refine .cells ?_ hse.symm h0 ?_ ?_
  · simp only [Array.size_append,List.size_toArray,size_zeroCells,hz,hlen,← Nat.add_mul]
    congr 1;omega
  · simp only [Array.size_append,List.size_toArray,hlen,hn];omega
  · rw [Array.toList_append,hn,← hlen]
    simp only [List.take_left]
    exact hl
theorem appendS_some {e z0:TypeId} {z n':Nat} {x:Value} {news:List Value} (h:appendS s e (z + 1) x news n' k=some r) (hlen:news.length=n' * (z + 1)):∃ v s',k v s'=some r ∧
    ∀ σ w (ts:List TypeId) (t u ty:TypeId) (i:TypeInfo) (zv x' y':Value) (l news':List Value),Tryz.prog.underlying t=some (.slice e)→Tryz.prog.info? e=some i→i.zero=some zv→zv.cells.size=z + 1→i.bytes≤1048576→i.size=z + 1→sizeT e=z + 1 →
      Sim σ s w→VT σ x x'→L2 (V1 σ) news news'→NewsR w u (z + 1) zv n' news' y'→∃ v' w' σ',(Builtin.append_ ⟨t :: u :: ts⟩ ty ⟨x' :: y' :: l⟩).run Tryz.prog w = .ok v' w'∧Goes σ s w σ' s' w'∧VT σ' v v':=by
  unfold appendS at h
  rcases slK_some h with ⟨rfl,h1⟩ | ⟨b,off,n,c,rfl,h1⟩
  · cases hb:Nat.beq n' 0 with
    | true=>
      rw [hb] at h1
      have h0:=Nat.eq_of_beq_eq_true hb
      subst h0
      refine ⟨_,_,h1,fun σ w ts t u ty i zv x' y' l news' ht hi hz hzs hby hsz hse hs hx hnews hN=>?_⟩
      rw [hx.snil]
      have:=app_fits (ts:=ts) (l:=l) ty ht hi hz hby (by omega) (by rw [hsz];exact hN) none 0 0 (by omega)
      exact ⟨_,w,σ,this,.refl hs,.va (.one .snil)⟩
    | false=>
      rw [hb] at h1
      have h0:n'≠0:=fun e=>by subst e;cases hb
      obtain ⟨hn',h2⟩:=bif_some h1
      have hn':n'≤100000:=Nat.le_of_ble_eq_true hn'
      rw [newS_eq,forceN_eq] at h2
      refine ⟨_,_,h2,fun σ w ts t u ty i zv x' y' l news' ht hi hz hzs hby hsz hse hs hx hnews hN=>?_⟩
      rw [hx.snil]
      have g:=app_grow (ts:=ts) (l:=l) ty ht hi hz hby (by omega) (by rw [hsz];exact hN) none 0 0 (by omega) (by omega) [] (by rfl)
      simp only [Nat.zero_add] at g
      obtain ⟨c1,c2⟩:=grown_lt w n' 0 e hn'
      have hb2:(⟨w.heap.size,grownCap w n' 0 e,z + 1⟩:Pl).b=w.heap.size:=rfl
      have hle:σ.Le (σ.add s.next ⟨w.heap.size,grownCap w n' 0 e,z + 1⟩):=Sg.le_add (hs.new _ (Nat.le_refl _))
      refine ⟨_,_,_,g,hs.more (p:=⟨w.heap.size,grownCap w n' 0 e,z + 1⟩) (oth_drew _ _ _) rfl ?_,?_⟩
      · rw [show (w.heap.size)=w.drew.heap.size from rfl,heap_alloc_new]
        have:=OR.grown (n:=n') (c:=grownCap w n' 0 e) hzs hse (by omega) (hnews.mono fun _ _=>V1.mono hle) hlen c1 w.heap.size
        simpa using this
      · exact .va (.one (.sl (Sg.add_at _ _ _) c1 c2 (.inr ⟨rfl,_,0,Sg.add_at _ _ _,by simp,by simp⟩)))
  · rw [forceN_eq] at h1
    obtain ⟨room,h2,hrc,hroom⟩:=roomK_some h1 (by omega)
    cases hb:Nat.ble (Nat.add n n') room with
    | true=>
      rw [hb] at h2
      have hb:n + n'≤room:=Nat.le_of_ble_eq_true hb
      obtain ⟨vs,tt,h3,h4,h5⟩:=storeS_some h2
      refine ⟨_,_,h5,fun σ w ts t u ty i zv x' y' l news' ht hi hz hzs hby hsz hse hs hx hnews hN=>?_⟩
      obtain ⟨p,c',k1,k2,k3,k4,rfl⟩:=hx.sl
      obtain ⟨k5,k6⟩:=hroom σ w p c' hs.o k1 k4
      have g:=app_fits (ts:=ts) (l:=l) ty ht hi hz hby (by omega) (by rw [hsz];exact hN) (some ⟨p.b,off,none⟩) n c' (by omega)
      rw [hsz] at g
      simp only [addr_add] at g
      obtain ⟨w',c1,c2⟩:=hs.write h3 k1 h4 hnews
      have c1':(storeCells ⟨p.b,off + n * (z + 1),none⟩ news').run Tryz.prog w = .ok () w':=c1
      rw [c1'] at g
      exact ⟨_,w',σ,g,c2,.va (.one (.sl k1 (show n + n'≤c' by omega) k3 k4))⟩
    | false=>
      rw [hb] at h2
      have hb:room < n + n':=by
        rcases Nat.lt_or_ge room (n + n') with h | h
        · exact h
        · have:Nat.ble (n + n') room=true:=Nat.ble_eq_true_of_le h
          rw [show Nat.add n n'=n + n' from rfl,this] at hb;cases hb
      obtain ⟨hm,h3⟩:=bif_some h2
      have hm:n + n'≤100000:=Nat.le_of_ble_eq_true hm
      obtain ⟨vs,tt,h4,h5,h6⟩:=readK_some (s:=s) h3
      rw [appK_eq] at h6
      have hll:∀ {old:List Value},old.length=n * (z + 1)→(old ++ news).length=(n + n') * (z + 1):=fun ho=>by rw [List.length_append,ho,hlen,Nat.add_mul]
      have hol:((vs.drop off).take (n * (z + 1))).length=n * (z + 1):=by
        rw [List.length_take,List.length_drop]
        have:off + n * (z + 1)≤vs.length:=h5
        omega
      have grow:∀ (τ:Sg) (s0:St) σ w (ts:List TypeId) (t u ty:TypeId) (i:TypeInfo) (zv y':Value) (l news':List Value) (p:Pl) (c':Nat),Tryz.prog.underlying t=some (.slice e)→Tryz.prog.info? e=some i→i.zero=some zv→zv.cells.size=z + 1→i.bytes≤1048576→i.size=z + 1→sizeT e=z + 1 →
          Sim σ s w→σ b=some p→L2 (V1 σ) news news'→NewsR w u (z + 1) zv n' news' y'→c' < n + n'→Sim σ s0 w→s0.next=s.next →
          ∃ v' w' σ',(Builtin.append_ ⟨t :: u :: ts⟩ ty ⟨.slice (some ⟨p.b,off,none⟩) n c' :: y' :: l⟩).run Tryz.prog w = .ok v' w'∧Goes σ s0 w σ' (s0.add (.cells ((vs.drop off).take (n * (z + 1)) ++ news) e)) w'∧VT σ' (.slice (some ⟨s0.next,0,none⟩) (n + n') U) v':=by
        intro τ s0 σ w ts t u ty i zv y' l news' p c' ht hi hz hzs hby hsz hse hs k1 hnews hN hc hs0 hnx
        obtain ⟨lo,g1,g2,g3⟩:=hs.o.reads h4 k1 h5
        have ho:(Builtin.firstCells i.size n (.slice (some ⟨p.b,off,none⟩) n c')).run Tryz.prog w.drew = .ok lo.toArray w.drew:=by
          refine run_firstCells_some w.drew i.size n ⟨p.b,off,none⟩ n c' lo (by rw [hsz];exact g1) fun j v hv=>?_
          exact g3 j v hv
        have g:=app_grow (ts:=ts) (l:=l) ty ht hi hz hby (by omega) (by rw [hsz];exact hN) (some ⟨p.b,off,none⟩) n c' hc hm lo ho
        obtain ⟨c1,c2⟩:=grown_lt w (n + n') c' e hm
        have hle:σ.Le (σ.add s0.next ⟨w.heap.size,grownCap w (n + n') c' e,z + 1⟩):=Sg.le_add (hs0.new _ (Nat.le_refl _))
        refine ⟨_,_,_,g,hs0.more (p:=⟨w.heap.size,grownCap w (n + n') c' e,z + 1⟩) (oth_drew _ _ _) rfl ?_,?_⟩
        · rw [show (w.heap.size)=w.drew.heap.size from rfl,heap_alloc_new]
          have:=OR.grown (n:=n + n') (c:=grownCap w (n + n') c' e) hzs hse (by omega) ((g2.append hnews).mono fun _ _=>V1.mono hle) (hll hol) c1 w.heap.size
          simpa using this
        · exact .va (.one (.sl (Sg.add_at _ _ _) c1 c2 (.inr ⟨rfl,_,0,Sg.add_at _ _ _,by simp,by simp⟩)))
      cases hcU:Nat.beq c U with
      | false=>
        rw [hcU] at h6
        have hc:c≠U:=fun e=>by rw [e,Nat.beq_refl] at hcU;cases hcU
        have h6':newS s (.cells ((vs.drop off).take (n * (z + 1)) ++ news) e) (fun i s'=>k (.slice (some ⟨i,0,none⟩) (n + n') U) s')=some r:=h6
        rw [newS_eq] at h6'
        refine ⟨_,_,h6',fun σ w ts t u ty i zv x' y' l news' ht hi hz hzs hby hsz hse hs hx hnews hN=>?_⟩
        obtain ⟨p,c',k1,k2,k3,k4,rfl⟩:=hx.sl
        have hcc:c'=room:=by
          rw [hrc hc]
          rcases k4 with ⟨rfl,_⟩ | ⟨e,_⟩
          · rfl
          · exact absurd e hc
        exact grow σ s σ w ts t u ty i zv y' l news' p c' ht hi hz hzs hby hsz hse hs k1 hnews hN (by omega) hs rfl
      | true=>
        rw [hcU] at h6
        have hc:=Nat.eq_of_beq_eq_true hcU
        subst hc
        obtain ⟨ho0,h6⟩:=bif_some h6
        obtain ⟨vs2,tt2,hl2,h6⟩:=cellsK_some h6
        obtain ⟨hte,h7⟩:=bif_some h6
        have hte:=Nat.eq_of_beq_eq_true hte
        subst hte
        have hl3:look s.heap b=some (.cells vs2 tt2):=hl2
        rw [h4] at hl3
        cases hl3
        have ho0:off=0:=Nat.eq_of_beq_eq_true ho0
        subst ho0
        rw [killS_eq,newS_eq] at h7
        refine ⟨_,_,h7,fun σ w ts t u ty i zv x' y' l news' ht hi hz hzs hby hsz hse hs hx hnews hN=>?_⟩
        obtain ⟨p,c',k1,k2,k3,k4,rfl⟩:=hx.sl
        obtain ⟨k5,k6⟩:=hroom σ w p c' hs.o k1 k4
        have kz:=k6 rfl
        rcases Nat.lt_or_ge c' (n + n') with hg | hg
        · have hk:=hs.kill k1
          obtain ⟨v',w',σ',g1,g2,g3⟩:=grow σ (s.upd b none) σ w ts t u ty i zv y' l news' p c' ht hi hz hzs hby hsz hse hs k1 hnews hN hg hk.sim rfl
          exact ⟨v',w',σ',g1,hk.trans g2,g3⟩
        · have g:=app_fits (ts:=ts) (l:=l) ty ht hi hz hby (by omega) (by rw [hsz];exact hN) (some ⟨p.b,0,none⟩) n c' hg
          rw [hsz] at g
          simp only [addr_add] at g
          obtain ⟨cc,t',q1,rfl,q2,q3,q4,q5,q6⟩:=hs.o.cells h4 k1
          have hcap:c'=p.cap:=by
            rcases k4 with ⟨e,h⟩ | ⟨_,q,e,h5,h6,h7⟩
            · rw [← e] at k3;exact absurd k3 (Nat.lt_irrefl _)
            · rw [k1] at h5;cases h5
              have:e=0:=by
                rcases Nat.mul_eq_zero.1 h6.symm with h | h
                · exact h
                · omega
              omega
          have hnl:news'.length=n' * (z + 1):=by rw [← hnews.length,hlen]
          have hfit:n * (z + 1) + news'.length≤cc.size:=by
            rw [hnl,q2,kz,← hcap,← Nat.add_mul]
            exact Nat.mul_le_mul_right _ hg
          have c1:=run_storeCells_at Tryz.prog p.b (0 + n * (z + 1)) t' news' 0 cc w q1 (by omega) hnews.oneCells
          have c1':(storeCells ⟨p.b,0 + n * (z + 1),none⟩ news').run Tryz.prog w = .ok () _:=c1
          rw [c1'] at g
          have hle:σ.Le (σ.add s.next p):=Sg.le_add (hs.new _ (Nat.le_refl _))
          refine ⟨_,_,σ.add s.next p,g,hs.again (q:=p) h4 k1 rfl ⟨rfl,rfl,rfl,by simp,fun k hk hne=>setRow_other w p.b k _ hne⟩ ?_,?_⟩
          · rw [setRow_heap w p.b cc _ t' (0,0) q1]
            have he:cc.toList.take (0 + n * (z + 1) + 0) ++ news' ++ cc.toList.drop (0 + n * (z + 1) + 0 + news'.length)=over cc.toList (n * (z + 1)) news':=by simp [over]
            rw [he]
            have hov:(over cc.toList (n * (z + 1)) news').length=cc.size:=by rw [over_length (by simpa using hfit)];simp
            have hA:(cc.toList.take (n * (z + 1)) ++ news').length=(n + n') * (z + 1):=by
              rw [List.length_append,List.length_take,hnl,Nat.add_mul,Nat.min_eq_left (by simp;omega)]
            have ht2:(over cc.toList (n * (z + 1)) news').take ((n + n') * (z + 1))=cc.toList.take (n * (z + 1)) ++ news':=by
              unfold over
              rw [← hA];simp only [List.take_left]
            have hfin:L2 (V1 (σ.add s.next p)) ((vs.drop 0).take (n * (z + 1)) ++ news) ((over cc.toList (n * (z + 1)) news').take ((vs.drop 0).take (n * (z + 1)) ++ news).length):=by
              rw [hll hol,ht2]
              refine L2.mono (fun _ _=>V1.mono hle) (L2.append ?_ hnews)
              have h8:=q6.take (n * (z + 1))
              have h5':n * (z + 1)≤vs.length:=by simpa using h5
              rw [List.take_take,Nat.min_eq_left h5'] at h8
              simpa using h8
            refine .cells (by simp only [List.size_toArray];rw [hov];exact q2) (by rw [kz,hse]) q4 (Nat.le_trans (Nat.le_of_eq (hll hol)) ?_) hfin
            simp only [List.size_toArray]
            rw [hov,Nat.add_mul,← hnl]
            exact hfit
          · exact .va (.one (.sl (Sg.add_at _ _ _) hg k3 (.inr ⟨rfl,p,0,Sg.add_at _ _ _,by simp,by omega⟩)))
theorem append_some {ts:List TypeId} {l:List Value} (h:(headT2 ts fun t u=>head2 l fun x y=>appendK t u x y s k)=some r):∃ v s',k v s'=some r∧BEff .append ts s l v s':=by
  obtain ⟨t,u,ts',rfl,h1⟩:=headT2_some h
  obtain ⟨x,y,m,rfl,h2⟩:=head2_some h1
  obtain ⟨h0,h3⟩:=sortK_some (t:=t) (c:=5) h2
  have hu:=(elem_of h0).1
  obtain ⟨z,i,d,q1,q2,q3,h4⟩:=sizeK_some (t:=elemT t) h3
  cases y with
  | int j n0=>
    obtain ⟨h5,h6⟩:=sortK_some (t:=u) (c:=2) h4
    obtain ⟨q,huu⟩:=sort_ok h5 (by omega)
    have huu:Tryz.prog.underlying u=some (.int q):=huu
    cases n0 with
    | negSucc n=>cases h6
    | ofNat n=>
      obtain ⟨hn,h7⟩:=bif_some h6
      have hn:n≤100000:=Nat.le_of_ble_eq_true hn
      obtain ⟨zs,i2,d2,zv,q4,q5,q6,q7,q8,h8⟩:=zerosK_some (e:=elemT t) h7
      obtain ⟨rfl,rfl⟩:=q1.same q4
      obtain ⟨v,s',g1,g2⟩:=appendS_some (z0:=0) h8 (by rw [reps_length,q7,q2])
      refine ⟨v,s',g1,fun σ w l' ty cs hs hl=>?_⟩
      cases hl with | cons a1 a2=>cases a2 with | cons a2 a3=>
      rw [a2.int]
      have hzs:zv.cells.size=z + 1:=by rw [← q2,← q7,← q6];simp
      obtain ⟨v',w',σ',e1,e2,e3⟩:=g2 σ w ts' t u ty i zv _ (.int j (Int.ofNat n)) _ (List.replicate n zs).flatten hu q1.info q5 hzs q1.bytes q2 q3 hs a1 ((q8 σ).reps n) (.zeros hn huu (by
        apply Array.ext'
        rw [← q6,← made_cells]
        rfl))
      exact ⟨v',w',σ',by simp only [builtin,Sem.run_bind];rw [e1];rfl,e2,e3⟩
  | slice p n c=>
    obtain ⟨h5,h6⟩:=sortK_some (t:=u) (c:=5) h4
    have huu:=(elem_of h5).1
    obtain ⟨cs,h7,hcl,h8⟩:=firstK_some h6
    obtain ⟨zz,hzz,hzs0⟩:∃ zv,i.zero=some zv∧zv.cells.size=z + 1:=by
      rcases q1.zval with h | ⟨zv,h9,h10⟩
      · omega
      · exact ⟨zv,h9,by omega⟩
    obtain ⟨v,s',g1,g2⟩:=appendS_some (z0:=0) h7 hcl
    refine ⟨v,s',g1,fun σ w l' ty bs hs hl=>?_⟩
    cases hl with | cons a1 a2=>cases a2 with | cons a2 a3=>
    obtain ⟨l2,e1,_,e3,e4⟩:=h8 σ w _ hs.o a2
    have e5:=a2.slice
    obtain ⟨p',c',rfl⟩:=e5
    obtain ⟨v',w',σ',f1,f2,f3⟩:=g2 σ w ts' t u ty i zz _ _ _ l2 hu q1.info hzz hzs0 q1.bytes q2 q3 hs a1 e1 (.row huu e4)
    exact ⟨v',w',σ',by simp only [builtin,Sem.run_bind];rw [f1];rfl,f2,f3⟩
  | _=>cases h4
end
end Go.Proofs.YtnpdcjdmbkcpbaaGreat.Ev
namespace Go.Proofs.YtnpdcjdmbkcpbaaGreat.Ev
open Go
def Sound (cf:CallF):Prop:=
  ∀ (g:FuncId) (xs:List Value) (s:St) (v:Value) (s':St),cf g xs s=some (v,s')→∀ (σ:Sg) (w:World) (xs':List Value),Sim σ s w→L2 (VT σ) xs xs' →
    (∃ fn,Tryz.prog.funcs[g]?=some fn∧(fn.name == "runtime.NumGoroutine")=false∧fn.body.isNone=false) ∧
    Calls Tryz.prog g ⟨xs'⟩ w fun e w'=>∃ v' σ',e = .returned v'∧Goes σ s w σ' s' w'∧VT σ' v v'
inductive Kd where
  | pure | read | flo | eff
noncomputable def kindOp:Op→Kd
  | .store .. | .mapUpdate ..=>.eff
  | .alloc _ | .box .. | .buildSlice .. | .makeSlice .. | .makeMap ..=>.flo
  | .load .. | .lookup .. | .slice ..=>.read
  | .call c=>match c.callee with
    | .builtin .len=>@Bool.rec (fun _=>Kd) .pure .read (Nat.beq (sortT (c.argTypes.toList.headD 0)) 7)
    | .builtin .cap=>.pure
    | .builtin .min=>.pure
    | .builtin .max=>.pure
    | _=>.eff
  | _=>.pure
def OpOut (kd:Kd) (op:Op) (tm:Tm) (s:St) (v:Value) (s':St):Prop:=
  match kd with
  | .pure=>s'=s∧PureR op tm v
  | .read=>s'=s∧ReadR op tm s v
  | .flo=>∃ x,s'=s.add x∧FloR op tm v s.next x
  | .eff=>EffR op tm s v s'
theorem OpOut.eff {kd:Kd} {op:Op} {tm:Tm} {s s':St} {v:Value} (h:OpOut kd op tm s v s'):EffR op tm s v s':=by
  cases kd with
  | pure=>obtain ⟨rfl,h⟩:=h;exact (h.read _).eff
  | read=>obtain ⟨rfl,h⟩:=h;exact h.eff
  | flo=>obtain ⟨x,rfl,h⟩:=h;exact h.eff
  | eff=>exact h
theorem L2.of_at {σ:Sg}:∀ {l l':List Value},l.length=l'.length→(∀ (j:Nat) (v v':Value),l[j]?=some v→l'[j]?=some v'→V1 σ v v')→L2 (VT σ) l l'
  | [],[],_,_=>.nil
  | x :: l,y :: l',h,k=>.cons (.va (.one (k 0 x y rfl rfl))) (L2.of_at (by simpa using h) fun j u u' hu hu'=>k (j + 1) u u' (by simpa using hu) (by simpa using hu'))
  | [],_ :: _,h,_=>by simp at h
  | _ :: _,[],h,_=>by simp at h
section
variable {cf:CallF} {tm:Tm} {s:St} {k:Value→St→R} {r:Tm × St}
theorem call_ops {c:Call} {σ:Sg} {a:Act} (ht:OpsR σ tm a (.call c)):(∀ x∈c.args.toList,TmAt σ tm a x)∧∀ f,c.callee = .value f→TmAt σ tm a f:=
  ⟨fun x hx=>ht x (by simp only [Op.operands,Call.operands,Array.mem_append];exact .inr (Array.mem_toList_iff.1 hx)),fun f hf=>ht f (by simp only [Op.operands,Call.operands,Array.mem_append,hf];exact .inl (by simp))⟩
theorem run_builtin {c:Call} {b:Builtin} {a:Act} {o:Oper} (ho:o.op = .call c) (hc:c.callee = .builtin b) (w:World) :
    (execOp a.eval o).run Tryz.prog w=(builtin b ⟨c.argTypes.toList⟩ o.type (c.args.map fun | .const _=>true | _=>false) ⟨c.args.toList.map a.eval⟩).run Tryz.prog w:=by
  have e:c.args.map a.eval=⟨c.args.toList.map a.eval⟩:=by apply Array.ext';simp
  simp only [execOp,ho,resolve,hc,Sem.run_bind,Sem.run_pure,Result.andThen_ok,invoke,e]
  rfl
theorem bread_out {need:Prop} {c:Call} {b:Builtin} {vs:List Value} {v:Value} (hc:c.callee = .builtin b) (h2:∀ σ a,(∀ x∈c.args.toList,TmAt σ tm a x)→L2 (VT σ) vs (c.args.toList.map a.eval)) (h:BRead need b c.argTypes.toList s vs v) :
    ∀ (σ:Sg) (w:World) (a:Act) (o:Oper),o.op = .call c→(need→SimO σ s w)→OpsR σ tm a (.call c)→∃ v',(execOp a.eval o).run Tryz.prog w = .ok (.value v') w∧VT σ v v':=fun σ w a o ho hs ht=>by
  obtain ⟨v',h3,h4⟩:=h σ w _ o.type (c.args.map fun | .const _=>true | _=>false) hs (h2 σ a (call_ops ht).1)
  exact ⟨v',by rw [run_builtin ho hc];exact h3,h4⟩
theorem beff_out {c:Call} {b:Builtin} {vs:List Value} {v:Value} {s':St} (hc:c.callee = .builtin b) (h2:∀ σ a,(∀ x∈c.args.toList,TmAt σ tm a x)→L2 (VT σ) vs (c.args.toList.map a.eval)) (h:BEff b c.argTypes.toList s vs v s'):EffR (.call c) tm s v s':=
  .of fun σ w a o ho hs ht=>by
    obtain ⟨v',w',σ',h3,h4,h5⟩:=h σ w _ o.type (c.args.map fun | .const _=>true | _=>false) hs (h2 σ a (call_ops ht).1)
    exact ⟨_,v',w',σ',by rw [run_builtin ho hc];exact h3,.inl rfl,h4,h5⟩
theorem call_some {c:Call} (hcf:Sound cf) (h:callK c cf tm s k=some r):∃ v s',k v s'=some r∧OpOut (kindOp (.call c)) (.call c) tm s v s':=by
  unfold callK at h
  cases hc:c.callee with
  | invoke x n=>rw [hc] at h;cases h
  | value f=>
    rw [hc] at h
    obtain ⟨fv,h1,h2⟩:=evK_some (x:=f) (tm:=tm) h
    obtain ⟨g,caps,rfl,h3⟩:=funK_some h1
    rw [listK_eq] at h3
    obtain ⟨xs,h4,h5⟩:=evLK_some h3
    rw [appK_eq] at h4
    cases hg:cf g (xs ++ caps) s with
    | none=>rw [hg] at h4;cases h4
    | some p=>
      obtain ⟨v,s'⟩:=p
      rw [hg] at h4
      refine ⟨v,s',h4,?_⟩
      have hk:kindOp (.call c) = .eff:=by simp only [kindOp,hc]
      rw [hk]
      intro σ w a o K Q ho hs ht hK
      obtain ⟨t1,t2⟩:=call_ops ht
      obtain ⟨caps',e1,e2,e3⟩:=(h2 σ a (t2 f hc)).fn
      have hcaps:L2 (VT σ) caps caps':=L2.of_at e2 e3
      obtain ⟨⟨fn,f1,f2,f3⟩,hcalls⟩:=hcf g _ s v s' hg σ w _ hs ((h5 σ a t1).append hcaps)
      have e:c.args.map a.eval=⟨c.args.toList.map a.eval⟩:=by apply Array.ext';simp
      have hrun:(execOp a.eval o).run Tryz.prog w = .ok (.enter g ⟨c.args.toList.map a.eval ++ caps'⟩) w:=by
        have f2':¬ (fn.name = "runtime.NumGoroutine"):=by simpa using f2
        have f3':¬ (fn.body=none):=fun h=>by rw [h] at f3;cases f3
        simp [execOp,ho,resolve,hc,e1,Deferred.ofValue,invoke,callFunc,f1,f2',f3',e]
      unfold Oper.wp
      rw [hrun]
      refine Calls.mono hcalls fun en w' he=>?_
      obtain ⟨v',σ',rfl,g1,g2⟩:=he
      exact hK v' w' σ' g1 g2
  | builtin b=>
    rw [hc] at h
    have h':listK c.args (fun l=>evLK l tm fun l=>listK c.argTypes fun ts=>builtinK b ts l s k)=some r:=h
    rw [listK_eq] at h'
    obtain ⟨vs,h1,h2⟩:=evLK_some h'
    rw [listK_eq] at h1
    cases b <;> try (cases h1;done)
    case append=>
      obtain ⟨v,s',h3,h4⟩:=append_some h1
      exact ⟨v, s', h3, by have hk:kindOp (.call c) = .eff:=by simp only [kindOp,hc]
                           rw [hk];exact beff_out hc h2 h4⟩
    case clear=>
      obtain ⟨v,s',h3,h4⟩:=clear_some h1
      exact ⟨v, s', h3, by have hk:kindOp (.call c) = .eff:=by simp only [kindOp,hc]
                           rw [hk];exact beff_out hc h2 h4⟩
    case copy=>
      obtain ⟨v,s',h3,h4⟩:=copy_some h1
      exact ⟨v, s', h3, by have hk:kindOp (.call c) = .eff:=by simp only [kindOp,hc]
                           rw [hk];exact beff_out hc h2 h4⟩
    case delete=>
      obtain ⟨v,s',h3,h4⟩:=delete_some h1
      exact ⟨v, s', h3, by have hk:kindOp (.call c) = .eff:=by simp only [kindOp,hc]
                           rw [hk];exact beff_out hc h2 h4⟩
    case cap=>
      obtain ⟨v,h3,h4⟩:=cap_some h1
      have h5:=bread_out hc h2 h4
      exact ⟨v, s, h3, by have hk:kindOp (.call c) = .pure:=by simp only [kindOp,hc]
                          rw [hk];exact ⟨rfl,fun σ w a o ho ht=>h5 σ w a o ho (fun h=>h.elim) ht⟩⟩
    case min=>
      obtain ⟨v,h3,h4⟩:=min_some (up:=false) (ts:=c.argTypes.toList) h1
      have h5:=bread_out hc h2 h4
      exact ⟨v, s, h3, by have hk:kindOp (.call c) = .pure:=by simp only [kindOp,hc]
                          rw [hk];exact ⟨rfl,fun σ w a o ho ht=>h5 σ w a o ho (fun h=>h.elim) ht⟩⟩
    case max=>
      obtain ⟨v,h3,h4⟩:=min_some (up:=true) (ts:=c.argTypes.toList) h1
      have h5:=bread_out hc h2 h4
      exact ⟨v, s, h3, by have hk:kindOp (.call c) = .pure:=by simp only [kindOp,hc]
                          rw [hk];exact ⟨rfl,fun σ w a o ho ht=>h5 σ w a o ho (fun h=>h.elim) ht⟩⟩
    case len=>
      obtain ⟨v,h3,h4⟩:=len_some h1
      have h5:=bread_out hc h2 h4
      refine ⟨v,s,h3,?_⟩
      have hk:kindOp (.call c) = @Bool.rec (fun _=>Kd) .pure .read (Nat.beq (sortT (c.argTypes.toList.headD 0)) 7):=by simp only [kindOp,hc]
      rw [hk]
      cases hb:Nat.beq (sortT (c.argTypes.toList.headD 0)) 7 with
      | true=>exact ⟨rfl,fun σ w a o ho hs ht=>h5 σ w a o ho (fun _=>hs) ht⟩
      | false=>exact ⟨rfl,fun σ w a o ho ht=>h5 σ w a o ho (fun h=>by rw [h] at hb;cases hb) ht⟩
theorem disp_some {op:Op} (hcf:Sound cf) (h:disp op cf tm s k=some r):∃ v s',k v s'=some r∧OpOut (kindOp op) op tm s v s':=by
  cases op <;> try (cases h;done)
  case move x=>obtain ⟨v,h1,h2,_⟩:=move_some (cf:=cf) h;exact ⟨v,s,h1,rfl,h2⟩
  case assign x=>obtain ⟨v,h1,_,h2⟩:=move_some (cf:=cf) h;exact ⟨v,s,h1,rfl,h2⟩
  case pick=>obtain ⟨v,h1,h2⟩:=pick_some (cf:=cf) h;exact ⟨v,s,h1,rfl,h2⟩
  case alloc=>obtain ⟨v,x,h1,h2⟩:=alloc_some (cf:=cf) h;exact ⟨v,_,h1,x,rfl,h2⟩
  case box=>obtain ⟨v,x,h1,h2⟩:=box_some (cf:=cf) h;exact ⟨v,_,h1,x,rfl,h2⟩
  case build=>obtain ⟨v,h1,h2⟩:=build_some (cf:=cf) h;exact ⟨v,s,h1,rfl,h2⟩
  case buildSlice=>obtain ⟨v,x,h1,h2⟩:=buildSlice_some (cf:=cf) h;exact ⟨v,_,h1,x,rfl,h2⟩
  case load=>obtain ⟨v,h1,h2⟩:=load_some (cf:=cf) h;exact ⟨v,s,h1,rfl,h2⟩
  case store=>obtain ⟨v,s',h1,h2⟩:=store_some (cf:=cf) h;exact ⟨v,s',h1,h2⟩
  case nilCheck=>obtain ⟨v,h1,h2⟩:=nilCheck_some (cf:=cf) h;exact ⟨v,s,h1,rfl,h2⟩
  case binOp=>obtain ⟨v,h1,h2⟩:=binOp_some (cf:=cf) h;exact ⟨v,s,h1,rfl,h2⟩
  case unOp=>obtain ⟨v,h1,h2⟩:=unOp_some (cf:=cf) h;exact ⟨v,s,h1,rfl,h2⟩
  case convert=>obtain ⟨v,h1,h2⟩:=convert_some (cf:=cf) h;exact ⟨v,s,h1,rfl,h2⟩
  case makeFunc=>obtain ⟨v,h1,h2⟩:=makeFunc_some (cf:=cf) h;exact ⟨v,s,h1,rfl,h2⟩
  case makeMap=>obtain ⟨v,x,h1,h2⟩:=makeMap_some (cf:=cf) h;exact ⟨v,_,h1,x,rfl,h2⟩
  case makeSlice=>obtain ⟨v,x,h1,h2⟩:=makeSlice_some (cf:=cf) h;exact ⟨v,_,h1,x,rfl,h2⟩
  case slice=>obtain ⟨v,h1,h2⟩:=slice_some (cf:=cf) h;exact ⟨v,s,h1,rfl,h2⟩
  case fieldAddr=>obtain ⟨v,h1,h2⟩:=fieldAddr_some (cf:=cf) h;exact ⟨v,s,h1,rfl,h2⟩
  case indexAddr=>obtain ⟨v,h1,h2⟩:=indexAddr_some (cf:=cf) h;exact ⟨v,s,h1,rfl,h2⟩
  case index=>obtain ⟨v,h1,h2⟩:=index_some (cf:=cf) h;exact ⟨v,s,h1,rfl,h2⟩
  case lookup=>obtain ⟨v,h1,h2⟩:=lookup_some (cf:=cf) h;exact ⟨v,s,h1,rfl,h2⟩
  case mapUpdate=>obtain ⟨v,s',h1,h2⟩:=mapUpdate_some (cf:=cf) h;exact ⟨v,s',h1,h2⟩
  case extract=>obtain ⟨v,h1,h2⟩:=extract_some (cf:=cf) h;exact ⟨v,s,h1,rfl,h2⟩
  case call c=>exact call_some hcf h
end
end Go.Proofs.YtnpdcjdmbkcpbaaGreat.Ev
