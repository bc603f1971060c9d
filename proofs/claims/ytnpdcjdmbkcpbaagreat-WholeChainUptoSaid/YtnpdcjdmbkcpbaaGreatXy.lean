/- The evaluator's regions in the text's order. The evaluator's regions that draw: what is checked of them, and what an item of their order says. The evaluator's regions that draw: facts of the items. The evaluator's regions that draw: any order of a run. The evaluator's regions that draw: they do what the evaluator does. No condition. -/
import Derived.Test.YtnpdcjdmbkcpbaaGreatXx
import Derived.Orders
set_option linter.unusedVariables false
set_option linter.unusedSimpArgs false
namespace Go.Proofs.YtnpdcjdmbkcpbaaGreat.Ev
open Go
theorem lookup_cons (d:Nat) (v:Value) (tm:Tm) (k:Nat):List.lookup k ((d,v) :: tm)=if k=d then some v else tm.lookup k:=by
  rw [List.lookup]
  by_cases e:k=d
  · subst e;simp
  · have:(k == d)=false:=by simpa using e
    rw [this,if_neg e]
theorem TmR.put {σ:Sg} {tm:Tm} {a:Act} {v v':Value} (h:TmR σ tm a) (hv:VT σ v v') {dst:Option Tmp} (hd:∀ d,dst=some d→d < a.tmps.size):TmR σ (putK tm dst v) (a.put dst v'):=by
  cases dst with
  | none=>exact h
  | some d=>
    have hlt:=hd d rfl
    intro k u hk
    have hk':List.lookup k ((d,v) :: tm)=some u:=hk
    rw [lookup_cons] at hk'
    show ∃ v'_1,(a.tmps.setIfInBounds d v')[k]?=some v'_1∧VT σ u v'_1
    by_cases e:k=d
    · subst e
      rw [if_pos rfl] at hk';cases hk'
      exact ⟨v',by simp [hlt],hv⟩
    · rw [if_neg e] at hk'
      rw [Array.getElem?_setIfInBounds_ne (Ne.symm e)]
      exact h k u hk'
theorem put_size (a:Act) (dst:Option Tmp) (v:Value):(a.put dst v).tmps.size=a.tmps.size:=by cases dst <;> simp [Act.put]
theorem put_defers (a:Act) (dst:Option Tmp) (v:Value):(a.put dst v).defers=a.defers:=by cases dst <;> rfl
def GAt (σ:Sg) (tm:Tm) (a:Act) (ops:Array Oper) (o:Oper):Prop:=
  ∀ g w og d,o.guard=some (g,w)→ops[g]?=some og→og.dst=some d→TmAt σ tm a (.tmp d)
theorem TmR.gat {σ:Sg} {tm:Tm} {a:Act} (h:TmR σ tm a) (ops:Array Oper) (o:Oper):GAt σ tm a ops o:=fun _ _ _ _ _ _ _=>h.at _
theorem wantK_some {ops:Array Oper} {tm:Tm} {j:Nat} {w:Bool} {yes no:R} {r:Tm × St} (h:wantK ops.toList tm j w yes no=some r) :
    ∃ o d v,ops[j]?=some o∧o.dst=some d∧tm.lookup d=some v∧((v = .bool w∧yes=some r)∨(v≠.bool w∧no=some r)):=by
  obtain ⟨o,h1,h2⟩:=nthK_some (l:=ops.toList) (n:=j) h
  cases hd:o.dst with
  | none=>rw [hd] at h2;cases h2
  | some d=>
    rw [hd] at h2
    obtain ⟨v,h3,h4,h5⟩:=atK_some (l:=tm) h2
    refine ⟨o,d,v,by rw [← Array.getElem?_toList];exact h1,hd,h4,?_⟩
    cases v with
    | bool b=>
      cases b <;> cases w <;> first | exact .inl ⟨rfl,h5⟩ | exact .inr ⟨by simp,h5⟩
    | _=>exact .inr ⟨by simp,h5⟩
theorem VT.notBool {σ:Sg} {v v':Value} {b:Bool} (h:VT σ v v') (hv:v≠.bool b):v'≠.bool b:=by
  intro e
  subst e
  cases h with
  | va h=>cases h with
    | one h=>cases h;exact hv rfl
theorem wanted_guard {σ:Sg} {tm:Tm} {a:Act} {ops:Array Oper} {o og:Oper} {g d:Nat} {w:Bool} {v:Value} (hg:o.guard=some (g,w)) (h1:ops[g]?=some og) (h2:og.dst=some d) (h3:tm.lookup d=some v) (ha:GAt σ tm a ops o) :
    (v = .bool w→Region.wanted o (yielded ops a.tmps)=true)∧(v≠.bool w→Region.wanted o (yielded ops a.tmps)=false):=by
  obtain ⟨v',h4,h5⟩:=ha g w og d hg h1 h2 d rfl v h3
  refine ⟨fun e=>?_,fun e=>?_⟩
  · subst e
    rw [h5.bool] at h4
    simp [Region.wanted,hg,yielded,h1,h2,h4]
  · have h6:=h5.notBool e
    have h7:yielded ops a.tmps g≠some w:=by
      simp only [yielded,h1,h2,Option.bind_some,h4]
      intro h8
      cases v' <;> simp at h8
      subst h8
      exact h6 rfl
    simp [Region.wanted,hg,h7]
theorem guard_some {ops:Array Oper} {tm:Tm} {o:Oper} {yes no:R} {r:Tm × St} (h : @Option.casesOn (Nat × Bool) (fun _=>R) o.guard yes (fun g=>wantK ops.toList tm g.1 g.2 yes no)=some r) :
    (yes=some r∧∀ σ a,GAt σ tm a ops o→Region.wanted o (yielded ops a.tmps)=true)∨(no=some r∧∀ σ a,GAt σ tm a ops o→Region.wanted o (yielded ops a.tmps)=false):=by
  cases hg:o.guard with
  | none=>
    rw [hg] at h
    exact .inl ⟨h,fun σ a _=>by simp [Region.wanted,hg]⟩
  | some g=>
    rw [hg] at h
    obtain ⟨j,w⟩:=g
    obtain ⟨og,d,v,h1,h2,h3,h4⟩:=wantK_some h
    rcases h4 with ⟨rfl,h5⟩ | ⟨h4,h5⟩
    · exact .inl ⟨h5,fun σ a ha=>(wanted_guard hg h1 h2 h3 ha).1 rfl⟩
    · exact .inr ⟨h5,fun σ a ha=>(wanted_guard hg h1 h2 h3 ha).2 h4⟩
theorem VT.undef (σ:Sg):VT σ undef undef:=.tup .nil
theorem opsK_some {cf:CallF} (hcf:Sound cf) {ops:Array Oper} {nt:Nat} {Q:Exit→Act→World→Prop}:∀ {l pre:List Oper} {tm:Tm} {s:St} {tm':Tm} {s':St},ops.toList=pre ++ l→opsK cf ops.toList l tm s=some (tm',s') →
    (∀ o∈l,∀ d,o.dst=some d→d < nt)→∀ (σ:Sg) (w:World) (a:Act),Sim σ s w→TmR σ tm a→nt≤a.tmps.size →
      (∀ σ' w' a',Goes σ s w σ' s' w'→TmR σ' tm' a'→nt≤a'.tmps.size→a'.defers=a.defers→Q .normal a' w')→wpOps Tryz.prog ops Q (List.range' pre.length l.length) a w
  | [],pre,tm,s,tm',s',hp,h,hd,σ,w,a,hs,ht,hn,hQ=>by
    cases h
    exact hQ σ w a (.refl hs) ht hn rfl
  | o :: l,pre,tm,s,tm',s',hp,h,hd,σ,w,a,hs,ht,hn,hQ=>by
    have ho:ops[pre.length]?=some o:=by rw [← Array.getElem?_toList,hp];simp
    rw [List.length_cons,List.range'_succ]
    simp only [wpOps,ho]
    have hp':ops.toList=(pre ++ [o]) ++ l:=by rw [hp];simp
    have hlen:(pre ++ [o]).length=pre.length + 1:=by simp
    have hd':∀ d,o.dst=some d→d < a.tmps.size:=fun d hdd=>Nat.lt_of_lt_of_le (hd o (by simp) d hdd) hn
    have h' : @Option.casesOn (Nat × Bool) (fun _=>R) o.guard (disp o.op cf tm s fun v s'=>opsK cf ops.toList l (putK tm o.dst v) s') (fun g=>wantK ops.toList tm g.1 g.2 (disp o.op cf tm s fun v s'=>opsK cf ops.toList l (putK tm o.dst v) s') (opsK cf ops.toList l (putK tm o.dst Go.undef) s))=some (tm',s'):=h
    rcases guard_some h' with ⟨h1,h2⟩ | ⟨h1,h2⟩
    · rw [if_pos (h2 σ a (ht.gat _ _))]
      obtain ⟨v,s1,h3,h4⟩:=disp_some (k:=fun v s'=>opsK cf ops.toList l (putK tm o.dst v) s') hcf h1
      refine .inl (h4.eff σ w a o _ Q rfl hs (ht.ops _) fun v' w' σ' g1 g2=>?_)
      have:=opsK_some hcf (Q:=Q) (nt:=nt) hp' h3 (fun o' ho'=>hd o' (by simp [ho'])) σ' w' (a.put o.dst v') g1.sim ((ht.mono (g1.le hs)).put g2 hd') (by rw [put_size];exact hn)
        (fun σ'' w'' a'' k1 k2 k3 k4=>hQ σ'' w'' a'' (g1.trans k1) k2 k3 (by rw [k4,put_defers]))
      rwa [hlen] at this
    · rw [if_neg (by rw [h2 σ a (ht.gat _ _)];simp)]
      have:=opsK_some hcf (Q:=Q) (nt:=nt) hp' h1 (fun o' ho'=>hd o' (by simp [ho'])) σ w (a.put o.dst Go.undef) hs (ht.put (VT.undef σ) hd') (by rw [put_size];exact hn)
        (fun σ'' w'' a'' k1 k2 k3 k4=>hQ σ'' w'' a'' k1 k2 k3 (by rw [k4,put_defers]))
      rwa [hlen] at this
theorem region_text {cf:CallF} (hcf:Sound cf) {id:Nat} {ops:Array Oper} {nt:Nat} {Q:Exit→Act→World→Prop} {tm:Tm} {s:St} {tm':Tm} {s':St} (h:opsK cf ops.toList ops.toList tm s=some (tm',s'))
    (hd:∀ o∈ops.toList,∀ d,o.dst=some d→d < nt) (σ:Sg) (w:World) (a:Act) (hs:Sim σ s w) (ht:TmR σ tm a) (hn:nt≤a.tmps.size)
    (hQ:∀ σ' w' a',Goes σ s w σ' s' w'→TmR σ' tm' a'→nt≤a'.tmps.size→a'.defers=a.defers→Q .normal a' w'):(Code.region id ops false).wp Tryz.prog Q a w:=by
  refine wp_region ?_
  have:=opsK_some hcf (Q:=Q) (pre:=[]) (by simp) h hd σ w a hs ht hn hQ
  simpa [List.range_eq_range'] using this
end Go.Proofs.YtnpdcjdmbkcpbaaGreat.Ev
namespace Go.Proofs.YtnpdcjdmbkcpbaaGreat.Ev
open Go
noncomputable def uM (R:List Nat):List Edge→Nat
  | []=>0
  | e :: es=>@Bool.rec (fun _=>Nat) (uM R es) (Nat.lor (Nat.lor (Nat.pow 2 e.on) (R.getD e.on 0)) (uM R es)) (Region.binds .any e)
noncomputable def masksGo (R:List Nat):List Oper→List Nat
  | []=>R
  | o :: l=>masksGo (R ++ [uM R o.after.toList]) l
theorem uM_bit {R:List Nat} {j:Nat}:∀ {es:List Edge},(uM R es).testBit j=true→∃ e∈es,Region.binds .any e=true∧(j=e.on∨(R.getD e.on 0).testBit j=true)
  | [],h=>by simp [uM] at h
  | e :: es,h=>by
    cases hb:Region.binds .any e with
    | false=>
      have h':(uM R es).testBit j=true:=by simpa [uM,hb] using h
      obtain ⟨e',h1,h2⟩:=uM_bit h'
      exact ⟨e',by simp [h1],h2⟩
    | true=>
      have h':(2 ^ e.on ||| R.getD e.on 0 ||| uM R es).testBit j=true:=by
        have h0:(@Bool.rec (fun _=>Nat) (uM R es) (Nat.lor (Nat.lor (Nat.pow 2 e.on) (R.getD e.on 0)) (uM R es)) (Region.binds .any e)).testBit j=true:=h
        rw [hb] at h0;exact h0
      rw [Nat.testBit_or,Nat.testBit_or,Nat.testBit_two_pow,Bool.or_eq_true,Bool.or_eq_true,decide_eq_true_eq] at h'
      rcases h' with (h1 | h1) | h1
      · exact ⟨e,by simp,hb,.inl h1.symm⟩
      · exact ⟨e,by simp,hb,.inr h1⟩
      · obtain ⟨e',h2,h3⟩:=uM_bit h1
        exact ⟨e',by simp [h2],h3⟩
noncomputable def depC (ops:Array Oper) (R:List Nat) (i:Nat):Bool:=match ops[i]? with
  | none=>false
  | some o=>(o.after.toList.all fun e=>!Region.binds .any e || Nat.blt e.on i) && Nat.beq (Nat.lor (R.getD i 0) (uM R o.after.toList)) (uM R o.after.toList) &&
    (o.looksAt ops).all fun t=>(List.range ops.size).all fun j=>match ops[j]? with | none=>true | some oj=>!(oj.dst == some t) || (R.getD i 0).testBit j || (R.getD j 0).testBit i
def clsC (ops:Array Oper) (R:List Nat) (i t:Nat):Bool:=(List.range ops.size).any fun j=>match ops[j]? with | none=>false | some oj=>oj.dst == some t && !((R.getD i 0).testBit j)
noncomputable def mayC (ops:Array Oper) (R:List Nat) (effM done D seg ever:Nat) (x:Option Nat) (j:Nat):Bool:=
  @Bool.rec (fun _=>Bool) true (match ops[j]? with | none=>true | some o=>match kindOp o.op with | .eff=>done.testBit j || x == some j | .read=>seg.testBit j | _=>ever.testBit j)
    (Nat.beq (Nat.lor (Nat.land (R.getD j 0) effM) done) done && !(D.testBit j))
noncomputable def goD (ops:Array Oper) (R:List Nat) (effM:Nat):List Nat→Nat→Nat→Nat→Nat→Nat→Bool
  | [],done,D,seg,ever,pend=>(List.range ops.size).all (mayC ops R effM done D seg ever none)
  | c :: ns,done,D,seg,ever,pend=>match ops[Nat.shiftRight c 1]? with
    | none=>false
    | some o=>((o.looksAt ops).all fun t=>pend.testBit t == clsC ops R (Nat.shiftRight c 1) t) && @Bool.rec (fun _=>Bool)
        ((match kindOp o.op with | .read=>true | _=>false) && ever.testBit (Nat.shiftRight c 1) && (match o.dst with | none=>true | some d=>!(pend.testBit d)) && goD ops R effM ns done D (Nat.lor seg (Nat.pow 2 (Nat.shiftRight c 1))) ever pend)
        ((match o.dst with | none=>true | some d=>pend.testBit d) && !(ever.testBit (Nat.shiftRight c 1)) && match kindOp o.op with
          | .eff=>(List.range ops.size).all (mayC ops R effM done D seg ever (some (Nat.shiftRight c 1))) && goD ops R effM ns (Nat.lor done (Nat.pow 2 (Nat.shiftRight c 1))) (Nat.lor D (R.getD (Nat.shiftRight c 1) 0)) 0 (Nat.lor ever (Nat.pow 2 (Nat.shiftRight c 1))) (match o.dst with | none=>pend | some d=>Nat.xor pend (Nat.pow 2 d))
          | _=>goD ops R effM ns done D (Nat.lor seg (Nat.pow 2 (Nat.shiftRight c 1))) (Nat.lor ever (Nat.pow 2 (Nat.shiftRight c 1))) (match o.dst with | none=>pend | some d=>Nat.xor pend (Nat.pow 2 d)))
        (Nat.beq (Nat.land c 1) 0)
theorem eqA_ok {a b:Addr} (h:eqA a b=true):a=b:=by
  obtain ⟨x,y,sp⟩:=a
  obtain ⟨x',y',sp'⟩:=b
  cases sp <;> cases sp' <;> simp [eqA] at h
  obtain ⟨h1,h2⟩:=h
  rw [h1,h2]
theorem eqV1_ok {u v:Value} (h:eqV1 u v=true):u=v:=by
  unfold eqV1 at h
  split at h
  all_goals first
    | (simp only [Bool.and_eq_true,beq_iff_eq] at h;obtain ⟨h1,rfl⟩:=h;rw [kn_inj h1];done)
    | (simp only [beq_iff_eq] at h;rw [h];done)
    | rfl
    | (rw [eqA_ok h];done)
    | (simp only [Bool.and_eq_true] at h;rw [Nat.eq_of_beq_eq_true h.1,Nat.eq_of_beq_eq_true h.2];done)
    | (simp only [Bool.and_eq_true] at h;rw [eqA_ok h.1.1,Nat.eq_of_beq_eq_true h.1.2,Nat.eq_of_beq_eq_true h.2];done)
    | (rw [Nat.eq_of_beq_eq_true h];done)
    | (cases h;done)
theorem eqVL_ok:∀ {l m:List Value},eqVL l m=true→l=m
  | [],[],_=>rfl
  | u :: l,v :: m,h=>by
    simp only [eqVL,Bool.and_eq_true] at h
    rw [eqV1_ok h.1,eqVL_ok h.2]
  | [],_ :: _,h=>by simp [eqVL] at h
  | _ :: _,[],h=>by simp [eqVL] at h
theorem eqV_ok {u v:Value} (h:eqV u v=true):u=v:=by
  unfold eqV at h
  split at h
  · rw [eqVL_ok h]
  · rw [eqVL_ok h]
  · exact eqV1_ok h
noncomputable def effMask:List Oper→Nat→Nat
  | [],_=>0
  | o :: l,i=>match kindOp o.op with | .eff=>Nat.lor (Nat.pow 2 i) (effMask l (i + 1)) | _=>effMask l (i + 1)
noncomputable def pendAll:List Oper→Nat
  | []=>0
  | o :: l=>match o.dst with | none=>pendAll l | some d=>Nat.lor (Nat.pow 2 d) (pendAll l)
noncomputable def uniqC:List Oper→Bool
  | []=>true
  | o :: l=>(match o.dst with | none=>true | some d=>!((pendAll l).testBit d)) && uniqC l
noncomputable def drawC (ops:Array Oper) (ns:List Nat):Bool:=
  (List.range ops.size).all (depC ops (masksGo [] ops.toList)) && uniqC ops.toList && goD ops (masksGo [] ops.toList) (effMask ops.toList 0) ns 0 0 0 0 (pendAll ops.toList)
noncomputable def regC (f:FuncId) (nt id:Nat) (ops:Array Oper) (d:Bool):Bool:=
  (ops.toList.all fun o=>match o.dst with | none=>true | some d=>Nat.blt d nt) &&
  @Bool.rec (fun _=>Bool) true (match look schT f with | none=>true | some t=>match look t id with | none=>true | some ns=>drawC ops ns) d
noncomputable def codeC (f:FuncId) (nt:Nat):Code→Bool
  | .region id ops d=>regC f nt id ops d
  | .seq a b=>codeC f nt a && codeC f nt b
  | .cond _ a b=>codeC f nt a && codeC f nt b
  | .block _ b=>codeC f nt b
  | .loop b=>codeC f nt b
  | .scope b=>codeC f nt b
  | _=>true
noncomputable def funC (f:Nat):Bool:=match look fuT f with
  | none=>true
  | some fn=>match fn.body with | none=>true | some b=>codeC f fn.ntmps b
section
variable {P:Program} {ops:Array Oper} {R:List Nat} {effM:Nat} {cf:CallF} {r:Tm × St}
theorem step_even {c:Nat} {ih:Tm→St→Ev.R} {tm:Tm} {s:St} (hcf:Sound cf) (hc:Nat.beq (Nat.land c 1) 0=true) (h:stepK cf ops.toList c ih tm s=some r):∃ o,ops[Nat.shiftRight c 1]?=some o ∧
    ((∃ v s',ih (putK tm o.dst v) s'=some r∧OpOut (kindOp o.op) o.op tm s v s'∧∀ σ a,GAt σ tm a ops o→Region.wanted o (yielded ops a.tmps)=true) ∨
      (ih (putK tm o.dst undef) s=some r∧∀ σ a,GAt σ tm a ops o→Region.wanted o (yielded ops a.tmps)=false)):=by
  obtain ⟨o,h1,h2⟩:=nthK_some (l:=ops.toList) h
  rw [hc] at h2
  refine ⟨o,by rw [← Array.getElem?_toList];exact h1,?_⟩
  rcases guard_some h2 with ⟨h3,h4⟩ | ⟨h3,h4⟩
  · obtain ⟨v,s',h5,h6⟩:=disp_some (k:=fun v s'=>ih (putK tm o.dst v) s') hcf h3
    exact .inl ⟨v,s',h5,h6,h4⟩
  · exact .inr ⟨h3,h4⟩
theorem step_odd {c:Nat} {ih:Tm→St→Ev.R} {tm:Tm} {s:St} (hcf:Sound cf) (hc:Nat.beq (Nat.land c 1) 0=false) (h:stepK cf ops.toList c ih tm s=some r):∃ o d u,ops[Nat.shiftRight c 1]?=some o∧o.dst=some d∧tm.lookup d=some u∧ih tm s=some r ∧
    ((∃ s',OpOut (kindOp o.op) o.op tm s u s'∧∀ σ a,GAt σ tm a ops o→Region.wanted o (yielded ops a.tmps)=true) ∨
      (u=undef∧∀ σ a,GAt σ tm a ops o→Region.wanted o (yielded ops a.tmps)=false)):=by
  obtain ⟨o,h1,h2⟩:=nthK_some (l:=ops.toList) h
  rw [hc] at h2
  cases hd:o.dst with
  | none=>rw [hd] at h2;cases h2
  | some d=>
    rw [hd] at h2
    obtain ⟨u,h3,h4,h5⟩:=atK_some (l:=tm) h2
    rcases guard_some h5 with ⟨h6,h7⟩ | ⟨h6,h7⟩
    · obtain ⟨v,s',h8,h9⟩:=disp_some (k:=fun v _=>@Bool.rec (fun _=>Ev.R) none (ih tm s) (eqV u v)) hcf h6
      obtain ⟨h10,h11⟩:=bif_some h8
      have:=eqV_ok h10
      subst this
      exact ⟨o,d,u,by rw [← Array.getElem?_toList];exact h1,hd,h4,h11,.inl ⟨s',h9,h7⟩⟩
    · obtain ⟨h10,h11⟩:=bif_some h6
      exact ⟨o,d,u,by rw [← Array.getElem?_toList];exact h1,hd,h4,h11,.inr ⟨eqV_ok h10,h7⟩⟩
theorem draw_keep (hcf:Sound cf):∀ {ns:List Nat} {done D seg ever pend:Nat} {tm:Tm} {s:St},drawK cf ops.toList ns tm s=some r→goD ops R effM ns done D seg ever pend=true→∀ t,pend.testBit t=false→r.1.lookup t=tm.lookup t
  | [],done,D,seg,ever,pend,tm,s,h,hg,t,ht=>by cases h;rfl
  | c :: ns,done,D,seg,ever,pend,tm,s,h,hg,t,ht=>by
    have h':stepK cf ops.toList c (fun tm s=>drawK cf ops.toList ns tm s) tm s=some r:=h
    unfold goD at hg
    cases hc:Nat.beq (Nat.land c 1) 0 with
    | false=>
      obtain ⟨o,d,u,h1,h2,h3,h4,_⟩:=step_odd hcf hc h'
      rw [h1] at hg
      simp only [hc,Bool.and_eq_true] at hg
      exact draw_keep hcf h4 hg.2.2 t ht
    | true=>
      obtain ⟨o,h1,h2⟩:=step_even hcf hc h'
      rw [h1] at hg
      simp only [hc,Bool.and_eq_true] at hg
      obtain ⟨g1,⟨g2,g3⟩,g4⟩:=hg
      have key:∀ v s',drawK cf ops.toList ns (putK tm o.dst v) s'=some r→r.1.lookup t=tm.lookup t:=by
        intro v s' hd
        have hpend:∃ done' D' seg' ever',goD ops R effM ns done' D' seg' ever' (match o.dst with | none=>pend | some d=>Nat.xor pend (Nat.pow 2 d))=true:=by
          split at g4
          · simp only [Bool.and_eq_true] at g4
            exact ⟨_,_,_,_,g4.2⟩
          · exact ⟨_,_,_,_,g4⟩
        obtain ⟨_,_,_,_,g5⟩:=hpend
        cases hdst:o.dst with
        | none=>
          rw [hdst] at hd g5
          exact draw_keep hcf hd g5 t ht
        | some d=>
          rw [hdst] at hd g5 g2
          have htd:t≠d:=fun e=>by subst e;simp only at g2;rw [ht] at g2;cases g2
          have hp':(Nat.xor pend (Nat.pow 2 d)).testBit t=false:=by
            show (pend ^^^ 2 ^ d).testBit t=false
            rw [Nat.testBit_xor,ht,Nat.testBit_two_pow]
            simp;exact fun e=>htd e.symm
          rw [draw_keep hcf hd g5 t hp']
          show List.lookup t ((d,v) :: tm)=_
          rw [lookup_cons,if_neg htd]
      rcases h2 with ⟨v,s',h3,_⟩ | ⟨h3,_⟩
      · exact key v s' h3
      · exact key _ s h3
end
end Go.Proofs.YtnpdcjdmbkcpbaaGreat.Ev
namespace Go.Proofs.YtnpdcjdmbkcpbaaGreat.Ev
open Go
theorem TmAt.mono {σ τ:Sg} (h:σ.Le τ) {tm:Tm} {a:Act} {x:Operand} (k:TmAt σ tm a x):TmAt τ tm a x:=fun t ht v hv=>by
  obtain ⟨v',h1,h2⟩:=k t ht v hv
  exact ⟨v',h1,h2.mono h⟩
theorem TmAt.same {σ:Sg} {tm tm':Tm} {a:Act} {t:Nat} (h:tm'.lookup t=tm.lookup t) (k:TmAt σ tm a (.tmp t)):TmAt σ tm' a (.tmp t):=fun u hu v hv=>by
  cases hu
  rw [h] at hv
  exact k t rfl v hv
theorem TmAt.put {σ:Sg} {tm:Tm} {a:Act} {t:Nat} {dst:Option Tmp} {v:Value} (hd:dst≠some t) (k:TmAt σ tm a (.tmp t)):TmAt σ tm (a.put dst v) (.tmp t):=fun u hu v' hv=>by
  cases hu
  obtain ⟨x,h1,h2⟩:=k t rfl v' hv
  refine ⟨x,?_,h2⟩
  cases dst with
  | none=>exact h1
  | some d=>
    show (a.tmps.setIfInBounds d v)[t]?=_
    rw [Array.getElem?_setIfInBounds_ne (fun e=>hd (by rw [e]))]
    exact h1
section
variable (ops:Array Oper) (R:List Nat) (tm0 tmF:Tm) (Q:Exit→Act→World→Prop)
def LooksR (σ:Sg) (a:Act) (i:Nat) (o:Oper):Prop:=∀ t∈o.looksAt ops,TmAt σ (if clsC ops R i t then tm0 else tmF) a (.tmp t)
def DstV (o:Oper) (v:Value):Prop:=∀ d,o.dst=some d→tmF.lookup d=some v
def RFact (s:Option St) (i:Nat):Prop:=∃ o v,ops[i]?=some o∧DstV tmF o v∧∀ σ w a K,(∀ s1,s=some s1→SimO σ s1 w)→LooksR ops R tm0 tmF σ a i o→(∀ v',VT σ v v'→K (a.put o.dst v') w)→wpOp Tryz.prog ops Q i K a w
def FFact (nm:Nat) (x:Ob) (i:Nat):Prop:=∃ o v,ops[i]?=some o∧DstV tmF o v∧∀ σ w a K,LooksR ops R tm0 tmF σ a i o→σ nm=none →
  (∀ v' w' p,Oth (fun _=>False) w w'→p.b=w.heap.size→OR (σ.add nm p) p x w'.heap[p.b]?→VT (σ.add nm p) v v'→K (a.put o.dst v') w')→wpOp Tryz.prog ops Q i K a w
def EFact (s s':St) (i:Nat):Prop:=∃ o v,ops[i]?=some o∧DstV tmF o v∧∀ σ w a K,Sim σ s w→LooksR ops R tm0 tmF σ a i o →
  (∀ v' w' σ',Goes σ s w σ' s' w'→VT σ' v v'→K (a.put o.dst v') w')→wpOp Tryz.prog ops Q i K a w
end
section
variable {ops:Array Oper} {R:List Nat} {effM:Nat} {cf:CallF} {tm0 tmF:Tm} {sF:St} {Q:Exit→Act→World→Prop}
theorem RFact.weak {i:Nat} (h:RFact ops R tm0 tmF Q none i) (s:Option St):RFact ops R tm0 tmF Q s i:=by
  obtain ⟨o,v,h1,h2,h3⟩:=h
  exact ⟨o,v,h1,h2,fun σ w a K _ hl hk=>h3 σ w a K (fun _ e=>by cases e) hl hk⟩
theorem RFact.more {i:Nat} {s:St} {x:Ob} (ht:look s.heap s.next=none) (h:RFact ops R tm0 tmF Q (some s) i):RFact ops R tm0 tmF Q (some (s.add x)) i:=by
  obtain ⟨o,v,h1,h2,h3⟩:=h
  refine ⟨o,v,h1,h2,fun σ w a K hs hl hk=>h3 σ w a K (fun s1 e=>?_) hl hk⟩
  cases e
  refine (hs _ rfl).sub fun j oj hj=>?_
  rw [St.look_add,if_neg (fun e=>by subst e;rw [ht] at hj;cases hj)]
  exact hj
theorem looks_ops {σ:Sg} {tm:Tm} {a:Act} {o:Oper} (h:∀ t∈o.looksAt ops,TmAt σ tm a (.tmp t)):OpsR σ tm a o.op∧GAt σ tm a ops o:=by
  refine ⟨fun x hx=>?_,fun g w og d hg h1 h2=>?_⟩
  · intro t ht v hv
    subst ht
    exact h t (List.mem_append_left _ (List.mem_filterMap.2 ⟨.tmp t,by simpa using hx,rfl⟩)) t rfl v hv
  · refine h d (List.mem_append_right _ ?_)
    simp [hg,h1,h2]
theorem wpOp_yes {i:Nat} {o:Oper} {a:Act} {w:World} {K:Act→World→Prop} (h1:ops[i]?=some o) (h2:Region.wanted o (yielded ops a.tmps)=true) (h:o.wp Tryz.prog a w K Q):wpOp Tryz.prog ops Q i K a w:=by
  unfold wpOp
  simp only [h1,h2,if_true]
  exact .inl h
theorem wpOp_no {i:Nat} {o:Oper} {a:Act} {w:World} {K:Act→World→Prop} (h1:ops[i]?=some o) (h2:Region.wanted o (yielded ops a.tmps)=false) (h:K (a.put o.dst undef) w):wpOp Tryz.prog ops Q i K a w:=by
  unfold wpOp
  simp only [h1,h2,Bool.false_eq_true,if_false]
  exact h
theorem looks_now {tm:Tm} {pend i:Nat} {o:Oper} (g1:(o.looksAt ops).all (fun t=>pend.testBit t == clsC ops R i t)=true) (hp1:∀ t,pend.testBit t=false→tmF.lookup t=tm.lookup t) (hp2:∀ t,pend.testBit t=true→tm.lookup t=tm0.lookup t)
    {σ:Sg} {a:Act} (h:LooksR ops R tm0 tmF σ a i o):OpsR σ tm a o.op∧GAt σ tm a ops o:=by
  refine looks_ops fun t ht=>?_
  have h1:=List.all_eq_true.1 g1 t ht
  simp only [beq_iff_eq] at h1
  have h2:=h t ht
  cases hc:clsC ops R i t with
  | true=>
    rw [hc] at h2 h1
    exact h2.same (hp2 t h1)
  | false=>
    rw [hc] at h2 h1
    exact TmAt.same (hp1 t h1).symm h2
theorem OpOut.facts {tm:Tm} {s s':St} {v:Value} {i:Nat} {o:Oper} {pend:Nat} (h1:ops[i]?=some o) (hd:DstV tmF o v) (g1:(o.looksAt ops).all (fun t=>pend.testBit t == clsC ops R i t)=true) (hp1:∀ t,pend.testBit t=false→tmF.lookup t=tm.lookup t) (hp2:∀ t,pend.testBit t=true→tm.lookup t=tm0.lookup t)
    (hw:∀ σ a,GAt σ tm a ops o→Region.wanted o (yielded ops a.tmps)=true) (h:OpOut (kindOp o.op) o.op tm s v s') :
    match kindOp o.op with
    | .pure=>s'=s∧RFact ops R tm0 tmF Q none i
    | .read=>s'=s∧RFact ops R tm0 tmF Q (some s) i
    | .flo=>∃ x,s'=s.add x∧FFact ops R tm0 tmF Q s.next x i
    | .eff=>EFact ops R tm0 tmF Q s s' i:=by
  cases hk:kindOp o.op with
  | pure=>
    rw [hk] at h
    obtain ⟨rfl,h⟩:=h
    refine ⟨rfl,o,v,h1,hd,fun σ w a K _ hl hK=>?_⟩
    obtain ⟨t1,t2⟩:=looks_now g1 hp1 hp2 hl
    obtain ⟨v',e1,e2⟩:=h σ w a o rfl t1
    refine wpOp_yes h1 (hw σ a t2) ?_
    unfold Oper.wp
    rw [e1]
    exact hK v' e2
  | read=>
    rw [hk] at h
    obtain ⟨rfl,h⟩:=h
    refine ⟨rfl,o,v,h1,hd,fun σ w a K hs hl hK=>?_⟩
    obtain ⟨t1,t2⟩:=looks_now g1 hp1 hp2 hl
    obtain ⟨v',e1,e2⟩:=h σ w a o rfl (hs _ rfl) t1
    refine wpOp_yes h1 (hw σ a t2) ?_
    unfold Oper.wp
    rw [e1]
    exact hK v' e2
  | flo=>
    rw [hk] at h
    obtain ⟨x,rfl,h⟩:=h
    refine ⟨x,rfl,o,v,h1,hd,fun σ w a K hl hn hK=>?_⟩
    obtain ⟨t1,t2⟩:=looks_now g1 hp1 hp2 hl
    obtain ⟨v',w',p,e1,e2,e3,e4,e5⟩:=h σ w a o rfl t1 hn
    refine wpOp_yes h1 (hw σ a t2) ?_
    unfold Oper.wp
    rw [e1]
    exact hK v' w' p e2 e3 e4 e5
  | eff=>
    rw [hk] at h
    refine ⟨o,v,h1,hd,fun σ w a K hs hl hK=>?_⟩
    obtain ⟨t1,t2⟩:=looks_now g1 hp1 hp2 hl
    exact wpOp_yes h1 (hw σ a t2) (h σ w a o K Q rfl hs t1 hK)
theorem no_fact {tm:Tm} {i:Nat} {o:Oper} {pend:Nat} (h1:ops[i]?=some o) (hd:DstV tmF o undef) (g1:(o.looksAt ops).all (fun t=>pend.testBit t == clsC ops R i t)=true) (hp1:∀ t,pend.testBit t=false→tmF.lookup t=tm.lookup t) (hp2:∀ t,pend.testBit t=true→tm.lookup t=tm0.lookup t)
    (hw:∀ σ a,GAt σ tm a ops o→Region.wanted o (yielded ops a.tmps)=false):RFact ops R tm0 tmF Q none i∧∀ s,EFact ops R tm0 tmF Q s s i:=by
  refine ⟨⟨o,undef,h1,hd,fun σ w a K _ hl hK=>?_⟩,fun s=>⟨o,undef,h1,hd,fun σ w a K hs hl hK=>?_⟩⟩
  · obtain ⟨t1,t2⟩:=looks_now g1 hp1 hp2 hl
    exact wpOp_no h1 (hw σ a t2) (hK undef (VT.undef σ))
  · obtain ⟨t1,t2⟩:=looks_now g1 hp1 hp2 hl
    exact wpOp_no h1 (hw σ a t2) (hK undef w σ (.refl hs) (VT.undef σ))
def pendN (pend:Nat) (o:Oper):Nat:=match o.dst with | none=>pend | some d=>Nat.xor pend (Nat.pow 2 d)
theorem pendN_bit {pend:Nat} {o:Oper} {t:Nat} (hd:∀ d,o.dst=some d→pend.testBit d=true):(pendN pend o).testBit t=(pend.testBit t && !(o.dst == some t)):=by
  unfold pendN
  cases hdst:o.dst with
  | none=>simp
  | some d=>
    show (pend ^^^ 2 ^ d).testBit t=_
    rw [Nat.testBit_xor,Nat.testBit_two_pow]
    by_cases e:d=t
    · subst e;rw [hd d hdst];simp
    · have:(some d == some t)=false:=by simpa using e
      rw [this];simp [e]
theorem even_facts {c:Nat} {ns:List Nat} {done D seg ever pend:Nat} {tm:Tm} {s:St} (hcf:Sound cf) (hc:Nat.beq (Nat.land c 1) 0=true) (h:drawK cf ops.toList (c :: ns) tm s=some (tmF,sF)) (hg:goD ops R effM (c :: ns) done D seg ever pend=true)
    (hp2:∀ t,pend.testBit t=true→tm.lookup t=tm0.lookup t):∃ o v s',ops[Nat.shiftRight c 1]?=some o∧drawK cf ops.toList ns (putK tm o.dst v) s'=some (tmF,sF)∧(∀ t,(pendN pend o).testBit t=true→(putK tm o.dst v).lookup t=tm0.lookup t)∧ever.testBit (Nat.shiftRight c 1)=false ∧
      ((kindOp o.op = .eff∧(List.range ops.size).all (mayC ops R effM done D seg ever (some (Nat.shiftRight c 1)))=true∧EFact ops R tm0 tmF Q s s' (Nat.shiftRight c 1) ∧
          goD ops R effM ns (Nat.lor done (Nat.pow 2 (Nat.shiftRight c 1))) (Nat.lor D (R.getD (Nat.shiftRight c 1) 0)) 0 (Nat.lor ever (Nat.pow 2 (Nat.shiftRight c 1))) (pendN pend o)=true) ∨
        (kindOp o.op≠.eff∧goD ops R effM ns done D (Nat.lor seg (Nat.pow 2 (Nat.shiftRight c 1))) (Nat.lor ever (Nat.pow 2 (Nat.shiftRight c 1))) (pendN pend o)=true ∧
          ((s'=s∧RFact ops R tm0 tmF Q (some s) (Nat.shiftRight c 1)∧(kindOp o.op≠.read→RFact ops R tm0 tmF Q none (Nat.shiftRight c 1)))∨(∃ x,s'=s.add x∧kindOp o.op≠.read∧FFact ops R tm0 tmF Q s.next x (Nat.shiftRight c 1))))):=by
  have hkeep:=draw_keep hcf h hg
  have h':stepK cf ops.toList c (fun tm s=>drawK cf ops.toList ns tm s) tm s=some (tmF,sF):=h
  obtain ⟨o,h1,h2⟩:=step_even hcf hc h'
  unfold goD at hg
  rw [h1] at hg
  simp only [hc,Bool.and_eq_true] at hg
  obtain ⟨g1,⟨g2,g3⟩,g4⟩:=hg
  have g3:ever.testBit (Nat.shiftRight c 1)=false:=by simpa using g3
  have hdp:∀ d,o.dst=some d→pend.testBit d=true:=fun d hd=>by rw [hd] at g2;exact g2
  have hdone:∀ v s',drawK cf ops.toList ns (putK tm o.dst v) s'=some (tmF,sF)→DstV tmF o v:=by
    intro v s' hd d hdd
    have hpend:∃ done' D' seg' ever',goD ops R effM ns done' D' seg' ever' (pendN pend o)=true:=by
      split at g4
      · simp only [Bool.and_eq_true] at g4
        exact ⟨_,_,_,_,g4.2⟩
      · exact ⟨_,_,_,_,g4⟩
    obtain ⟨_,_,_,_,g5⟩:=hpend
    have:=draw_keep hcf hd g5 d (by rw [pendN_bit hdp,hdd];simp)
    have e:tmF.lookup d=(putK tm o.dst v).lookup d:=this
    rw [e,hdd]
    show List.lookup d ((d,v) :: tm)=_
    rw [lookup_cons,if_pos rfl]
  have hold:∀ v t,(pendN pend o).testBit t=true→(putK tm o.dst v).lookup t=tm0.lookup t:=by
    intro v t ht
    rw [pendN_bit hdp,Bool.and_eq_true] at ht
    obtain ⟨ht1,ht2⟩:=ht
    cases hdd:o.dst with
    | none=>exact hp2 t ht1
    | some d=>
      rw [hdd] at ht2
      have hne:t≠d:=fun e=>by subst e;simp at ht2
      show List.lookup t ((d,v) :: tm)=_
      rw [lookup_cons,if_neg hne]
      exact hp2 t ht1
  rcases h2 with ⟨v,s',h3,h4,h5⟩ | ⟨h3,h5⟩
  · have hf:=OpOut.facts (Q:=Q) h1 (hdone v s' h3) g1 hkeep hp2 h5 h4
    refine ⟨o,v,s',h1,h3,hold v,g3,?_⟩
    cases hk:kindOp o.op with
    | eff=>
      rw [hk] at g4 hf
      simp only [Bool.and_eq_true] at g4
      exact .inl ⟨rfl,g4.1,hf,g4.2⟩
    | pure=>
      rw [hk] at g4 hf
      exact .inr ⟨by simp,g4,.inl ⟨hf.1,hf.2.weak _,fun _=>hf.2⟩⟩
    | read=>
      rw [hk] at g4 hf
      exact .inr ⟨by simp,g4,.inl ⟨hf.1,hf.2,fun e=>absurd rfl e⟩⟩
    | flo=>
      rw [hk] at g4 hf
      obtain ⟨x,e1,e2⟩:=hf
      exact .inr ⟨by simp,g4,.inr ⟨x,e1,by simp,e2⟩⟩
  · obtain ⟨hf1,hf2⟩:=no_fact (Q:=Q) h1 (hdone _ s h3) g1 hkeep hp2 h5
    refine ⟨o,undef,s,h1,h3,hold _,g3,?_⟩
    cases hk:kindOp o.op with
    | eff=>
      rw [hk] at g4
      simp only [Bool.and_eq_true] at g4
      exact .inl ⟨rfl,g4.1,hf2 s,g4.2⟩
    | pure=>rw [hk] at g4;exact .inr ⟨by simp,g4,.inl ⟨rfl,hf1.weak _,fun _=>hf1⟩⟩
    | read=>rw [hk] at g4;exact .inr ⟨by simp,g4,.inl ⟨rfl,hf1.weak _,fun _=>hf1⟩⟩
    | flo=>rw [hk] at g4;exact .inr ⟨by simp,g4,.inl ⟨rfl,hf1.weak _,fun _=>hf1⟩⟩
theorem odd_facts {c:Nat} {ns:List Nat} {done D seg ever pend:Nat} {tm:Tm} {s:St} (hcf:Sound cf) (hc:Nat.beq (Nat.land c 1) 0=false) (h:drawK cf ops.toList (c :: ns) tm s=some (tmF,sF)) (hg:goD ops R effM (c :: ns) done D seg ever pend=true)
    (hp2:∀ t,pend.testBit t=true→tm.lookup t=tm0.lookup t):∃ o,ops[Nat.shiftRight c 1]?=some o∧kindOp o.op = .read∧drawK cf ops.toList ns tm s=some (tmF,sF)∧RFact ops R tm0 tmF Q (some s) (Nat.shiftRight c 1) ∧
      goD ops R effM ns done D (Nat.lor seg (Nat.pow 2 (Nat.shiftRight c 1))) ever pend=true:=by
  have hkeep:=draw_keep hcf h hg
  have h':stepK cf ops.toList c (fun tm s=>drawK cf ops.toList ns tm s) tm s=some (tmF,sF):=h
  obtain ⟨o,d,u,h1,h2,h3,h4,h5⟩:=step_odd hcf hc h'
  unfold goD at hg
  rw [h1] at hg
  simp only [hc,Bool.and_eq_true] at hg
  obtain ⟨g1,⟨⟨g2,g3⟩,g4⟩,g5⟩:=hg
  have hk:kindOp o.op = .read:=by
    cases hk:kindOp o.op <;> rw [hk] at g2 <;> first | rfl | cases g2
  rw [h2] at g4
  have hdv:DstV tmF o u:=fun d' hd'=>by
    rw [h2] at hd';cases hd'
    have e:=hkeep d (by simpa using g4)
    exact e.trans h3
  refine ⟨o,h1,hk,h4,?_,g5⟩
  rcases h5 with ⟨s',h6,h7⟩ | ⟨rfl,h7⟩
  · have hf:=OpOut.facts (Q:=Q) h1 hdv g1 hkeep hp2 h7 h6
    rw [hk] at hf
    exact hf.2
  · exact (no_fact (Q:=Q) h1 hdv g1 hkeep hp2 h7).1.weak _
end
end Go.Proofs.YtnpdcjdmbkcpbaaGreat.Ev
namespace Go.Proofs.YtnpdcjdmbkcpbaaGreat.Ev
open Go
structure Stat (ops:Array Oper) (R:List Nat) (effM nt:Nat):Prop where
  dep:∀ i,i < ops.size→depC ops R i=true
  uniq:∀ (i j:Nat) (oi oj:Oper) (d:Nat),ops[i]?=some oi→ops[j]?=some oj→oi.dst=some d→oj.dst=some d→i=j
  eff:∀ k,effM.testBit k=true→∃ o,ops[k]?=some o∧kindOp o.op = .eff
  slot:∀ (j:Nat) (o:Oper) (d:Nat),ops[j]?=some o→o.dst=some d→d < nt
structure Grp (ops:Array Oper) (R:List Nat) (tm0 tmF:Tm) (nt:Nat) (df:List Deferred) (listed:Array Bool) (a:Act) (σ:Sg):Prop where
  closed:∀ j,listed.getD j false=true→∀ k,(R.getD j 0).testBit k=true→listed.getD k false=true
  new:∀ t,(∀ (j:Nat) (o:Oper),ops[j]?=some o→o.dst=some t→listed.getD j false=true)→TmAt σ tmF a (.tmp t)
  prev:∀ (t j:Nat) (o:Oper),ops[j]?=some o→o.dst=some t→listed.getD j false=false→TmAt σ tm0 a (.tmp t)
  size:nt≤a.tmps.size
  defs:a.defers=df
  lsz:listed.size=ops.size
section
variable {ops:Array Oper} {R:List Nat} {effM nt:Nat} {tm0 tmF:Tm} {df:List Deferred} {listed:Array Bool} {a:Act} {σ σ':Sg} {Q:Exit→Act→World→Prop}
theorem getD_flip {listed:Array Bool} {i:Nat} (h:i < listed.size):listed.getD i true=listed.getD i false:=by simp [Array.getD,h]
structure Rdy (ops:Array Oper) (R:List Nat) (listed:Array Bool) (i:Nat) (o:Oper):Prop where
  at_:ops[i]?=some o
  off:listed.getD i false=false
  pre:∀ k,(R.getD i 0).testBit k=true→listed.getD k false=true
theorem Grp.ready (st:Stat ops R effM nt) (g:Grp ops R tm0 tmF nt df listed a σ) {i:Nat} (h:i∈Region.ready .any ops listed):∃ o,Rdy ops R listed i o:=by
  obtain ⟨h0,o,h1,h2⟩:=mem_ready.1 h
  have hi:i < ops.size:=(Array.getElem?_eq_some_iff.1 h1).1
  refine ⟨o,h1,by rw [← getD_flip (by rw [g.lsz];exact hi)];exact h0,fun k hk=>?_⟩
  have hd:=st.dep i hi
  unfold depC at hd
  rw [h1] at hd
  simp only [Bool.and_eq_true] at hd
  have hu:(uM R o.after.toList).testBit k=true:=by
    have e:=Nat.eq_of_beq_eq_true hd.1.2
    have e':R.getD i 0 ||| uM R o.after.toList=uM R o.after.toList:=e
    rw [← e',Nat.testBit_or,hk];rfl
  obtain ⟨e,he,hb,h3⟩:=uM_bit hu
  have hl:=h2 e (Array.mem_toList_iff.1 he) hb
  rcases h3 with rfl | h3
  · exact hl
  · exact g.closed e.on hl k h3
theorem all_listed (st:Stat ops R effM nt) (hs:listed.size=ops.size) (h:Region.ready .any ops listed=[]):∀ j,j < ops.size→listed.getD j false=true:=by
  intro j
  induction j using Nat.strongRecOn with
  | _ j ih=>
    intro hj
    cases hc:listed.getD j false with
    | true=>rfl
    | false=>
      exfalso
      have hd:=st.dep j hj
      unfold depC at hd
      obtain ⟨o,ho⟩:∃ o,ops[j]?=some o:=⟨ops[j],by simp [hj]⟩
      rw [ho] at hd
      simp only [Bool.and_eq_true] at hd
      have hm:j∈Region.ready .any ops listed:=by
        refine mem_ready.2 ⟨by rw [getD_flip (by rw [hs];exact hj)];exact hc,o,ho,fun e he hb=>?_⟩
        have h1:=List.all_eq_true.1 hd.1.1 e (Array.mem_toList_iff.2 he)
        rw [hb] at h1
        have h2:e.on < j:=by simpa using h1
        exact ih e.on (by omega) (by omega)
      rw [h] at hm;cases hm
theorem Grp.looks (st:Stat ops R effM nt) (g:Grp ops R tm0 tmF nt df listed a σ) {i:Nat} {o:Oper} (h:Rdy ops R listed i o):LooksR ops R tm0 tmF σ a i o:=by
  intro t ht
  have hi:i < ops.size:=(Array.getElem?_eq_some_iff.1 h.at_).1
  have hd:=st.dep i hi
  unfold depC at hd
  rw [h.at_] at hd
  simp only [Bool.and_eq_true] at hd
  have hall:=List.all_eq_true.1 hd.2 t ht
  cases hc:clsC ops R i t with
  | false=>
    refine g.new t fun j oj hj hdst=>?_
    have hjn:j < ops.size:=(Array.getElem?_eq_some_iff.1 hj).1
    refine h.pre j ?_
    cases hb:(R.getD i 0).testBit j with
    | true=>rfl
    | false=>
      exfalso
      have:clsC ops R i t=true:=by
        unfold clsC
        rw [List.any_eq_true]
        refine ⟨j,List.mem_range.2 hjn,?_⟩
        rw [hj]
        simp only [hdst,hb]
        simp
      rw [this] at hc;cases hc
  | true=>
    unfold clsC at hc
    rw [List.any_eq_true] at hc
    obtain ⟨j,hjr,hj⟩:=hc
    cases hoj:ops[j]? with
    | none=>rw [hoj] at hj;cases hj
    | some oj=>
      rw [hoj] at hj
      simp only [Bool.and_eq_true,beq_iff_eq,Bool.not_eq_true'] at hj
      have h1:=List.all_eq_true.1 hall j hjr
      rw [hoj] at h1
      simp only [Bool.or_eq_true,Bool.not_eq_true'] at h1
      have hji:(R.getD j 0).testBit i=true:=by
        rcases h1 with (h1 | h1) | h1
        · rw [hj.1] at h1;simp at h1
        · rw [hj.2] at h1;cases h1
        · exact h1
      refine g.prev t j oj hoj hj.1 ?_
      cases hl:listed.getD j false with
      | false=>rfl
      | true=>
        have:=g.closed j hl i hji
        rw [h.off] at this;cases this
theorem getD_set {listed:Array Bool} {i j:Nat} (h:i < listed.size):(listed.setIfInBounds i true).getD j false=(listed.getD j false || decide (i=j)):=by
  by_cases e:i=j
  · subst e;simp [h]
  · rw [getD_set_ne false e];simp [e]
theorem Grp.step (st:Stat ops R effM nt) (g:Grp ops R tm0 tmF nt df listed a σ) {i:Nat} {o:Oper} {v v':Value} (h:Rdy ops R listed i o) (hle:σ.Le σ') (hd:DstV tmF o v) (hv:VT σ' v v'):Grp ops R tm0 tmF nt df (listed.setIfInBounds i true) (a.put o.dst v') σ':=by
  have hi:i < listed.size:=by rw [g.lsz];exact (Array.getElem?_eq_some_iff.1 h.at_).1
  refine ⟨fun j hj k hk=>?_,fun t ht=>?_,fun t j oj hj hdst hl=>?_,by rw [put_size];exact g.size,by rw [put_defers];exact g.defs,by simp [g.lsz]⟩
  · rw [getD_set hi,Bool.or_eq_true] at hj ⊢
    rcases hj with hj | hj
    · exact .inl (g.closed j hj k hk)
    · have:i=j:=by simpa using hj
      subst this
      exact .inl (h.pre k hk)
  · by_cases hdt:o.dst=some t
    · intro u hu x hx
      cases hu
      rw [hd t hdt] at hx;cases hx
      have hlt:t < a.tmps.size:=Nat.lt_of_lt_of_le (st.slot i o t h.at_ hdt) g.size
      exact ⟨v',by rw [hdt];simp [Act.put,hlt],hv⟩
    · refine TmAt.put hdt (TmAt.mono hle (g.new t fun j oj hj hdst=>?_))
      have h1:=ht j oj hj hdst
      rw [getD_set hi,Bool.or_eq_true] at h1
      rcases h1 with h1 | h1
      · exact h1
      · have:i=j:=by simpa using h1
        subst this
        rw [h.at_] at hj;cases hj
        exact absurd hdst hdt
  · rw [getD_set hi,Bool.or_eq_false_iff] at hl
    have hne:i≠j:=by simpa using hl.2
    refine TmAt.put (fun e=>hne (st.uniq i j o oj t h.at_ hj e hdst)) (TmAt.mono hle (g.prev t j oj hj hdst hl.1))
end
theorem Goes.float {σ0 σ:Sg} {s0 s:St} {w0 w w':World} {nm:Nat} {x:Ob} {p:Pl} (h:Goes σ0 s0 w0 σ s w) (hn:σ nm=none) (hx:look s.heap nm=some x) (h0:s0.next≤nm) (hlt:nm < s.next) (ho:Oth (fun _=>False) w w') (hp:p.b=w.heap.size) (hr:OR (σ.add nm p) p x w'.heap[p.b]?):Goes σ0 s0 w0 (σ.add nm p) s w':=by
  have hle:σ.Le (σ.add nm p):=Sg.le_add hn
  refine ⟨⟨fun i o q hi hq=>?_,fun i j o1 o2 p1 p2 h1 h2 h3 h4 h5=>?_,fun i hi=>?_,h.sim.top⟩,h.next,fun i hi=>?_,h.keep,⟨ho.os.trans h.oth.os,ho.tape.trans h.oth.tape,ho.output.trans h.oth.output,Nat.le_trans h.oth.size ho.size,fun k hk hS=>?_⟩,fun k hk hlt'=>?_⟩
  · by_cases e:i=nm
    · subst e
      rw [Sg.add_at] at hq;cases hq
      rw [hx] at hi;cases hi
      exact hr
    · rw [Sg.add_other _ _ e] at hq
      rw [ho.block _ (h.sim.inside hi hq) id]
      exact (h.sim.obj i o q hi hq).mono hle
  · by_cases e1:i=nm
    · by_cases e2:j=nm
      · rw [e1,e2]
      · subst e1
        rw [Sg.add_at] at h3;cases h3
        rw [Sg.add_other _ _ e2] at h4
        have:=h.sim.inside h2 h4;omega
    · rw [Sg.add_other _ _ e1] at h3
      by_cases e2:j=nm
      · subst e2
        rw [Sg.add_at] at h4;cases h4
        have:=h.sim.inside h1 h3;omega
      · rw [Sg.add_other _ _ e2] at h4
        exact h.sim.inj i j o1 o2 p1 p2 h1 h2 h3 h4 h5
  · rw [Sg.add_other _ _ (by omega)];exact h.sim.new i hi
  · rw [Sg.add_other _ _ (by omega)];exact h.sig i hi
  · rw [ho.block k (Nat.lt_of_lt_of_le hk h.oth.size) id];exact h.oth.block k hk hS
  · obtain ⟨i,o,q,h1,h2,h3⟩:=hk
    by_cases e:i=nm
    · subst e
      rw [Sg.add_at] at h2;cases h2
      have:=h.oth.size;omega
    · rw [Sg.add_other _ _ e] at h2
      exact h.img k ⟨i,o,q,h1,h2,h3⟩ hlt'
theorem Goes.name {σ0 σ:Sg} {s0 s:St} {w0 w:World} (x:Ob) (h:Goes σ0 s0 w0 σ s w):Goes σ0 s0 w0 σ (s.add x) w:=by
  have hl:∀ i o p,look (s.add x).heap i=some o→σ i=some p→look s.heap i=some o:=fun i o p hi hp=>by
    rw [St.look_add] at hi
    split at hi
    · rename_i e;subst e
      rw [h.sim.new _ (Nat.le_refl _)] at hp;cases hp
    · exact hi
  refine ⟨⟨fun i o p hi hp=>h.sim.obj i o p (hl i o p hi hp) hp,fun i j o1 o2 p1 p2 h1 h2 h3 h4=>h.sim.inj i j o1 o2 p1 p2 (hl _ _ _ h1 h3) (hl _ _ _ h2 h4) h3 h4,fun i hi=>?_,fun i hi=>?_⟩,?_,h.sig,fun i hi hn=>?_,h.oth,fun k hk hlt=>?_⟩
  · have hi':s.next + 1≤i:=hi
    exact h.sim.new i (by omega)
  · have hi':s.next + 1≤i:=hi
    rw [St.look_add,if_neg (by omega)];exact h.sim.top i (by omega)
  · have:=h.next;show s0.next≤s.next + 1;omega
  · have:=h.next
    rw [St.look_add,if_neg (by omega)];exact h.keep i hi hn
  · obtain ⟨i,o,p,h1,h2,h3⟩:=hk
    exact h.img k ⟨i,o,p,hl i o p h1 h2,h2,h3⟩ hlt
structure Inv (ops:Array Oper) (R:List Nat) (effM:Nat) (cf:CallF) (tm0 tmF:Tm) (sF:St) (Q:Exit→Act→World→Prop) (σ0:Sg) (s0:St) (w0:World) (nt:Nat) (df:List Deferred)
    (listed:Array Bool) (a:Act) (w:World) (σ:Sg) (s:St) (tm:Tm) (ns:List Nat) (done D seg ever pend:Nat) (pf:List (Nat × Nat × Ob)):Prop where
  grp:Grp ops R tm0 tmF nt df listed a σ
  run:drawK cf ops.toList ns tm s=some (tmF,sF)
  chk:goD ops R effM ns done D seg ever pend=true
  old:∀ t,pend.testBit t=true→tm.lookup t=tm0.lookup t
  goes:Goes σ0 s0 w0 σ s w
  reads:∀ (j:Nat) (o:Oper),ops[j]?=some o→kindOp o.op = .read→seg.testBit j=true→RFact ops R tm0 tmF Q (some s) j
  once:∀ (j:Nat) (o:Oper),ops[j]?=some o→kindOp o.op≠.read→kindOp o.op≠.eff→ever.testBit j=true→listed.getD j false=false→RFact ops R tm0 tmF Q none j∨∃ nm x,(j,nm,x)∈pf
  pend_:∀ q∈pf,FFact ops R tm0 tmF Q q.2.1 q.2.2 q.1∧σ q.2.1=none∧look s.heap q.2.1=some q.2.2∧s0.next≤q.2.1∧q.2.1 < s.next
  pinj:∀ p∈pf,∀ q∈pf,p.2.1=q.2.1→p=q
  effs:∀ (j:Nat) (o:Oper),ops[j]?=some o→kindOp o.op = .eff→(listed.getD j false=true ↔ done.testBit j=true)
  dd:∀ j,D.testBit j=true→listed.getD j false=true
  de:∀ j,done.testBit j=true→ever.testBit j=true
section
variable {ops:Array Oper} {R:List Nat} {effM nt:Nat} {cf:CallF} {tm0 tmF:Tm} {sF:St} {Q:Exit→Act→World→Prop} {σ0:Sg} {s0:St} {w0:World} {df:List Deferred}
theorem lor_bit (m i j:Nat):(Nat.lor m (Nat.pow 2 i)).testBit j=(m.testBit j || decide (i=j)):=by
  show (m ||| 2 ^ i).testBit j=_
  rw [Nat.testBit_or,Nat.testBit_two_pow]
theorem Inv.norm (hcf:Sound cf):∀ {ns:List Nat} {listed:Array Bool} {a:Act} {w:World} {σ:Sg} {s:St} {tm:Tm} {done D seg ever pend:Nat} {pf:List (Nat × Nat × Ob)},
    Inv ops R effM cf tm0 tmF sF Q σ0 s0 w0 nt df listed a w σ s tm ns done D seg ever pend pf →
    ∃ s' tm' ns' seg' ever' pend' pf',Inv ops R effM cf tm0 tmF sF Q σ0 s0 w0 nt df listed a w σ s' tm' ns' done D seg' ever' pend' pf'∧(ns'=[]∨∃ c ns'' o,ns'=c :: ns''∧Nat.beq (Nat.land c 1) 0=true∧ops[Nat.shiftRight c 1]?=some o∧kindOp o.op = .eff)
  | [],listed,a,w,σ,s,tm,done,D,seg,ever,pend,pf,h=>⟨_,_,_,_,_,_,_,h,.inl rfl⟩
  | c :: ns,listed,a,w,σ,s,tm,done,D,seg,ever,pend,pf,h=>by
    cases hc:Nat.beq (Nat.land c 1) 0 with
    | false=>
      obtain ⟨o,h1,h2,h3,h4,h5⟩:=odd_facts (Q:=Q) hcf hc h.run h.chk h.old
      refine Inv.norm hcf (ns:=ns) (s:=s) (tm:=tm) (seg:=Nat.lor seg (Nat.pow 2 (Nat.shiftRight c 1))) (pf:=pf) ⟨h.grp,h3,h5,h.old,h.goes,fun j oj hj hk hb=>?_,h.once,h.pend_,h.pinj,h.effs,h.dd,h.de⟩
      rw [lor_bit,Bool.or_eq_true] at hb
      rcases hb with hb | hb
      · exact h.reads j oj hj hk hb
      · have:Nat.shiftRight c 1=j:=by simpa using hb
        rw [← this];exact h4
    | true=>
      obtain ⟨o,v,s',h1,h2,h3,h30,h4⟩:=even_facts (Q:=Q) hcf hc h.run h.chk h.old
      rcases h4 with ⟨h5,h6,h7,h8⟩ | ⟨h5,h6,h7⟩
      · exact ⟨_,_,_,_,_,_,_,h,.inr ⟨c,ns,o,rfl,hc,h1,h5⟩⟩
      · have hde:∀ j,done.testBit j=true→(Nat.lor ever (Nat.pow 2 (Nat.shiftRight c 1))).testBit j=true:=fun j hj=>by
          rw [lor_bit,h.de j hj];rfl
        rcases h7 with ⟨rfl,h8,h9⟩ | ⟨x,rfl,h8,h9⟩
        · refine Inv.norm hcf (ns:=ns) ⟨h.grp,h2,h6,h3,h.goes,fun j oj hj hk hb=>?_,fun j oj hj hk1 hk2 hb hl=>?_,h.pend_,h.pinj,h.effs,h.dd,hde⟩
          · rw [lor_bit,Bool.or_eq_true] at hb
            rcases hb with hb | hb
            · exact h.reads j oj hj hk hb
            · have:Nat.shiftRight c 1=j:=by simpa using hb
              rw [← this];exact h8
          · rw [lor_bit,Bool.or_eq_true] at hb
            rcases hb with hb | hb
            · exact h.once j oj hj hk1 hk2 hb hl
            · have:Nat.shiftRight c 1=j:=by simpa using hb
              subst this
              rw [h1] at hj;cases hj
              exact .inl (h9 hk1)
        · have htop:=h.goes.sim.top s.next (Nat.le_refl _)
          refine Inv.norm hcf (ns:=ns) (pf:=(Nat.shiftRight c 1,s.next,x) :: pf) ⟨h.grp,h2,h6,h3,h.goes.name x,fun j oj hj hk hb=>?_,fun j oj hj hk1 hk2 hb hl=>?_,fun q hq=>?_,fun p hp q hq e=>?_,h.effs,h.dd,hde⟩
          · rw [lor_bit,Bool.or_eq_true] at hb
            rcases hb with hb | hb
            · exact (h.reads j oj hj hk hb).more htop
            · have:Nat.shiftRight c 1=j:=by simpa using hb
              subst this
              rw [h1] at hj;cases hj
              exact absurd hk h8
          · rw [lor_bit,Bool.or_eq_true] at hb
            rcases hb with hb | hb
            · rcases h.once j oj hj hk1 hk2 hb hl with k | ⟨nm,y,k⟩
              · exact .inl k
              · exact .inr ⟨nm,y,by simp [k]⟩
            · have:Nat.shiftRight c 1=j:=by simpa using hb
              subst this
              exact .inr ⟨s.next,x,by simp⟩
          · rcases List.mem_cons.1 hq with rfl | hq
            · exact ⟨h9,h.goes.sim.new _ (Nat.le_refl _),by rw [St.look_add,if_pos rfl],h.goes.next,Nat.lt_succ_self _⟩
            · obtain ⟨k1,k2,k3,k4,k5⟩:=h.pend_ q hq
              exact ⟨k1,k2,by rw [St.look_add,if_neg (Nat.ne_of_lt k5)];exact k3,k4,Nat.lt_succ_of_lt k5⟩
          · rcases List.mem_cons.1 hp with rfl | hp <;> rcases List.mem_cons.1 hq with rfl | hq
            · rfl
            · have:=(h.pend_ q hq).2.2.2.2
              exact absurd e (by show s.next≠q.2.1;omega)
            · have:=(h.pend_ p hp).2.2.2.2
              exact absurd e (by show p.2.1≠s.next;omega)
            · exact h.pinj p hp q hq e
end
end Go.Proofs.YtnpdcjdmbkcpbaaGreat.Ev
namespace Go.Proofs.YtnpdcjdmbkcpbaaGreat.Ev
open Go
section
variable {ops:Array Oper} {R:List Nat} {effM nt:Nat} {cf:CallF} {tm0 tmF:Tm} {sF:St} {Q:Exit→Act→World→Prop} {σ0:Sg} {s0:St} {w0:World} {df:List Deferred}
theorem may_of (st:Stat ops R effM nt) {listed:Array Bool} {a:Act} {w:World} {σ:Sg} {s:St} {tm:Tm} {ns:List Nat} {done D seg ever pend:Nat} {pf:List (Nat × Nat × Ob)}
    (h:Inv ops R effM cf tm0 tmF sF Q σ0 s0 w0 nt df listed a w σ s tm ns done D seg ever pend pf) {x:Option Nat} (hall:(List.range ops.size).all (mayC ops R effM done D seg ever x)=true) {i:Nat} {o:Oper} (hr:Rdy ops R listed i o) :
    (match kindOp o.op with | .eff=>done.testBit i || x == some i | .read=>seg.testBit i | _=>ever.testBit i)=true:=by
  have hi:i < ops.size:=(Array.getElem?_eq_some_iff.1 hr.at_).1
  have h1:=List.all_eq_true.1 hall i (List.mem_range.2 hi)
  unfold mayC at h1
  have hb : (Nat.beq (Nat.lor (Nat.land (R.getD i 0) effM) done) done && !(D.testBit i))=true:=by
    rw [Bool.and_eq_true]
    refine ⟨?_,?_⟩
    · have e:(R.getD i 0 &&& effM) ||| done=done:=by
        apply Nat.eq_of_testBit_eq
        intro k
        rw [Nat.testBit_or,Nat.testBit_and]
        cases h2:(R.getD i 0).testBit k with
        | false=>simp
        | true=>
          cases h3:effM.testBit k with
          | false=>simp
          | true=>
            obtain ⟨ok,h4,h5⟩:=st.eff k h3
            have:=(h.effs k ok h4 h5).1 (hr.pre k h2)
            rw [this];rfl
      have e':Nat.lor (Nat.land (R.getD i 0) effM) done=done:=e
      rw [e'];exact Nat.beq_refl _
    · cases h2:D.testBit i with
      | false=>rfl
      | true=>have:=h.dd i h2;rw [hr.off] at this;cases this
  rw [hb,hr.at_] at h1
  exact h1
theorem draw_any (hcf:Sound cf) (st:Stat ops R effM nt) (hQ:∀ σ w a,Goes σ0 s0 w0 σ sF w→TmR σ tmF a→nt≤a.tmps.size→a.defers=df→Q .normal a w) :
    ∀ (fuel:Nat) (l:List Nat) (listed:Array Bool) (a:Act) (w:World) (σ:Sg) (s:St) (tm:Tm) (ns:List Nat) (done D seg ever pend:Nat) (pf:List (Nat × Nat × Ob)),l.length=fuel→(∀ j,j < ops.size→listed.getD j false=false→j∈l) →
      Inv ops R effM cf tm0 tmF sF Q σ0 s0 w0 nt df listed a w σ s tm ns done D seg ever pend pf→wpAny Tryz.prog .any ops Q fuel listed a w:=by
  have fin:∀ (listed:Array Bool) (a:Act) (w:World) (σ:Sg) (s:St) (tm:Tm) (ns:List Nat) (done D seg ever pend:Nat) (pf:List (Nat × Nat × Ob)),(∀ j,j < ops.size→listed.getD j false=true) →
      Inv ops R effM cf tm0 tmF sF Q σ0 s0 w0 nt df listed a w σ s tm ns done D seg ever pend pf→Q .normal a w:=by
    intro listed a w σ s tm ns done D seg ever pend pf hall h
    obtain ⟨s',tm',ns',seg',ever',pend',pf',h',hn⟩:=h.norm hcf
    rcases hn with rfl | ⟨c,ns'',o,rfl,hc,ho,hk⟩
    · have hrun:=h'.run
      cases hrun
      refine hQ σ w a h'.goes (fun k v hv=>?_) h'.grp.size h'.grp.defs
      exact h'.grp.new k (fun j oj hj _=>hall j (Array.getElem?_eq_some_iff.1 hj).1) k rfl v hv
    · exfalso
      obtain ⟨o2,v,s2,h1,h2,h3,h30,_⟩:=even_facts (Q:=Q) hcf hc h'.run h'.chk h'.old
      have hl:=hall _ (Array.getElem?_eq_some_iff.1 ho).1
      have:=h'.de _ ((h'.effs _ o ho hk).1 hl)
      rw [h30] at this;cases this
  intro fuel
  induction fuel with
  | zero=>
    intro l listed a w σ s tm ns done D seg ever pend pf hl hin h
    have hl0:l=[]:=List.eq_nil_of_length_eq_zero hl
    subst hl0
    have hall:∀ j,j < ops.size→listed.getD j false=true:=fun j hj=>by
      cases hc:listed.getD j false with
      | true=>rfl
      | false=>have:=hin j hj hc;cases this
    refine ⟨?_,fin _ _ _ _ _ _ _ _ _ _ _ _ _ hall h⟩
    cases hr:Region.ready .any ops listed with
    | nil=>rfl
    | cons i rest=>
      obtain ⟨o,hrd⟩:=h.grp.ready st (i:=i) (by rw [hr];simp)
      have:=hall i (Array.getElem?_eq_some_iff.1 hrd.at_).1
      rw [hrd.off] at this;cases this
  | succ fuel ih=>
    intro l listed a w σ s tm ns done D seg ever pend pf hl hin h
    refine ⟨fun hr=>fin _ _ _ _ _ _ _ _ _ _ _ _ _ (all_listed st h.grp.lsz hr) h,fun i hi=>?_⟩
    obtain ⟨o,hrd⟩:=h.grp.ready st hi
    have hisz:i < ops.size:=(Array.getElem?_eq_some_iff.1 hrd.at_).1
    have hil:i < listed.size:=by rw [h.grp.lsz];exact hisz
    obtain ⟨s',tm',ns',seg',ever',pend',pf',h',hn⟩:=h.norm hcf
    have hmem:i∈l:=hin i hisz hrd.off
    have hl':(l.erase i).length=fuel:=by rw [List.length_erase_of_mem hmem,hl];rfl
    have hin':∀ j,j < ops.size→(listed.setIfInBounds i true).getD j false=false→j∈l.erase i:=by
      intro j hj hjl
      rw [getD_set hil,Bool.or_eq_false_iff] at hjl
      have hne:i≠j:=by simpa using hjl.2
      exact (List.mem_erase_of_ne (Ne.symm hne)).2 (hin j hj hjl.1)
    have hlk:=h'.grp.looks st hrd
    have unl:∀ j,(listed.setIfInBounds i true).getD j false=false→i≠j∧listed.getD j false=false:=fun j hj=>by
      rw [getD_set hil,Bool.or_eq_false_iff] at hj
      exact ⟨by simpa using hj.2,hj.1⟩
    have lst:∀ j,listed.getD j false=true→(listed.setIfInBounds i true).getD j false=true:=fun j hj=>by
      rw [getD_set hil,hj];rfl
    have effs':kindOp o.op≠.eff→∀ (j:Nat) (oj:Oper),ops[j]?=some oj→kindOp oj.op = .eff→((listed.setIfInBounds i true).getD j false=true ↔ done.testBit j=true):=fun hk j oj hj hkj=>by
      rw [getD_set hil]
      have hne:i≠j:=fun e=>by subst e;rw [hrd.at_] at hj;cases hj;exact hk hkj
      simpa [hne] using h'.effs j oj hj hkj
    have look1:kindOp o.op≠.eff→∀ so,(∀ s1,so=some s1→s1=s')→RFact ops R tm0 tmF Q so i→wpOp Tryz.prog ops Q i (wpAny Tryz.prog .any ops Q fuel (listed.setIfInBounds i true)) a w:=by
      intro hk so hso hf
      obtain ⟨o2,v,e1,e2,e3⟩:=hf
      rw [hrd.at_] at e1;cases e1
      refine e3 σ w a _ (fun s1 hs1=>by rw [hso s1 hs1];exact h'.goes.sim.o) hlk fun v' hv=>?_
      refine ih (l.erase i) _ _ w σ s' tm' ns' done D seg' ever' pend' pf' hl' hin' ⟨h'.grp.step st hrd (.refl _) e2 hv,h'.run,h'.chk,h'.old,h'.goes,h'.reads,fun j oj hj hk1 hk2 hb hjl=>h'.once j oj hj hk1 hk2 hb (unl j hjl).2,h'.pend_,h'.pinj,effs' hk,fun j hj=>lst j (h'.dd j hj),h'.de⟩
    have flo1:kindOp o.op≠.eff→∀ nm x,(i,nm,x)∈pf'→wpOp Tryz.prog ops Q i (wpAny Tryz.prog .any ops Q fuel (listed.setIfInBounds i true)) a w:=by
      intro hk nm x hp
      obtain ⟨k1,k2,k3,k4,k5⟩:=h'.pend_ _ hp
      obtain ⟨o2,v,e1,e2,e3⟩:=k1
      rw [hrd.at_] at e1;cases e1
      refine e3 σ w a _ hlk k2 fun v' w' p g1 g2 g3 g4=>?_
      have hle:σ.Le (σ.add nm p):=Sg.le_add k2
      refine ih (l.erase i) _ _ w' (σ.add nm p) s' tm' ns' done D seg' ever' pend' (pf'.filter fun q=>q.1 != i) hl' hin' ⟨h'.grp.step st hrd hle e2 g4,h'.run,h'.chk,h'.old,h'.goes.float k2 k3 k4 k5 g1 g2 g3,h'.reads,fun j oj hj hk1 hk2 hb hjl=>?_,fun q hq=>?_,fun p hp q hq=>h'.pinj p (List.mem_filter.1 hp).1 q (List.mem_filter.1 hq).1,effs' hk,fun j hj=>lst j (h'.dd j hj),h'.de⟩
      · obtain ⟨u1,u2⟩:=unl j hjl
        rcases h'.once j oj hj hk1 hk2 hb u2 with k | ⟨nm',x',k⟩
        · exact .inl k
        · exact .inr ⟨nm',x',List.mem_filter.2 ⟨k,by simpa using (Ne.symm u1)⟩⟩
      · obtain ⟨hq1,hq2⟩:=List.mem_filter.1 hq
        obtain ⟨m1,m2,m3,m4,m5⟩:=h'.pend_ q hq1
        have hne:q.2.1≠nm:=fun e=>by
          have:=h'.pinj q hq1 (i,nm,x) hp e
          subst this
          simp at hq2
        exact ⟨m1,by rw [Sg.add_other _ _ hne];exact m2,m3,m4,m5⟩
    have eff1:∀ c ns'' oc,ns'=c :: ns''→Nat.beq (Nat.land c 1) 0=true→ops[Nat.shiftRight c 1]?=some oc→kindOp oc.op = .eff→Nat.shiftRight c 1=i→wpOp Tryz.prog ops Q i (wpAny Tryz.prog .any ops Q fuel (listed.setIfInBounds i true)) a w:=by
      intro c ns'' oc hns hc hoc hkc hci
      subst hns
      obtain ⟨o2,v,s2,h1,h2,h3,h30,h4⟩:=even_facts (Q:=Q) hcf hc h'.run h'.chk h'.old
      rw [hoc] at h1;cases h1
      rcases h4 with ⟨h5,h6,h7,h8⟩ | ⟨h5,_⟩
      · rw [hci] at h7 h8 hoc
        obtain ⟨o3,v3,e1,e2,e3⟩:=h7
        rw [hrd.at_] at hoc e1;cases hoc;cases e1
        refine e3 σ w a _ h'.goes.sim hlk fun v' w' σ' g1 g2=>?_
        have hle:=g1.le h'.goes.sim
        refine ih (l.erase i) _ _ w' σ' s2 _ ns'' (Nat.lor done (Nat.pow 2 i)) (Nat.lor D (R.getD i 0)) 0 (Nat.lor ever' (Nat.pow 2 i)) (pendN pend' o) pf' hl' hin' ⟨h'.grp.step st hrd hle e2 g2,h2,h8,h3,h'.goes.trans g1,fun j oj hj hk hb=>by simp at hb,fun j oj hj hk1 hk2 hb hjl=>?_,fun q hq=>?_,h'.pinj,fun j oj hj hkj=>?_,fun j hj=>?_,fun j hj=>?_⟩
        · rw [lor_bit,Bool.or_eq_true] at hb
          obtain ⟨u1,u2⟩:=unl j hjl
          rcases hb with hb | hb
          · exact h'.once j oj hj hk1 hk2 hb u2
          · exact absurd (by simpa using hb) u1
        · obtain ⟨m1,m2,m3,m4,m5⟩:=h'.pend_ q hq
          exact ⟨m1,by rw [g1.sig _ m5];exact m2,by rw [g1.keep _ m5 m2];exact m3,m4,Nat.lt_of_lt_of_le m5 g1.next⟩
        · rw [getD_set hil,lor_bit,Bool.or_eq_true,Bool.or_eq_true]
          have:=h'.effs j oj hj hkj
          constructor
          · rintro (k | k)
            · exact .inl (this.1 k)
            · exact .inr k
          · rintro (k | k)
            · exact .inl (this.2 k)
            · exact .inr k
        · have hj':(D ||| R.getD i 0).testBit j=true:=hj
          rw [Nat.testBit_or,Bool.or_eq_true] at hj'
          rcases hj' with k | k
          · exact lst j (h'.dd j k)
          · exact lst j (hrd.pre j k)
        · rw [lor_bit,Bool.or_eq_true] at hj ⊢
          rcases hj with k | k
          · exact .inl (h'.de j k)
          · exact .inr k
      · exact absurd hkc h5
    have go:∀ x,(List.range ops.size).all (mayC ops R effM done D seg' ever' x)=true→(kindOp o.op = .eff→x=some i→wpOp Tryz.prog ops Q i (wpAny Tryz.prog .any ops Q fuel (listed.setIfInBounds i true)) a w)→wpOp Tryz.prog ops Q i (wpAny Tryz.prog .any ops Q fuel (listed.setIfInBounds i true)) a w:=by
      intro x hx he
      have hm:=may_of st h' hx hrd
      cases hk:kindOp o.op with
      | eff=>
        rw [hk,Bool.or_eq_true] at hm
        rcases hm with k | k
        · have:=(h'.effs i o hrd.at_ hk).2 k
          rw [hrd.off] at this;cases this
        · exact he hk (by simpa using k)
      | read=>
        rw [hk] at hm
        exact look1 (by rw [hk];simp) (some s') (fun s1 e=>by cases e;rfl) (h'.reads i o hrd.at_ hk hm)
      | pure=>
        rw [hk] at hm
        rcases h'.once i o hrd.at_ (by rw [hk];simp) (by rw [hk];simp) hm hrd.off with k | ⟨nm,y,k⟩
        · exact look1 (by rw [hk];simp) none (fun s1 e=>by cases e) k
        · exact flo1 (by rw [hk];simp) nm y k
      | flo=>
        rw [hk] at hm
        rcases h'.once i o hrd.at_ (by rw [hk];simp) (by rw [hk];simp) hm hrd.off with k | ⟨nm,y,k⟩
        · exact look1 (by rw [hk];simp) none (fun s1 e=>by cases e) k
        · exact flo1 (by rw [hk];simp) nm y k
    rcases hn with hn | ⟨c,ns'',oc,hn,hc,hoc,hkc⟩
    · subst hn
      have hchk:=h'.chk
      unfold goD at hchk
      exact go none hchk fun _ e=>by cases e
    · have hn':=hn
      subst hn
      obtain ⟨o2,v,s2,h1,h2,h3,h30,h4⟩:=even_facts (Q:=Q) hcf hc h'.run h'.chk h'.old
      rw [hoc] at h1;cases h1
      rcases h4 with ⟨h5,h6,h7,h8⟩ | ⟨h5,_⟩
      · exact go _ h6 fun _ e=>eff1 c ns'' oc rfl hc hoc hkc (by cases e;rfl)
      · exact absurd hkc h5
end
theorem effMask_ok:∀ (l:List Oper) (i k:Nat),(effMask l i).testBit k=true→∃ o,i≤k∧l[k - i]?=some o∧kindOp o.op = .eff
  | [],i,k,h=>by simp [effMask] at h
  | o :: l,i,k,h=>by
    have rest:(effMask l (i + 1)).testBit k=true→∃ o',i≤k∧(o :: l)[k - i]?=some o'∧kindOp o'.op = .eff:=fun h=>by
      obtain ⟨o',h1,h2,h3⟩:=effMask_ok l (i + 1) k h
      refine ⟨o',by omega,?_,h3⟩
      have e:k - i=(k - (i + 1)) + 1:=by omega
      rw [e];simpa using h2
    unfold effMask at h
    split at h
    · rename_i hk
      have h':(2 ^ i ||| effMask l (i + 1)).testBit k=true:=h
      rw [Nat.testBit_or,Nat.testBit_two_pow,Bool.or_eq_true,decide_eq_true_eq] at h'
      rcases h' with rfl | h'
      · exact ⟨o,Nat.le_refl _,by simp,hk⟩
      · exact rest h'
    · exact rest h
theorem pendAll_ok:∀ (l:List Oper) (k:Nat) (o:Oper) (d:Nat),l[k]?=some o→o.dst=some d→(pendAll l).testBit d=true
  | [],k,o,d,h,hd=>by simp at h
  | x :: l,k,o,d,h,hd=>by
    unfold pendAll
    cases k with
    | zero=>
      simp at h;subst h
      rw [hd]
      show (2 ^ d ||| pendAll l).testBit d=true
      rw [Nat.testBit_or,Nat.testBit_two_pow];simp
    | succ k=>
      have ih:=pendAll_ok l k o d (by simpa using h) hd
      cases hx:x.dst with
      | none=>exact ih
      | some e=>
        show (2 ^ e ||| pendAll l).testBit d=true
        rw [Nat.testBit_or,ih];simp
theorem uniqC_ok:∀ (l:List Oper),uniqC l=true→∀ (i j:Nat) (oi oj:Oper) (d:Nat),l[i]?=some oi→l[j]?=some oj→oi.dst=some d→oj.dst=some d→i=j
  | [],h,i,j,oi,oj,d,hi,hj,h1,h2=>by simp at hi
  | x :: l,h,i,j,oi,oj,d,hi,hj,h1,h2=>by
    unfold uniqC at h
    rw [Bool.and_eq_true] at h
    cases i with
    | zero=>cases j with
      | zero=>rfl
      | succ j=>
        simp at hi;subst hi
        rw [h1] at h
        have:=pendAll_ok l j oj d (by simpa using hj) h2
        have h0:(!(pendAll l).testBit d)=true:=h.1
        rw [this] at h0;cases h0
    | succ i=>cases j with
      | zero=>
        simp at hj;subst hj
        rw [h2] at h
        have:=pendAll_ok l i oi d (by simpa using hi) h1
        have h0:(!(pendAll l).testBit d)=true:=h.1
        rw [this] at h0;cases h0
      | succ j=>rw [uniqC_ok l h.2 i j oi oj d (by simpa using hi) (by simpa using hj) h1 h2]
theorem region_draw {cf:CallF} (hcf:Sound cf) {id:Nat} {ops:Array Oper} {nt:Nat} {ns:List Nat} {Q:Exit→Act→World→Prop} {tm:Tm} {s:St} {tm':Tm} {s':St} (hc:drawC ops ns=true) (h:drawK cf ops.toList ns tm s=some (tm',s'))
    (hd:∀ o∈ops.toList,∀ d,o.dst=some d→d < nt) (σ:Sg) (w:World) (a:Act) (hs:Sim σ s w) (ht:TmR σ tm a) (hn:nt≤a.tmps.size)
    (hQ:∀ σ' w' a',Goes σ s w σ' s' w'→TmR σ' tm' a'→nt≤a'.tmps.size→a'.defers=a.defers→Q .normal a' w'):(Code.region id ops true).wp Tryz.prog Q a w:=by
  unfold drawC at hc
  simp only [Bool.and_eq_true] at hc
  obtain ⟨⟨c1,c2⟩,c3⟩:=hc
  have st:Stat ops (masksGo [] ops.toList) (effMask ops.toList 0) nt:=⟨fun i hi=>List.all_eq_true.1 c1 i (List.mem_range.2 hi),
    fun i j oi oj d h1 h2 h3 h4=>uniqC_ok ops.toList c2 i j oi oj d (by rw [Array.getElem?_toList];exact h1) (by rw [Array.getElem?_toList];exact h2) h3 h4,
    fun k hk=>by
      obtain ⟨o,h1,h2,h3⟩:=effMask_ok ops.toList 0 k hk
      exact ⟨o,by rw [← Array.getElem?_toList];simpa using h2,h3⟩,
    fun j o d h1 h2=>hd o (Array.mem_toList_iff.2 (Array.mem_of_getElem? h1)) d h2⟩
  refine wp_region_any (by rfl) ?_
  have hfalse:∀ j,(Array.replicate ops.size false).getD j false=false:=fun j=>by
    by_cases hj:j < ops.size <;> simp [Array.getD,hj]
  have hs':Sim σ s { w with drawn:=w.drawn + 1 }:=⟨hs.obj,hs.inj,hs.new,hs.top⟩
  have hg:Goes σ s w σ s { w with drawn:=w.drawn + 1 }:=⟨hs',Nat.le_refl _,fun _ _=>rfl,fun _ _ _=>rfl,⟨rfl,rfl,rfl,Nat.le_refl _,fun _ _ _=>rfl⟩,fun _ h _=>h⟩
  refine draw_any (effM:=effMask ops.toList 0) (R:=masksGo [] ops.toList) (tm0:=tm) (tmF:=tm') (sF:=s') (σ0:=σ) (s0:=s) (w0:=w) (df:=a.defers) hcf st (fun σ' w' a' g1 g2 g3 g4=>hQ σ' w' a' g1 g2 g3 g4) ops.size (List.range ops.size) _ a _ σ s tm ns 0 0 0 0 (pendAll ops.toList) [] (by simp) (fun j hj _=>List.mem_range.2 hj)
    ⟨⟨fun j hj=>(by rw [hfalse] at hj;cases hj),fun t ht'=>?_,fun t j o hj hdst _=>ht.at _,hn,rfl,by simp⟩,h,c3,fun t _=>rfl,hg,fun j o _ _ hb=>by simp at hb,fun j o _ _ _ hb=>by simp at hb,fun q hq=>by simp at hq,fun p hp=>by simp at hp,fun j o hj hk=>by simp [hfalse],fun j hj=>by simp at hj,fun j hj=>by simp at hj⟩
  have hp : (pendAll ops.toList).testBit t=false:=by
    cases hc:(pendAll ops.toList).testBit t with
    | false=>rfl
    | true=>
      exfalso
      have key:∀ (l:List Oper),(pendAll l).testBit t=true→∃ (k:Nat) (o:Oper),l[k]?=some o∧o.dst=some t:=by
        intro l
        induction l with
        | nil=>intro h;simp [pendAll] at h
        | cons x l ih=>
          intro h
          unfold pendAll at h
          cases hx:x.dst with
          | none=>
            rw [hx] at h
            obtain ⟨k,o,h1,h2⟩:=ih h
            exact ⟨k + 1,o,by simpa using h1,h2⟩
          | some e=>
            rw [hx] at h
            have h':(2 ^ e ||| pendAll l).testBit t=true:=h
            rw [Nat.testBit_or,Nat.testBit_two_pow,Bool.or_eq_true,decide_eq_true_eq] at h'
            rcases h' with rfl | h'
            · exact ⟨0,x,rfl,hx⟩
            · obtain ⟨k,o,h1,h2⟩:=ih h'
              exact ⟨k + 1,o,by simpa using h1,h2⟩
      obtain ⟨k,o,h1,h2⟩:=key _ hc
      have:=ht' k o (by rw [← Array.getElem?_toList];exact h1) h2
      rw [hfalse] at this;cases this
  exact TmAt.same (draw_keep hcf h c3 t hp) (ht.at _)
end Go.Proofs.YtnpdcjdmbkcpbaaGreat.Ev
