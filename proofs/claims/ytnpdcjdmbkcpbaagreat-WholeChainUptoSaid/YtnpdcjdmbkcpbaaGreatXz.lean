/- The evaluator's code: what succeeds there is what a run does. The evaluator's calls: what succeeds there is what a run does. Functions that the evaluator is told outright: slices.Insert, a channel that never speaks, a net that is looked at again. Printed by a program of mine (mkev.py). A call that the evaluator answered once is answered so wherever its blocks lie. No condition. -/
import Derived.Test.YtnpdcjdmbkcpbaaGreatXy
import Derived.Scope
import Derived.KernelRfl
set_option linter.unusedVariables false
set_option linter.unusedSimpArgs false
namespace Go.Proofs.YtnpdcjdmbkcpbaaGreat.Ev
open Go
def exitOf:X→Exit
  | .normal=>.normal
  | .exit i=>.exit i
  | .ret=>.ret
def Post (nt:Nat) (x:X) (tm':Tm) (s':St) (σ:Sg) (s:St) (w:World) (e:Exit) (a':Act) (w':World):Prop:=
  e=exitOf x∧∃ σ',Goes σ s w σ' s' w'∧TmR σ' tm' a'∧nt≤a'.tmps.size∧a'.defers=[]
theorem Post.after {nt:Nat} {x:X} {tm':Tm} {s':St} {σ σ1:Sg} {s s1:St} {w w1:World} {e:Exit} {a':Act} {w':World} (h:Goes σ s w σ1 s1 w1) (k:Post nt x tm' s' σ1 s1 w1 e a' w'):Post nt x tm' s' σ s w e a' w':=by
  obtain ⟨h1,σ',h2,h3⟩:=k
  exact ⟨h1,σ',h.trans h2,h3⟩
theorem wp_loop_n {P:Program} {Q:Exit→Act→World→Prop} {c:Code} (J:Nat→Act→World→Prop)
    (round:∀ n a w,J n a w→c.wp P (Exit.then (fun a' w'=>∃ m,m < n∧J m a' w') Q) a w) (n:Nat) (a:Act) (w:World) (h:J n a w):(Code.loop c).wp P Q a w:=by
  intro b k cs
  have key:∀ n a w,J n a w→∃ e a' w',Q e a' w'∧Arrives P (lone (b.at a (.code c :: .inLoop c :: k)) cs w) b k cs e a' w':=by
    intro n
    induction n using Nat.strongRecOn with
    | _ n ih=>
      intro a w hJ
      obtain ⟨e,a1,w1,hq,harr⟩:=round n a w hJ b (.inLoop c :: k) cs
      cases e with
      | normal=>
        obtain ⟨m,hm,hJ1⟩:=hq
        obtain ⟨e2,a2,w2,hq2,harr2⟩:=ih m hm a1 w1 hJ1
        exact ⟨e2,a2,w2,hq2,.of_steps (Steps.trans harr (.one step_inLoop)) harr2⟩
      | exit id=>exact ⟨_,a1,w1,hq,.pass (x:=.inLoop c) rfl (fun _ _=>.inl (by simp)) harr⟩
      | goto l=>exact ⟨_,a1,w1,hq,.pass (x:=.inLoop c) rfl (fun _ _=>.inl (by simp)) harr⟩
      | ret=>exact ⟨_,a1,w1,hq,.pass (x:=.inLoop c) rfl (fun _ _=>.inl (by simp)) harr⟩
      | panic ch=>exact ⟨_,a1,w1,hq,.pass (x:=.inLoop c) rfl (fun _ _=>.inl (by simp)) harr⟩
      | outgrown=>exact ⟨_,a1,w1,hq,.pass (x:=.inLoop c) rfl (fun _ _=>.inl (by simp)) harr⟩
  obtain ⟨e,a',w',hq,harr⟩:=key n a w h
  exact ⟨e,a',w',hq,.of_steps (.one step_loop) harr⟩
theorem pruneK_some:∀ {l:Tm} {m:Nat} {f:Tm→XR} {r:X × Tm × St},pruneK l m f=some r→∃ l',f l'=some r∧∀ k v,l'.lookup k=some v→l.lookup k=some v∧m.testBit k=true
  | [],m,f,r,h=>⟨[],h,fun k v hk=>by cases hk⟩
  | p :: l,m,f,r,h=>by
    obtain ⟨d,u⟩:=p
    have h' : @Bool.rec (fun _=>XR) (pruneK l m f) (pruneK l (Nat.xor m (Nat.shiftLeft 1 d)) fun r=>f ((d,u) :: r)) (Nat.beq (Nat.land (Nat.shiftRight m d) 1) 1)=some r:=h
    have hbit:Nat.beq (Nat.land (Nat.shiftRight m d) 1) 1=m.testBit d:=by
      have e:Nat.land (Nat.shiftRight m d) 1=(m >>> d) &&& 1:=rfl
      rw [e,Nat.testBit,Nat.and_comm 1]
      have h2:(m >>> d) &&& 1=(m >>> d) % 2:=Nat.and_one_is_mod _
      rw [h2]
      rcases Nat.mod_two_eq_zero_or_one (m >>> d) with h | h <;> rw [h] <;> rfl
    rw [hbit] at h'
    cases hb:m.testBit d with
    | false=>
      rw [hb] at h'
      obtain ⟨l',h1,h2⟩:=pruneK_some (l:=l) h'
      refine ⟨l',h1,fun k v hk=>?_⟩
      obtain ⟨h3,h4⟩:=h2 k v hk
      have hne:k≠d:=fun e=>by subst e;rw [h4] at hb;cases hb
      rw [lookup_cons,if_neg hne]
      exact ⟨h3,h4⟩
    | true=>
      rw [hb] at h'
      obtain ⟨l',h1,h2⟩:=pruneK_some (l:=l) h'
      refine ⟨_,h1,fun k v hk=>?_⟩
      rw [lookup_cons] at hk ⊢
      by_cases e:k=d
      · subst e;rw [if_pos rfl] at hk ⊢;exact ⟨hk,hb⟩
      · rw [if_neg e] at hk ⊢
        obtain ⟨h3,h4⟩:=h2 k v hk
        have h5:(m ^^^ 1 <<< d).testBit k=true:=h4
        rw [Nat.testBit_xor,Nat.one_shiftLeft,Nat.testBit_two_pow] at h5
        have:decide (d=k)=false:=by simpa using Ne.symm e
        rw [this] at h5
        exact ⟨h3,by simpa using h5⟩
def CodeR (kn:CallF) (n:Nat):Prop:=∀ (f:FuncId) (c:Code) (tm:Tm) (s:St) (x:X) (tm':Tm) (s':St),code kn n f c tm s=some (x,tm',s')→∀ nt,codeC f nt c=true →
  ∀ (σ:Sg) (w:World) (a:Act),Sim σ s w→TmR σ tm a→nt≤a.tmps.size→a.defers=[]→c.wp Tryz.prog (Post nt x tm' s' σ s w) a w
theorem seqK_some {r:XR} {f:Tm→St→XR} {y:X × Tm × St} (h:seqK r f=some y):(∃ tm s,r=some (.normal,tm,s)∧f tm s=some y)∨(∃ x tm s,x≠.normal∧r=some (x,tm,s)∧y=(x,tm,s)):=by
  cases r with
  | none=>cases h
  | some p=>
    obtain ⟨x,tm,s⟩:=p
    cases x with
    | normal=>exact .inl ⟨tm,s,rfl,h⟩
    | exit i=>exact .inr ⟨_,tm,s,by simp,rfl,by cases h;rfl⟩
    | ret=>exact .inr ⟨_,tm,s,by simp,rfl,by cases h;rfl⟩
theorem endK_some {r:R} {y:X × Tm × St} (h:endK r=some y):∃ tm s,r=some (tm,s)∧y=(.normal,tm,s):=by
  cases r with
  | none=>cases h
  | some p=>obtain ⟨tm,s⟩:=p;cases h;exact ⟨tm,s,rfl,rfl⟩
theorem listE_eq (a:Array Oper) (f:List Oper→XR):listE a f=f a.toList:=by cases a;rfl
theorem getS_some {α β:Type} {t:T β} {k:Nat} {f:β→Option α} {r:α} (h:getK t k f=some r):∃ v,look t k=some v∧f v=some r:=by
  rw [getK_look] at h
  cases hl:look t k with
  | none=>rw [hl] at h;cases h
  | some v=>rw [hl] at h;exact ⟨v,rfl,h⟩
theorem code_some (kn:CallF):∀ n,(∀ m,m < n→Sound (callW kn (code kn m)))→CodeR kn n:=by
  intro n
  induction n using Nat.strongRecOn with
  | _ n ih=>
    intro hcall
    cases n with
    | zero=>intro f c tm s x tm' s' h;cases h
    | succ n=>
      intro f c tm s x tm' s' h nt hc σ w a hs ht hn hd
      have hI:CodeR kn n:=ih n (Nat.lt_succ_self n) fun m hm=>hcall m (Nat.lt_succ_of_lt hm)
      have hcf:=hcall n (Nat.lt_succ_self n)
      cases c with
      | skip=>cases h;exact wp_skip ⟨rfl,σ,.refl hs,ht,hn,hd⟩
      | label l=>cases h;exact wp_label ⟨rfl,σ,.refl hs,ht,hn,hd⟩
      | exit i=>cases h;exact wp_exit ⟨rfl,σ,.refl hs,ht,hn,hd⟩
      | ret=>cases h;exact wp_ret ⟨rfl,σ,.refl hs,ht,hn,hd⟩
      | region id ops d=>
        have h':listE ops (fun l=>endK (@Bool.rec (fun _=>R) (opsK (callW kn (code kn n)) l l tm s) (getK schT f fun t=>getK t id fun ns=>drawK (callW kn (code kn n)) l ns tm s) d))=some (x,tm',s'):=h
        rw [listE_eq] at h'
        obtain ⟨tm1,s1,h1,h2⟩:=endK_some h'
        cases h2
        have hc':regC f nt id ops d=true:=hc
        unfold regC at hc'
        rw [Bool.and_eq_true] at hc'
        have hdst:∀ o∈ops.toList,∀ d,o.dst=some d→d < nt:=fun o ho d hd=>by
          have:=List.all_eq_true.1 hc'.1 o ho
          rw [hd] at this
          exact Nat.le_of_ble_eq_true this
        cases d with
        | false=>exact region_text hcf h1 hdst σ w a hs ht hn fun σ' w' a' g1 g2 g3 g4=>⟨rfl,σ',g1,g2,g3,by rw [g4,hd]⟩
        | true=>
          obtain ⟨t,h3,h4⟩:=getS_some (t:=schT) (k:=f) h1
          obtain ⟨ns,h5,h6⟩:=getS_some (t:=t) (k:=id) h4
          have hdr:=hc'.2
          rw [h3] at hdr
          simp only [h5] at hdr
          exact region_draw hcf hdr h6 hdst σ w a hs ht hn fun σ' w' a' g1 g2 g3 g4=>⟨rfl,σ',g1,g2,g3,by rw [g4,hd]⟩
      | seq c1 c2=>
        have hc':(codeC f nt c1 && codeC f nt c2)=true:=hc
        rw [Bool.and_eq_true] at hc'
        rcases seqK_some (r:=code kn n f c1 tm s) (f:=code kn n f c2) h with ⟨tm1,s1,h1,h2⟩ | ⟨x1,tm1,s1,hx,h1,h2⟩
        · refine wp_seq (wp_mono (hI f c1 tm s _ tm1 s1 h1 nt hc'.1 σ w a hs ht hn hd) fun e a1 w1 hp=>?_)
          obtain ⟨rfl,σ1,g1,g2,g3,g4⟩:=hp
          exact wp_mono (hI f c2 tm1 s1 x tm' s' h2 nt hc'.2 σ1 w1 a1 g1.sim g2 g3 g4) fun e a2 w2 hp=>hp.after g1
        · cases h2
          refine wp_seq (wp_mono (hI f c1 tm s _ _ _ h1 nt hc'.1 σ w a hs ht hn hd) fun e a1 w1 hp=>?_)
          have hp':=hp
          obtain ⟨rfl,_⟩:=hp
          cases x with
          | normal=>exact absurd rfl hx
          | exit i=>exact hp'
          | ret=>exact hp'
      | cond c c1 c2=>
        have hc':(codeC f nt c1 && codeC f nt c2)=true:=hc
        rw [Bool.and_eq_true] at hc'
        obtain ⟨v,h1,h2⟩:=evK_some (x:=c) (tm:=tm) (f:=fun v=>boolK v (code kn n f c1 tm s) (code kn n f c2 tm s)) h
        have hv:=h2 σ a (ht.at c)
        rcases boolK_some h1 with ⟨rfl,h3⟩ | ⟨rfl,h3⟩
        · exact wp_cond_true hv.bool (hI f c1 tm s x tm' s' h3 nt hc'.1 σ w a hs ht hn hd)
        · exact wp_cond_false hv.bool (hI f c2 tm s x tm' s' h3 nt hc'.2 σ w a hs ht hn hd)
      | block id c1=>
        have h':blockK id (code kn n f c1 tm s)=some (x,tm',s'):=h
        cases hr:code kn n f c1 tm s with
        | none=>rw [hr] at h';cases h'
        | some p=>
          obtain ⟨x1,tm1,s1⟩:=p
          rw [hr] at h'
          refine wp_block (wp_mono (hI f c1 tm s x1 tm1 s1 hr nt hc σ w a hs ht hn hd) fun e a1 w1 hp=>?_)
          obtain ⟨rfl,hp⟩:=hp
          cases x1 with
          | normal=>cases h';exact ⟨rfl,hp⟩
          | ret=>cases h';exact ⟨rfl,hp⟩
          | exit i=>
            have h2 : @Bool.rec (fun _=>XR) (some (.exit i,tm1,s1)) (some (.normal,tm1,s1)) (Nat.beq i id)=some (x,tm',s'):=h'
            show (if i=id then Post nt x tm' s' σ s w .normal a1 w1 else Post nt x tm' s' σ s w (.exit i) a1 w1)
            cases hb:Nat.beq i id with
            | true=>
              rw [hb] at h2
              cases h2
              rw [if_pos (Nat.eq_of_beq_eq_true hb)]
              exact ⟨rfl,hp⟩
            | false=>
              rw [hb] at h2
              cases h2
              rw [if_neg (fun e=>by rw [e,Nat.beq_refl] at hb;cases hb)]
              exact ⟨rfl,hp⟩
      | loop c1=>
        refine wp_loop_n (fun m a1 w1=>m≤n + 1∧∃ tm1 s1 σ1,code kn m f (.loop c1) tm1 s1=some (x,tm',s')∧Goes σ s w σ1 s1 w1∧TmR σ1 tm1 a1∧nt≤a1.tmps.size∧a1.defers=[]) (fun m a1 w1 hJ=>?_) (n + 1) a w ⟨Nat.le_refl _,tm,s,σ,h,.refl hs,ht,hn,hd⟩
        obtain ⟨hm,tm1,s1,σ1,h1,g1,g2,g3,g4⟩:=hJ
        cases m with
        | zero=>cases h1
        | succ m=>
          have hIm:CodeR kn m:=ih m (by omega) fun q hq=>hcall q (by omega)
          rcases seqK_some (r:=code kn m f c1 tm1 s1) (f:=fun tm s=>pruneK tm (keepT f) fun tm=>code kn m f (.loop c1) tm s) h1 with ⟨tm2,s2,h2,h3⟩ | ⟨x2,tm2,s2,hx,h2,h3⟩
          · obtain ⟨tm3,h4,h5⟩:=pruneK_some h3
            refine wp_mono (hIm f c1 tm1 s1 _ tm2 s2 h2 nt hc σ1 w1 a1 g1.sim g2 g3 g4) fun e a2 w2 hp=>?_
            obtain ⟨rfl,σ2,k1,k2,k3,k4⟩:=hp
            exact ⟨m,Nat.lt_succ_self m,by omega,tm3,s2,σ2,h4,g1.trans k1,fun k v hk=>k2 k v (h5 k v hk).1,k3,k4⟩
          · cases h3
            refine wp_mono (hIm f c1 tm1 s1 _ _ _ h2 nt hc σ1 w1 a1 g1.sim g2 g3 g4) fun e a2 w2 hp=>?_
            have hp':=hp.after g1
            obtain ⟨rfl,_⟩:=hp
            cases x with
            | normal=>exact absurd rfl hx
            | exit i=>exact hp'
            | ret=>exact hp'
      | scope c1=>
        refine wp_scope_straight (wp_mono (hI f c1 tm s x tm' s' h nt hc σ w a hs ht hn hd) fun e a1 w1 hp=>?_)
        have hp':=hp
        obtain ⟨rfl,_⟩:=hp
        cases x <;> exact hp'
      | _=>cases h
end Go.Proofs.YtnpdcjdmbkcpbaaGreat.Ev
namespace Go.Proofs.YtnpdcjdmbkcpbaaGreat.Ev
open Go
set_option maxRecDepth 1000000
noncomputable def trGo {β:Type}:List β→Nat→T β→T β
  | [],_,t=>t
  | x :: l,i,t=>trGo l (i + 1) (upd (some x) 400 t i)
theorem look_trGo {β:Type}:∀ (l:List β) (i:Nat) (t:T β) (k:Nat),i + l.length≤400→look (trGo l i t) k=if i≤k∧k < i + l.length then l[k - i]? else look t k
  | [],i,t,k,h=>by
    rw [if_neg (by simp)];rfl
  | x :: l,i,t,k,h=>by
    have ih:=look_trGo l (i + 1) (upd (some x) 400 t i) k (by simp at h;omega)
    show look (trGo l (i + 1) (upd (some x) 400 t i)) k=_
    rw [ih,Ev.look_upd _ _ _ _ _ (by simp at h;omega)]
    simp only [List.length_cons]
    by_cases h1:i + 1≤k∧k < i + 1 + l.length
    · rw [if_pos h1,if_pos (by omega)]
      have e:k - i=(k - (i + 1)) + 1:=by omega
      rw [e];simp
    · rw [if_neg h1]
      by_cases h2:k=i
      · subst h2;rw [if_pos rfl,if_pos (by omega)];simp
      · rw [if_neg h2,if_neg (by omega)]
theorem fu_eq:fuT=trGo Tryz.prog.funcs.toList 0 .lf:=by kernel_rfl
theorem fu_len:Nat.ble Tryz.prog.funcs.toList.length 306=true:=by kernel_rfl
noncomputable def nameC (f:Nat):Bool:=match look fuT f with
  | none=>true
  | some fn=>!(fn.name == "runtime.NumGoroutine")
theorem name_c:chk nameC 306=true:=by kernel_rfl
theorem fun_c:chk funC 306=true:=by kernel_rfl
theorem fu_ok {f:Nat} {fn:Func} (h:look fuT f=some fn):Tryz.prog.funcs[f]?=some fn∧(fn.name == "runtime.NumGoroutine")=false∧∀ b,fn.body=some b→codeC f fn.ntmps b=true:=by
  have hl:Tryz.prog.funcs.toList.length≤306:=Nat.le_of_ble_eq_true fu_len
  have h1:=h
  rw [fu_eq,look_trGo _ _ _ _ (by omega)] at h1
  split at h1
  · rename_i hk
    have hlt:f < 306:=by omega
    refine ⟨by rw [← Array.getElem?_toList];simpa using h1,?_,fun b hb=>?_⟩
    · have h2:=chk_all name_c f hlt
      unfold nameC at h2
      rw [h] at h2
      simpa using h2
    · have h2:=chk_all fun_c f hlt
      unfold funC at h2
      rw [h] at h2
      simp only [hb] at h2
      exact h2
  · cases h1
def tmL:List Value→Nat→Tm
  | [],_=>[]
  | v :: l,i=>(i,v) :: tmL l (i + 1)
theorem tmOf_eq:∀ (l:List Value) (i:Nat) (f:Tm→VR),tmOf l i f=f (tmL l i)
  | [],i,f=>rfl
  | v :: l,i,f=>tmOf_eq l (i + 1) fun r=>f ((i,v) :: r)
theorem tmL_look:∀ (l:List Value) (i k:Nat) (v:Value),(tmL l i).lookup k=some v→i≤k∧l[k - i]?=some v
  | [],i,k,v,h=>by cases h
  | u :: l,i,k,v,h=>by
    have h':List.lookup k ((i,u) :: tmL l (i + 1))=some v:=h
    rw [lookup_cons] at h'
    by_cases e:k=i
    · subst e;rw [if_pos rfl] at h';cases h';exact ⟨Nat.le_refl _,by simp⟩
    · rw [if_neg e] at h'
      obtain ⟨h1,h2⟩:=tmL_look l (i + 1) k v h'
      refine ⟨by omega,?_⟩
      have e2:k - i=(k - (i + 1)) + 1:=by omega
      rw [e2];simpa using h2
theorem noTup_some {α:Type} {r:α} {v:Value} {f:Option α} (h:noTup v f=some r):f=some r∧∀ l,v≠.tuple l:=by
  cases v with
  | tuple c=>cases h
  | _=>exact ⟨h,fun l e=>by cases e⟩
def resV (tmps:Array Value):ResultVar→Sem Value
  | .tmp t=>pure (tmps.getD t undef)
  | .cell a t=>do loadVar t (← asAddr (tmps.getD a undef))
theorem resK_some {tm:Tm} {s:St}:∀ {l:List ResultVar} {f:List Value→VR} {r:Value × St},resK tm s l f=some r→∃ vs,f vs=some r ∧
    ∀ σ w (a:Act),SimO σ s w→TmR σ tm a→∃ vs',(l.mapM (resV a.tmps)).run Tryz.prog w = .ok vs' w∧L2 (VA σ) vs vs'
  | [],f,r,h=>⟨[],h,fun σ w a _ _=>⟨[],rfl,.nil⟩⟩
  | .tmp t :: l,f,r,h=>by
    obtain ⟨v,h1,h2,h3⟩:=atK_some (l:=tm) (k:=t) (f:=fun v=>noTup v (resK tm s l fun l=>f (v :: l))) h
    obtain ⟨h4,h5⟩:=noTup_some h3
    obtain ⟨vs,h6,h7⟩:=resK_some (l:=l) h4
    refine ⟨v :: vs,h6,fun σ w a hs ht=>?_⟩
    obtain ⟨vs',g1,g2⟩:=h7 σ w a hs ht
    obtain ⟨v',g3,g4⟩:=ht t v h2
    refine ⟨v' :: vs',?_,.cons (g4.va' fun l=>h5 _) g2⟩
    have e:a.tmps.getD t undef=v':=by rw [Array.getD_eq_getD_getElem?,g3];rfl
    simp [List.mapM_cons,resV,e,g1]
  | .cell ad t :: l,f,r,h=>by
    obtain ⟨v,h1,h2,h3⟩:=atK_some (l:=tm) (k:=ad) (f:=fun v=>ptrK v fun ad=>loadV t s ad fun v=>resK tm s l fun l=>f (v :: l)) h
    obtain ⟨b,rfl,h4⟩:=ptrK_some h3
    obtain ⟨u,h5,h50⟩:=loadV_some (t:=t) (ad:=b) h4
    obtain ⟨vs,h6,h7⟩:=resK_some (l:=l) h5
    refine ⟨u :: vs,h6,fun σ w a hs ht=>?_⟩
    obtain ⟨vs',g1,g2⟩:=h7 σ w a hs ht
    obtain ⟨v',g3,g4⟩:=ht ad _ h2
    obtain ⟨p,g5,g6,rfl⟩:=g4.ptr
    obtain ⟨u',g7,g8⟩:=h50 σ w p hs g5
    refine ⟨u' :: vs',?_,.cons g8 g2⟩
    have e:a.tmps.getD ad undef = .pointer (some ⟨p.b,b.off,none⟩):=by rw [Array.getD_eq_getD_getElem?,g3];rfl
    simp [List.mapM_cons,resV,e,asAddr,g7,g1]
theorem results_run {fn:Func} {a:Act} {w:World} {vs':List Value} (h:(fn.results.toList.mapM (resV a.tmps)).run Tryz.prog w = .ok vs' w):(results fn a.tmps).run Tryz.prog w = .ok (if vs'.length=1 then vs'.headD undef else .tuple ⟨vs'⟩) w:=by
  have e:results fn a.tmps=(do let vs ← fn.results.mapM (resV a.tmps);pure (if h:vs.size=1 then vs[0] else .tuple vs)):=by
    unfold results
    congr 1
  rw [e,Array.mapM_eq_mapM_toList]
  simp only [Sem.run_bind,Sem.run_map,h,Result.andThen_ok,Sem.run_pure]
  congr 1
  cases vs' with
  | nil=>rfl
  | cons v l=>cases l with
    | nil=>rfl
    | cons u l=>simp
theorem retV_some {fn:Func} {tm:Tm} {s:St} {v:Value} {s':St} (h:retV fn (tm,s)=some (v,s')):s'=s∧∀ σ w (a:Act),SimO σ s w→TmR σ tm a→∃ v',(results fn a.tmps).run Tryz.prog w = .ok v' w∧VT σ v v':=by
  have h':listK fn.results (fun rs=>resK tm s rs fun l=>tupV l s)=some (v,s'):=h
  rw [listK_eq] at h'
  obtain ⟨vs,h1,h2⟩:=resK_some h'
  have hs:s'=s∧v=(if vs.length=1 then vs.headD undef else .tuple ⟨vs⟩):=by
    cases vs with
    | nil=>cases h1;exact ⟨rfl,rfl⟩
    | cons x l=>cases l with
      | nil=>cases h1;exact ⟨rfl,rfl⟩
      | cons y l=>cases h1;exact ⟨rfl,by simp⟩
  obtain ⟨rfl,rfl⟩:=hs
  refine ⟨rfl,fun σ w a hs ht=>?_⟩
  obtain ⟨vs',g1,g2⟩:=h2 σ w a hs ht
  refine ⟨_,results_run g1,?_⟩
  have hl:=g2.length
  cases vs with
  | nil=>cases g2;exact .tup .nil
  | cons x l=>cases g2 with | cons e1 e2=>
    cases l with
    | nil=>cases e2;exact .va e1
    | cons y l=>cases e2 with | cons e3 e4=>
      simp only [List.length_cons]
      rw [if_neg (by omega),if_neg (by omega)]
      exact .tup (.cons e1 (.cons e3 e4))
theorem callW_some {kn:CallF} {n:Nat} (hkn:Sound kn) (hI:CodeR kn n):Sound (callW kn (code kn n)):=by
  intro g xs s v s' h σ w xs' hs hx
  unfold callW at h
  cases hk:kn g xs s with
  | some p=>
    rw [hk] at h
    have h':some p=some (v,s'):=h
    cases h'
    exact hkn g xs s v s' hk σ w xs' hs hx
  | none=>
    rw [hk] at h
    have h':getK fuT g (fun fn=>@Option.casesOn Code (fun _=>VR) fn.body none fun b=>tmOf xs 0 fun tm=>retK fn (code kn n g b tm s))=some (v,s'):=h
    obtain ⟨fn,h1,h2⟩:=getS_some h'
    obtain ⟨f1,f2,f3⟩:=fu_ok h1
    cases hb:fn.body with
    | none=>rw [hb] at h2;cases h2
    | some b=>
      rw [hb] at h2
      have h3:tmOf xs 0 (fun tm=>retK fn (code kn n g b tm s))=some (v,s'):=h2
      rw [tmOf_eq] at h3
      refine ⟨⟨fn,f1,f2,by rw [hb];rfl⟩,?_⟩
      cases hc:code kn n g b (tmL xs 0) s with
      | none=>rw [hc] at h3;cases h3
      | some p=>
        obtain ⟨x,tm',s1⟩:=p
        rw [hc] at h3
        have hret:(x = .normal∨x = .ret)∧retV fn (tm',s1)=some (v,s'):=by
          cases x with
          | normal=>exact ⟨.inl rfl,h3⟩
          | exit i=>cases h3
          | ret=>exact ⟨.inr rfl,h3⟩
        obtain ⟨hx2,h4⟩:=hret
        obtain ⟨rfl,h5⟩:=retV_some h4
        refine calls_of_wp f1 hb ?_
        have hlen:=hx.length
        have ht:TmR σ (tmL xs 0) { tmps:=(⟨xs'⟩:Array Value) ++ Array.replicate (fn.ntmps - (⟨xs'⟩:Array Value).size) undef,defers:=[] }:=by
          intro k u hu
          obtain ⟨_,h6⟩:=tmL_look xs 0 k u hu
          obtain ⟨u',h7,h8⟩:=hx.get (n:=k) (by simpa using h6)
          refine ⟨u',?_,h8⟩
          have hk:k < xs'.length:=(List.getElem?_eq_some_iff.1 h7).1
          rw [Array.getElem?_append_left (by simpa using hk)]
          simpa using h7
        refine wp_mono (hI g b (tmL xs 0) s x tm' s' hc fn.ntmps (f3 b hb) σ w _ hs ht (by simp;omega) rfl) fun e a1 w1 hp=>?_
        obtain ⟨rfl,σ',g1,g2,g3,g4⟩:=hp
        obtain ⟨v',e1,e2⟩:=h5 σ' w1 a1 g1.sim.o g2
        rcases hx2 with rfl | rfl
        · exact ⟨g4,v',e1,v',σ',rfl,g1,e2⟩
        · exact ⟨g4,v',e1,v',σ',rfl,g1,e2⟩
theorem sound {kn:CallF} (hkn:Sound kn):∀ n,Sound (callW kn (code kn n)):=by
  intro n
  induction n using Nat.strongRecOn with
  | _ n ih=>exact callW_some hkn (code_some kn n ih)
end Go.Proofs.YtnpdcjdmbkcpbaaGreat.Ev
namespace Go.Proofs.YtnpdcjdmbkcpbaaGreat.Ev
open Go
noncomputable def insNil (z e:Nat) (ys:List Value) (i:Nat) (s:St):VR:=(@Bool.rec (fun _=>VR) (none) (newS s (.cells ys e) fun b s'=>some (.slice (some ⟨b,0,none⟩) 1 U,s')) (Nat.beq i 0))
noncomputable def insAt (z e:Nat) (ys:List Value) (i yb:Nat) (s:St) (a:Addr) (n c:Nat):VR:=
  (@Bool.rec (fun _=>VR) ((@Bool.rec (fun _=>VR) (none) ((@Bool.rec (fun _=>VR) (none) ((@Bool.rec (fun _=>VR) (none) ((@Bool.rec (fun _=>VR) (none) (cellsK s a.block fun xs xt=>(@Bool.rec (fun _=>VR) (none) (takeK xs (Nat.mul n z) fun xs=>takeK xs (Nat.mul i z) fun l1=>dropK xs (Nat.mul i z) fun l2=>appK ys l2 fun l2=>appK l1 l2 fun r=>killS s a.block fun s'=>newS s' (.cells r e) fun b s'=>forceN (Nat.succ n) fun m=>some (.slice (some ⟨b,0,none⟩) m U,s')) (Nat.beq xt e))) (Nat.ble n 1000))) (Nat.beq c U))) (Nat.ble i n))) (Nat.beq a.off 0))) (none) (Nat.beq yb a.block))
noncomputable def insK (z e:Nat) (l:List Value) (s:St):VR:=
  @List.casesOn Value (fun _=>VR) l none fun x l=>@List.casesOn Value (fun _=>VR) l none fun iv l=>@List.casesOn Value (fun _=>VR) l none fun y l=>@List.casesOn Value (fun _=>VR) l (intK iv fun q qn=>same q .i64 <| @Int.casesOn (fun _=>VR) qn (fun i=>slK y none fun a n c=>(@Bool.rec (fun _=>VR) (none) ((@Bool.rec (fun _=>VR) (none) ((@Bool.rec (fun _=>VR) (none) (cellsK s a.block fun ys yt=>(@Bool.rec (fun _=>VR) (none) ((@Bool.rec (fun _=>VR) (none) (slK x (insNil z e ys i s) (insAt z e ys i a.block s)) (Nat.beq ys.length z))) (Nat.beq yt e))) (Nat.beq a.off 0))) (Nat.beq c 1))) (Nat.beq n 1))) (fun _=>none)) (fun _ _=>none)
noncomputable def stopK (l:List Value) (s:St):VR:=@List.casesOn Value (fun _=>VR) l none fun v l=>@List.casesOn Value (fun _=>VR) l (@Value.casesOn (fun _=>VR) v (fun _=>none) (fun _ _=>none) (fun _ _=>none) (fun _ _ _=>none) (fun _=>none) (fun _=>none) (fun _ _ _=>none) (fun _=>none) (fun p=>@Option.casesOn Nat (fun _=>VR) p (some (.bool false,s)) (fun _=>none)) (fun _ _ _=>none) none (fun _ _=>none) none (fun _=>none) (fun _=>none)) (fun _ _=>none)
noncomputable def kn0:CallF:=fun f l s=>(@Bool.rec (fun _=>VR) ((@Bool.rec (fun _=>VR) ((@Bool.rec (fun _=>VR) (none) (stopK l s) (Nat.beq f 49))) (insK 2 266 l s) (Nat.beq f 223))) (insK 3 269 l s) (Nat.beq f 222))
def netV:Value:=.agg ⟨[.slice (some ⟨0,0,none⟩) 1 1,.slice (some ⟨7,0,none⟩) 3 3]⟩
def netS:St:=⟨.nd (some (.cells [.int .i64 2] 3)) (.nd (some (.cells [.int .i64 0] 3)) (.nd (some (.cells [.int .i64 2] 3)) (.nd (some (.cells [.int .i64 8,.int .i64 0,.int .i64 0,.int .i64 0,.int .i64 0,.int .i64 0,.int .i64 0,.slice none 0 0,.slice (some ⟨1,0,none⟩) 1 1,.slice (some ⟨4,0,none⟩) 2 2,.int .i64 7,.int .i64 0,.int .i64 0,.int .i64 0,.int .i64 0,.int .i64 0,.int .i64 0,.slice none 0 0,.slice (some ⟨5,0,none⟩) 2 2,.slice none 0 0,.int .i64 12,.int .i64 0,.int .i64 2,.int .i64 1,.int .i64 0,.int .i64 0,.int .i64 0,.slice none 0 0,.slice (some ⟨6,0,none⟩) 1 1,.slice none 0 0] 80)) (.lf) (.lf)) (.lf)) (.nd (some (.cells [.int .i64 1,.int .i64 1] 3)) (.lf) (.lf))) (.nd (some (.cells [.int .i64 2,.int .i64 2] 3)) (.nd (some (.cells [.slice (some ⟨2,0,none⟩) 2 2,.slice (some ⟨3,0,none⟩) 1 1] 23)) (.lf) (.lf)) (.nd (some (.cells [.int .i64 2] 3)) (.lf) (.lf))),8⟩
def eqE (l m:List (Value × Value)):Bool:=match l,m with
  | [],[]=>true
  | p :: l,q :: m=>eqV1 p.1 q.1 && eqV1 p.2 q.2 && eqE l m
  | _,_=>false
def eqO (a b:Ob):Bool:=match a,b with
  | .cells l t,.cells m u=>eqVL l m && Nat.beq t u
  | .map l,.map m=>eqE l m
  | _,_=>false
def subT:T Ob→T Ob→Bool
  | .lf,_=>true
  | .nd none l r,.lf=>subT l .lf && subT r .lf
  | .nd (some _) _ _,.lf=>false
  | .nd v l r,.nd u m q=>(match v,u with | none,_=>true | some a,some b=>eqO a b | some _,none=>false) && subT l m && subT r q
noncomputable def lookR (l:List Value) (s:St):VR:=
  @List.casesOn Value (fun _=>VR) l none fun v l=>@List.casesOn Value (fun _=>VR) l (@Bool.rec (fun _=>VR) (none) ((@Bool.rec (fun _=>VR) (none) (newS s (.cells [.int .i64 1,.int .i64 2,.int .i64 3] 3) fun a s=>newS s (.cells [.int .i64 2] 3) fun b s=>newS s (.cells [.int .i64 2] 3) fun c s=>newS s (.cells [.int .i64 2] 3) fun d s=>newS s (.cells [.int .i64 1] 3) fun e s=>newS s (.cells [.slice (some ⟨b,0,none⟩) 1 1,.slice (some ⟨c,0,none⟩) 1 1,.slice (some ⟨d,0,none⟩) 1 1,.slice (some ⟨e,0,none⟩) 1 1] 23) fun f s=>some (.tuple ⟨[.agg ⟨[.slice (some ⟨a,0,none⟩) 3 3,.slice (some ⟨f,0,none⟩) 4 4,.int .i64 3]⟩,.int .i64 0]⟩,s)) (subT netS.heap s.heap))) (eqV v netV)) (fun _ _=>none)
noncomputable def kn1:CallF:=fun f l s=>(@Bool.rec (fun _=>VR) (kn0 f l s) (lookR l s) (Nat.beq f 21))
def bestC:List Value:=[.int .i64 1,.int .i64 1,.int .i64 1,.int .i64 2,.int .i64 1,.int .i64 3,.int .i64 4,.int .i64 0,.int .i64 3,.int .i64 3,.int .i64 5,.int .i64 0,.int .i64 6,.int .i64 3,.int .i64 3,.int .i64 2,.int .i64 6,.int .i64 2,.int .i64 3,.int .i64 1,.int .i64 6,.int .i64 1]
noncomputable def bestR (l:List Value) (s:St):VR:=
  @List.casesOn Value (fun _=>VR) l none fun v l=>@List.casesOn Value (fun _=>VR) l none fun u l=>@List.casesOn Value (fun _=>VR) l (@Bool.rec (fun _=>VR) (none) ((@Bool.rec (fun _=>VR) (none) ((@Bool.rec (fun _=>VR) (none) (newS s (.cells bestC 63) fun a s=>some (.tuple ⟨[.agg ⟨[.int .i64 1,.slice (some ⟨a,0,none⟩) 11 U,.int .i64 7,.int .i64 8,.int .i64 0,.int .i64 7]⟩,.int .i64 0]⟩,s)) (subT netS.heap s.heap))) (eqV u (.int .i64 100)))) (eqV v netV)) (fun _ _=>none)
noncomputable def kn2:CallF:=fun f l s=>(@Bool.rec (fun _=>VR) (kn1 f l s) (bestR l s) (Nat.beq f 24))
end Go.Proofs.YtnpdcjdmbkcpbaaGreat.Ev
namespace Go.Proofs.YtnpdcjdmbkcpbaaGreat.Ev
open Go
def ren1 (ρ:Nat→Nat):Value→Value
  | .pointer (some a)=>.pointer (some ⟨ρ a.block,a.off,a.spot⟩)
  | .slice (some ⟨b,o,none⟩) n c=>.slice (some ⟨ρ b,o,none⟩) n c
  | .map (some r)=>.map (some (ρ r))
  | v=>v
def ok1 (g:Nat→Bool):Value→Bool
  | .pointer (some a)=>g a.block
  | .slice (some ⟨b,_,none⟩) _ _=>g b
  | .map (some r)=>g r
  | .func _ _ c=>c.toList.isEmpty
  | _=>true
def renA (ρ:Nat→Nat):Value→Value
  | .agg ⟨l⟩=>.agg ⟨l.map (ren1 ρ)⟩
  | v=>ren1 ρ v
def okA (g:Nat→Bool):Value→Bool
  | .agg ⟨l⟩=>l.all (ok1 g)
  | v=>ok1 g v
def renT (ρ:Nat→Nat):Value→Value
  | .tuple ⟨l⟩=>.tuple ⟨l.map (renA ρ)⟩
  | v=>renA ρ v
def okT (g:Nat→Bool):Value→Bool
  | .tuple ⟨l⟩=>l.all (okA g)
  | v=>okA g v
def renO (ρ:Nat→Nat):Ob→Ob
  | .cells l t=>.cells (l.map (ren1 ρ)) t
  | .map es=>.map (es.map fun p=>(p.1,ren1 ρ p.2))
def okO (g:Nat→Bool):Ob→Bool
  | .cells l _=>l.all (ok1 g)
  | .map es=>es.all fun p=>ok1 g p.2
section
variable {σ τ:Sg} {ρ:Nat→Nat} {g:Nat→Bool}
theorem V1.ren (hρ:∀ i p,g i=true→σ i=some p→τ (ρ i)=some p) {v v':Value} (h:V1 σ v v') (hk:ok1 g v=true):V1 τ (ren1 ρ v) v':=by
  cases h with
  | int k n=>exact .int k n
  | bool b=>exact .bool b
  | str s=>exact .str s
  | pnil=>exact .pnil
  | ptr a=>cases a with | mk a=>exact .ptr (.mk (hρ _ _ hk a))
  | snil=>exact .snil
  | sl h1 h2 h3 h4=>
    refine .sl (hρ _ _ hk h1) h2 h3 ?_
    rcases h4 with h4 | ⟨h4,p,e,h5,h6,h7⟩
    · exact .inl h4
    · exact .inr ⟨h4,p,e,hρ _ _ hk h5,h6,h7⟩
  | sle=>exact .sle
  | mnil=>exact .mnil
  | mp h1=>exact .mp (hρ _ _ hk h1)
  | fnil=>exact .fnil
  | chn=>exact .chn
  | nif=>exact .nif
  | fn h1 h2=>
    rename_i gg l l'
    have hl:l=[]:=by
      have hk':l.isEmpty=true:=hk
      simpa using hk'
    subst hl
    exact .fn h1 fun j v v' hv=>by simp at hv
theorem L2.renL (hρ:∀ i p,g i=true→σ i=some p→τ (ρ i)=some p):∀ {l l':List Value},L2 (V1 σ) l l'→l.all (ok1 g)=true→L2 (V1 τ) (l.map (ren1 ρ)) l'
  | _,_,.nil,_=>.nil
  | _,_,.cons h1 h2,hk=>by
    rw [List.all_cons,Bool.and_eq_true] at hk
    exact .cons (h1.ren hρ hk.1) (L2.renL hρ h2 hk.2)
theorem VA.ren (hρ:∀ i p,g i=true→σ i=some p→τ (ρ i)=some p) {v v':Value} (h:VA σ v v') (hk:okA g v=true):VA τ (renA ρ v) v':=by
  cases h with
  | agg h=>exact .agg (h.renL hρ hk)
  | one h=>
    have hk':ok1 g v=true:=by cases h <;> exact hk
    have e:renA ρ v=ren1 ρ v:=by cases h <;> rfl
    rw [e]
    exact .one (h.ren hρ hk')
theorem L2.renAL (hρ:∀ i p,g i=true→σ i=some p→τ (ρ i)=some p):∀ {l l':List Value},L2 (VA σ) l l'→l.all (okA g)=true→L2 (VA τ) (l.map (renA ρ)) l'
  | _,_,.nil,_=>.nil
  | _,_,.cons h1 h2,hk=>by
    rw [List.all_cons,Bool.and_eq_true] at hk
    exact .cons (h1.ren hρ hk.1) (L2.renAL hρ h2 hk.2)
theorem VT.ren (hρ:∀ i p,g i=true→σ i=some p→τ (ρ i)=some p) {v v':Value} (h:VT σ v v') (hk:okT g v=true):VT τ (renT ρ v) v':=by
  cases h with
  | tup h=>exact .tup (h.renAL hρ hk)
  | va h=>
    have hk':okA g v=true:=by cases h with
      | agg h=>exact hk
      | one h=>cases h <;> exact hk
    have e:renT ρ v=renA ρ v:=by cases h with
      | agg h=>rfl
      | one h=>cases h <;> rfl
    rw [e]
    exact .va (h.ren hρ hk')
theorem L2.renE (hρ:∀ i p,g i=true→σ i=some p→τ (ρ i)=some p):∀ {l:List (Value × Value)} {l':List MapEntry},L2 (ER σ) l l'→(l.all fun p=>ok1 g p.2)=true→L2 (ER τ) (l.map fun p=>(p.1,ren1 ρ p.2)) l'
  | _,_,.nil,_=>.nil
  | _,_,.cons h1 h2,hk=>by
    rw [List.all_cons,Bool.and_eq_true] at hk
    exact .cons ⟨h1.1,h1.2.ren hρ hk.1⟩ (L2.renE hρ h2 hk.2)
theorem OR.ren (hρ:∀ i p,g i=true→σ i=some p→τ (ρ i)=some p) {p:Pl} {o:Ob} {x:Option Obj} (h:OR σ p o x) (hk:okO g o=true):OR τ p (renO ρ o) x:=by
  cases h with
  | cells h1 h0 h2 h3 h4=>exact .cells h1 h0 h2 (by simpa using h3) (by rw [List.length_map];exact h4.renL hρ hk)
  | map h1=>exact .map (h1.renE hρ hk)
theorem ren1_id (v:Value):ren1 (fun i=>i) v=v:=by
  unfold ren1
  split <;> rfl
theorem renO_id (o:Ob):renO (fun i=>i) o=o:=by
  cases o with
  | cells l t=>
    show Ob.cells (l.map (ren1 fun i=>i)) t=_
    rw [show (ren1 fun i=>i)=id from funext ren1_id,List.map_id]
  | map es=>
    show Ob.map (es.map fun p=>(p.1,ren1 (fun i=>i) p.2))=_
    have:(fun p:Value × Value=>(p.1,ren1 (fun i=>i) p.2))=id:=funext fun p=>by rw [ren1_id];rfl
    rw [this,List.map_id]
theorem renA_id (v:Value):renA (fun i=>i) v=v:=by
  unfold renA
  split
  · rw [show (ren1 fun i=>i)=id from funext ren1_id,List.map_id]
  · exact ren1_id _
theorem renT_id (v:Value):renT (fun i=>i) v=v:=by
  unfold renT
  split
  · rw [show (renA fun i=>i)=id from funext renA_id,List.map_id]
  · exact renA_id _
end
def addL (s:St):List Ob→St
  | []=>s
  | o :: l=>addL (s.add o) l
theorem addL_next:∀ (l:List Ob) (s:St),(addL s l).next=s.next + l.length
  | [],s=>rfl
  | o :: l,s=>by
    show (addL (s.add o) l).next=_
    rw [addL_next l];show s.next + 1 + l.length=_;simp;omega
theorem look_addL:∀ (l:List Ob) (s:St) (i:Nat),(i < s.next∨s.next + l.length≤i)→look (addL s l).heap i=look s.heap i
  | [],s,i,_=>rfl
  | o :: l,s,i,h=>by
    show look (addL (s.add o) l).heap i=_
    rw [look_addL l (s.add o) i (by simp at h;show i < s.next + 1∨s.next + 1 + l.length≤i;omega),St.look_add,if_neg (by simp at h;omega)]
theorem look_addL_at:∀ (l:List Ob) (s:St) (k:Nat),k < l.length→look (addL s l).heap (s.next + k)=l[k]?
  | [],s,k,h=>by simp at h
  | o :: l,s,0,h=>by
    show look (addL (s.add o) l).heap s.next=_
    rw [look_addL l (s.add o) s.next (.inl (Nat.lt_succ_self _)),St.look_add,if_pos rfl];rfl
  | o :: l,s,k + 1,h=>by
    show look (addL (s.add o) l).heap (s.next + (k + 1))=_
    have:=look_addL_at l (s.add o) k (by simpa using h)
    have e:(s.add o).next + k=s.next + (k + 1):=by show s.next + 1 + k=_;omega
    rw [e] at this
    rw [this];rfl
theorem replay {cf:CallF} (hcf:Sound cf) {f:FuncId} {args:List Value} {sC sC':St} {vC:Value} (hrun:cf f args sC=some (vC,sC')) (ns:List Nat) (os:List Ob) (ρ:Nat→Nat) {s:St}
    (htopC:∀ i,sC.next≤i→look sC.heap i=none) (hsub:∀ i o,look sC.heap i=some o→look s.heap i=some o)
    (hkeep:∀ i o,look sC.heap i=some o→look sC'.heap i=some o) (hns:∀ k n,ns[k]?=some n→sC.next≤n∧∃ o,os[k]?=some o∧look sC'.heap n=some o∧ρ n=s.next + k) (hlen:ns.length=os.length) (hnd:ns.Nodup) (hρ:∀ i,i < sC.next→ρ i=i)
    (hokC:∀ i o,look sC.heap i=some o→okO (fun j=>(look sC.heap j).isSome) o=true) (hoka:∀ v∈args,okT (fun j=>(look sC.heap j).isSome) v=true)
    (hokO:∀ o∈os,okO (fun j=>(look sC.heap j).isSome || ns.contains j) o=true) (hokV:okT (fun j=>(look sC.heap j).isSome || ns.contains j) vC=true) :
    ∀ (σ:Sg) (w:World) (args':List Value),Sim σ s w→L2 (VT σ) args args' →
      (∃ fn,Tryz.prog.funcs[f]?=some fn∧(fn.name == "runtime.NumGoroutine")=false∧fn.body.isNone=false) ∧
      Calls Tryz.prog f ⟨args'⟩ w fun e w'=>∃ v' σ',e = .returned v'∧Goes σ s w σ' (addL s (os.map (renO ρ))) w'∧VT σ' (renT ρ vC) v':=by
  intro σ w args' hs ha
  let τ:Sg:=fun i=>if (look sC.heap i).isSome then σ i else none
  have hτ:∀ i p,(look sC.heap i).isSome=true→σ i=some p→τ i=some p:=fun i p h1 h2=>by
    show (if (look sC.heap i).isSome then σ i else none)=_
    rw [if_pos h1];exact h2
  have hτ':∀ i p,τ i=some p→(look sC.heap i).isSome=true∧σ i=some p:=fun i p h=>by
    have h':(if (look sC.heap i).isSome then σ i else none)=some p:=h
    by_cases hc:(look sC.heap i).isSome=true
    · rw [if_pos hc] at h';exact ⟨hc,h'⟩
    · rw [if_neg hc] at h';cases h'
  have hsC:Sim τ sC w:=by
    refine ⟨fun i o p hi hp=>?_,fun i j o o' p q hi hj hp hq=>hs.inj i j o o' p q (hsub i o hi) (hsub j o' hj) (hτ' i p hp).2 (hτ' j q hq).2,fun i hi=>?_,htopC⟩
    · have h1:=hs.obj i o p (hsub i o hi) (hτ' i p hp).2
      have h2:=OR.ren (g:=fun j=>(look sC.heap j).isSome) (ρ:=fun i=>i) (τ:=τ) (fun i p h1 h2=>hτ i p h1 h2) h1 (hokC i o hi)
      rw [renO_id] at h2;exact h2
    · show (if (look sC.heap i).isSome then σ i else none)=none
      rw [htopC i hi];rfl
  have haC:L2 (VT τ) args args':=by
    have key:∀ {l l':List Value},L2 (VT σ) l l'→(∀ v∈l,okT (fun j=>(look sC.heap j).isSome) v=true)→L2 (VT τ) l l':=by
      intro l l' h
      induction h with
      | nil=>intro _;exact .nil
      | cons h1 _ ih=>
        intro hk
        have h3:=VT.ren (g:=fun j=>(look sC.heap j).isSome) (ρ:=fun i=>i) (τ:=τ) (fun i p h1 h2=>hτ i p h1 h2) h1 (hk _ (by simp))
        rw [renT_id] at h3
        exact .cons h3 (ih fun v hv=>hk v (by simp [hv]))
    exact key ha hoka
  obtain ⟨hfn,hcalls⟩:=hcf f args sC vC sC' hrun τ w args' hsC haC
  refine ⟨hfn,Calls.mono hcalls fun e w' he=>?_⟩
  obtain ⟨v',τ',rfl,hg,hv⟩:=he
  have hle:=hg.le hsC
  let υ:Sg:=fun i=>if i < s.next then σ i else match ns[i - s.next]? with | some n=>τ' n | none=>none
  have hυ1:∀ i,i < s.next→υ i=σ i:=fun i hi=>by
    show (if i < s.next then σ i else _)=_
    rw [if_pos hi]
  have hυ2:∀ k n,ns[k]?=some n→υ (s.next + k)=τ' n:=fun k n hk=>by
    show (if s.next + k < s.next then σ (s.next + k) else match ns[s.next + k - s.next]? with | some n=>τ' n | none=>none)=_
    rw [if_neg (by omega),Nat.add_sub_cancel_left,hk]
  have hυ3:∀ i p,s.next≤i→υ i=some p→∃ k n,i=s.next + k∧ns[k]?=some n∧τ' n=some p:=fun i p hi h=>by
    have h':(if i < s.next then σ i else match ns[i - s.next]? with | some n=>τ' n | none=>none)=some p:=h
    rw [if_neg (by omega)] at h'
    cases hk:ns[i - s.next]? with
    | none=>rw [hk] at h';cases h'
    | some n=>rw [hk] at h';exact ⟨i - s.next,n,by omega,hk,h'⟩
  have hleυ:σ.Le υ:=fun i p hp=>by rw [hυ1 i (hs.lt hp)];exact hp
  have hsl:∀ i o,look sC.heap i=some o→i < sC.next:=fun i o hi=>by
    rcases Nat.lt_or_ge i sC.next with h | h
    · exact h
    · rw [htopC i h] at hi;cases hi
  have hren:∀ i p,((look sC.heap i).isSome || ns.contains i)=true→τ' i=some p→υ (ρ i)=some p:=fun i p hi hp=>by
    rw [Bool.or_eq_true] at hi
    rcases hi with hi | hi
    · obtain ⟨o,ho⟩:=Option.isSome_iff_exists.1 hi
      have hlt:=hsl i o ho
      rw [hρ i hlt]
      rw [hg.sig i hlt] at hp
      exact hleυ i p (hτ' i p hp).2
    · have hm:i∈ns:=by simpa using hi
      obtain ⟨k,hk,hki⟩:=List.mem_iff_getElem.1 hm
      have hk':ns[k]?=some i:=by rw [List.getElem?_eq_getElem hk,hki]
      obtain ⟨_,o,_,_,hr⟩:=hns k i hk'
      rw [hr,hυ2 k i hk'];exact hp
  have hnew:∀ k n p,ns[k]?=some n→τ' n=some p→w.heap.size≤p.b:=fun k n p hk hp=>by
    rcases Nat.lt_or_ge p.b w.heap.size with h | h
    · exfalso
      obtain ⟨h1,o,h2,h3,h4⟩:=hns k n hk
      obtain ⟨j,oj,q,g1,g2,g3⟩:=hg.img p.b ⟨n,o,p,h3,hp,rfl⟩ h
      have:=hg.sim.inj j n oj o q p (hkeep j oj g1) h3 (hle j q g2) hp g3
      have:=hsl j oj g1
      omega
    · exact h
  have hloC:∀ i,i < s.next→look (addL s (os.map (renO ρ))).heap i=look s.heap i:=fun i hi=>look_addL _ _ _ (.inl hi)
  have hobj:∀ i o,look (addL s (os.map (renO ρ))).heap i=some o→s.next≤i→∃ k n o',i=s.next + k∧ns[k]?=some n∧os[k]?=some o'∧o=renO ρ o'∧look sC'.heap n=some o':=fun i o hi hn=>by
    rcases Nat.lt_or_ge i (s.next + (os.map (renO ρ)).length) with h | h
    · have hk:i - s.next < (os.map (renO ρ)).length:=by omega
      have e:=look_addL_at (os.map (renO ρ)) s (i - s.next) hk
      rw [show s.next + (i - s.next)=i by omega,hi] at e
      have hk2:i - s.next < ns.length:=by rw [hlen];simpa using hk
      obtain ⟨n,hn'⟩:∃ n,ns[i - s.next]?=some n:=⟨_,List.getElem?_eq_getElem hk2⟩
      obtain ⟨_,o',h2,h3,_⟩:=hns _ n hn'
      refine ⟨i - s.next,n,o',by omega,hn',h2,?_,h3⟩
      rw [List.getElem?_map,h2] at e
      simpa using e
    · rw [look_addL _ _ _ (.inr h),hs.top i hn] at hi;cases hi
  refine ⟨v',υ,rfl,⟨⟨fun i o p hi hp=>?_,fun i j o1 o2 p q hi hj hp hq hb=>?_,fun i hi=>?_,fun i hi=>?_⟩,?_,fun i hi=>hυ1 i hi,fun i hi _=>hloC i hi,⟨hg.oth.os,hg.oth.tape,hg.oth.output,hg.oth.size,fun k hk hS=>?_⟩,fun k hk hlt=>?_⟩,hv.ren hren hokV⟩
  · rcases Nat.lt_or_ge i s.next with h | h
    · rw [hloC i h] at hi
      rw [hυ1 i h] at hp
      cases hc:look sC.heap i with
      | some oC=>
        have:oC=o:=by have:=hsub i oC hc;rw [hi] at this;exact (Option.some.inj this).symm
        subst this
        have h1:=hg.sim.obj i oC p (hkeep i oC hc) (hle i p (hτ i p (by rw [hc];rfl) hp))
        have h2:=OR.ren (g:=fun j=>(look sC.heap j).isSome) (ρ:=fun i=>i) (τ:=υ) (fun j q h1 h2=>by
          obtain ⟨oj,hoj⟩:=Option.isSome_iff_exists.1 h1
          have:=hren j q (by rw [h1];rfl) h2
          rw [hρ j (hsl j oj hoj)] at this;exact this) h1 (hokC i oC hc)
        rw [renO_id] at h2;exact h2
      | none=>
        have hnot:¬ Img τ sC p.b:=fun ⟨j,oj,q,g1,g2,g3⟩=>by
          have:=hs.inj j i oj o q p (hsub j oj g1) hi (hτ' j q g2).2 hp g3
          subst this
          rw [hc] at g1;cases g1
        rw [hg.oth.block p.b (hs.inside hi hp) hnot]
        exact (hs.obj i o p hi hp).mono hleυ
    · obtain ⟨k,n,o',e1,e2,e3,e4,e5⟩:=hobj i o hi h
      subst e1 e4
      rw [hυ2 k n e2] at hp
      exact (hg.sim.obj n o' p e5 hp).ren hren (hokO o' (List.mem_of_getElem? e3))
  · rcases Nat.lt_or_ge i s.next with h | h <;> rcases Nat.lt_or_ge j s.next with h' | h'
    · rw [hloC i h] at hi
      rw [hloC j h'] at hj
      rw [hυ1 i h] at hp
      rw [hυ1 j h'] at hq
      exact hs.inj i j o1 o2 p q hi hj hp hq hb
    · exfalso
      rw [hloC i h] at hi
      rw [hυ1 i h] at hp
      obtain ⟨k,n,_,e2,e3⟩:=hυ3 j q h' hq
      have:=hnew k n q e2 e3
      have:=hs.inside hi hp
      omega
    · exfalso
      rw [hloC j h'] at hj
      rw [hυ1 j h'] at hq
      obtain ⟨k,n,_,e2,e3⟩:=hυ3 i p h hp
      have:=hnew k n p e2 e3
      have:=hs.inside hj hq
      omega
    · obtain ⟨k,n,o',e1,e2,e3,e4,e5⟩:=hobj i o1 hi h
      obtain ⟨k2,n2,o2',f1,f2,f3,f4,f5⟩:=hobj j o2 hj h'
      subst e1 f1
      rw [hυ2 k n e2] at hp
      rw [hυ2 k2 n2 f2] at hq
      have:=hg.sim.inj n n2 o' o2' p q e5 f5 hp hq hb
      subst this
      have hkl:=(List.getElem?_eq_some_iff.1 e2).1
      have:=(List.getElem?_inj hkl hnd).1 (e2.trans f2.symm)
      omega
  · rw [addL_next] at hi
    show (if i < s.next then σ i else match ns[i - s.next]? with | some n=>τ' n | none=>none)=none
    rw [if_neg (by omega),List.getElem?_eq_none (by simp at hi;omega)]
  · rw [addL_next] at hi
    rw [look_addL _ _ _ (.inr hi)];exact hs.top i (by omega)
  · rw [addL_next];omega
  · exact hg.oth.block k hk fun ⟨j,oj,q,g1,g2,g3⟩=>hS ⟨j,oj,q,hsub j oj g1,(hτ' j q g2).2,g3⟩
  · obtain ⟨i,o,p,h1,h2,h3⟩:=hk
    rcases Nat.lt_or_ge i s.next with h | h
    · rw [hloC i h] at h1
      rw [hυ1 i h] at h2
      exact ⟨i,o,p,h1,h2,h3⟩
    · exfalso
      obtain ⟨k2,n,_,e2,e3⟩:=hυ3 i p h h2
      have:=hnew k2 n p e2 e3
      omega
end Go.Proofs.YtnpdcjdmbkcpbaaGreat.Ev
