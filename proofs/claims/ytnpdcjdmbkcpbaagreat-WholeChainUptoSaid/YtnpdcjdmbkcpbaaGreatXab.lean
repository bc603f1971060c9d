/- slices.Insert and a look at a nil channel, as the evaluator is told. A net that is looked at again: what the evaluator is told of it is so. The plan of alive's net: what the evaluator is told of it is so. alive answers true, on every tape, from every world. The walk of the law WholeUnits. The walk of the law WholeChain. The law WholeChain returns true at every input of bulk at most 1048576, and leaves it as it was. No condition. -/
import Derived.Test.YtnpdcjdmbkcpbaaGreatXz
import Derived.Test.YtnpdcjdmbkcpbaaGreatXaa
import Derived.Test.YtnpdcjdmbkcpbaaGreatXr
import Derived.Test.YtnpdcjdmbkcpbaaGreatXk
import Derived.WalkKit
import Derived.ProofKit
import Derived.OpenShut
import Derived.ChangeOld
import Derived.Below
import Derived.Carry
import Derived.JoinedCond
set_option linter.unusedVariables false
set_option linter.unusedSimpArgs false
namespace Go.Proofs.YtnpdcjdmbkcpbaaGreat.Ev
open Go
section
variable {σ:Sg} {s:St} {w w':World}
theorem Sim.fresh (h:Sim σ s w) (hs:Oth (fun _=>False) w w') {o:Ob} {p:Pl} (hb:w.heap.size≤p.b) (ho:OR (σ.add s.next p) p o w'.heap[p.b]?) :
    Goes σ s w (σ.add s.next p) (s.add o) w':=by
  have hle:σ.Le (σ.add s.next p):=Sg.le_add (h.new _ (Nat.le_refl _))
  refine ⟨⟨fun i o' q hi hq=>?_,fun i j o1 o2 p1 p2 h1 h2 h3 h4 h5=>?_,fun i hi=>?_,fun i hi=>?_⟩,Nat.le_succ _,fun i hi=>Sg.add_other _ _ (Nat.ne_of_lt hi),fun i hi _=>?_,⟨hs.os,hs.tape,hs.output,hs.size,fun k hk _=>hs.block k hk id⟩,fun k hk hlt=>?_⟩
  · rw [St.look_add] at hi
    split at hi
    · rename_i e;cases hi;subst e
      rw [Sg.add_at] at hq;cases hq
      exact ho
    · rename_i e
      rw [Sg.add_other _ _ e] at hq
      rw [hs.block _ (h.inside hi hq) id]
      exact (h.obj i o' q hi hq).mono hle
  · rw [St.look_add] at h1 h2
    by_cases e1:i=s.next
    · by_cases e2:j=s.next
      · rw [e1,e2]
      · rw [if_neg e2] at h2
        rw [Sg.add_other _ _ e2] at h4
        subst e1
        rw [Sg.add_at] at h3;cases h3
        have:=h.inside h2 h4;omega
    · rw [if_neg e1] at h1
      rw [Sg.add_other _ _ e1] at h3
      by_cases e2:j=s.next
      · subst e2
        rw [Sg.add_at] at h4;cases h4
        have:=h.inside h1 h3;omega
      · rw [if_neg e2] at h2
        rw [Sg.add_other _ _ e2] at h4
        exact h.inj i j o1 o2 p1 p2 h1 h2 h3 h4 h5
  · have hi':s.next + 1≤i:=hi
    rw [Sg.add_other _ _ (by omega)];exact h.new i (by omega)
  · have hi':s.next + 1≤i:=hi
    rw [St.look_add,if_neg (by omega)];exact h.top i (by omega)
  · rw [St.look_add,if_neg (Nat.ne_of_lt hi)]
  · obtain ⟨i,o',q,h1,h2,h3⟩:=hk
    rw [St.look_add] at h1
    split at h1
    · rename_i e;subst e
      rw [Sg.add_at] at h2;cases h2;omega
    · rename_i e
      rw [Sg.add_other _ _ e] at h2
      exact ⟨i,o',q,h1,h2,h3⟩
theorem Sim.turn (h:Sim σ s w) {i:Nat} {o0 o:Ob} {p q:Pl} (hi:look s.heap i=some o0) (hp:σ i=some p) (hq:q.b=p.b∨w.heap.size≤q.b) (hs:Oth (fun k=>k=p.b) w w') (ho:OR (σ.add s.next q) q o w'.heap[q.b]?) :
    Goes σ s w (σ.add s.next q) ((s.upd i none).add o) w':=by
  rcases hq with hq | hq
  · exact h.again hi hp hq hs ho
  have hle:σ.Le (σ.add s.next q):=Sg.le_add (h.new _ (Nat.le_refl _))
  have hl:∀ j o,look ((s.upd i none).add o).heap j=if j=s.next then some o else if j=i then none else look s.heap j:=fun j o=>by
    rw [St.look_add,St.look_upd];rfl
  refine ⟨⟨fun j o' r hj hr=>?_,fun a b o1 o2 p1 p2 h1 h2 h3 h4 h5=>?_,fun j hj=>?_,fun j hj=>?_⟩,Nat.le_succ _,fun j hj=>Sg.add_other _ _ (Nat.ne_of_lt hj),fun j hj hn=>?_,⟨hs.os,hs.tape,hs.output,hs.size,fun k hk hS=>hs.block k hk fun e=>hS ⟨i,o0,p,hi,hp,e.symm⟩⟩,fun k hk hlt=>?_⟩
  · rw [hl] at hj
    split at hj
    · rename_i e;cases hj;subst e
      rw [Sg.add_at] at hr;cases hr
      exact ho
    · rename_i e
      split at hj
      · cases hj
      · rename_i e2
        rw [Sg.add_other _ _ e] at hr
        rw [hs.block _ (h.inside hj hr) (fun e3=>e2 (h.inj j i o' o0 r p hj hi hr hp e3))]
        exact (h.obj j o' r hj hr).mono hle
  · rw [hl] at h1 h2
    by_cases e1:a=s.next
    · by_cases e2:b=s.next
      · rw [e1,e2]
      · rw [if_neg e2] at h2
        split at h2
        · cases h2
        · rw [Sg.add_other _ _ e2] at h4
          subst e1
          rw [Sg.add_at] at h3;cases h3
          have:=h.inside h2 h4;omega
    · rw [if_neg e1] at h1
      split at h1
      · cases h1
      · rw [Sg.add_other _ _ e1] at h3
        by_cases e2:b=s.next
        · subst e2
          rw [Sg.add_at] at h4;cases h4
          have:=h.inside h1 h3;omega
        · rw [if_neg e2] at h2
          split at h2
          · cases h2
          · rw [Sg.add_other _ _ e2] at h4
            exact h.inj a b o1 o2 p1 p2 h1 h2 h3 h4 h5
  · have hj':s.next + 1≤j:=hj
    rw [Sg.add_other _ _ (by omega)];exact h.new j (by omega)
  · have hj':s.next + 1≤j:=hj
    have hlt:=h.lt hp
    rw [hl,if_neg (by omega),if_neg (by omega)];exact h.top j (by omega)
  · rw [hl,if_neg (Nat.ne_of_lt hj),if_neg (fun e=>by subst e;rw [hp] at hn;cases hn)]
  · obtain ⟨j,o',r,h1,h2,h3⟩:=hk
    rw [hl] at h1
    split at h1
    · rename_i e;subst e
      rw [Sg.add_at] at h2;cases h2;omega
    · rename_i e
      rw [Sg.add_other _ _ e] at h2
      split at h1
      · cases h1
      · exact ⟨j,o',r,h1,h2,h3⟩
end
structure InsR (f:FuncId) (z e:Nat):Prop where
  any:∀ (g n cap i vb:Nat) (xs new:List Value) (w:World),Ins.Row e z g n cap xs w→new.length=z→(∃ cv:Array Value,w.heap[vb]?=some (.cells cv e (0,0))∧∀ (j:Nat) (v:Value),new[j]?=some v→cv[j]?=some v)→vb≠g→(∀ v∈xs,v.oneCell'=true)→(∀ v∈new,v.oneCell'=true)→n≤1000→i≤n →
    Calls Tryz.prog f #[.slice (some ⟨g,0,none⟩) n cap,.int .i64 i,.slice (some ⟨vb,0,none⟩) 1 1] w fun r w'=>∃ g' cap',r = .returned (.slice (some ⟨g',0,none⟩) (n + 1) cap')∧Ins.Row e z g' (n + 1) cap' (xs.take (i * z) ++ (new ++ xs.drop (i * z))) w'∧Ins.Oth [g] w w'∧(g'=g∨w.heap.size≤g')
  nil:∀ (vb:Nat) (new:List Value) (w:World),new.length=z→(∃ cv:Array Value,w.heap[vb]?=some (.cells cv e (0,0))∧∀ (j:Nat) (v:Value),new[j]?=some v→cv[j]?=some v)→(∀ v∈new,v.oneCell'=true) →
    Calls Tryz.prog f #[.slice none 0 0,.int .i64 0,.slice (some ⟨vb,0,none⟩) 1 1] w fun r w'=>∃ g' cap',r = .returned (.slice (some ⟨g',0,none⟩) 1 cap')∧Ins.Row e z g' 1 cap' new w'∧Ins.Oth [] w w'∧w.heap.size≤g'
  fn:∃ fn,Tryz.prog.funcs[f]?=some fn∧(fn.name == "runtime.NumGoroutine")=false∧fn.body.isNone=false
  size:sizeT e=z
  pos:0 < z
theorem fn_of {f:Nat} (h:(match look fuT f with | none=>false | some fn=>!fn.body.isNone)=true):∃ fn,Tryz.prog.funcs[f]?=some fn∧(fn.name == "runtime.NumGoroutine")=false∧fn.body.isNone=false:=by
  cases hl:look fuT f with
  | none=>rw [hl] at h;cases h
  | some fn=>
    rw [hl] at h
    obtain ⟨h1,h2,_⟩:=fu_ok hl
    exact ⟨fn,h1,h2,by simpa using h⟩
theorem ins3:InsR 222 3 269:=by
  refine ⟨fun g n cap i vb xs new w hr hl hv hne h1 h2 hn hi=>?_,fun vb new w hl hv h2=>?_,fn_of (by kernel_rfl),by kernel_rfl,by decide⟩
  · match new,hl with
    | [a,b,c],_=>
      obtain ⟨cv,hv,hj⟩:=hv
      refine (Ins.insert_any g n cap i vb xs a b c w hr ⟨cv,hv,hj 0 a rfl,hj 1 b rfl,hj 2 c rfl⟩ hne h1 (h2 a (by simp)) (h2 b (by simp)) (h2 c (by simp)) hn hi).mono ?_
      rintro r w' ⟨g',cap',e1,e2,e3,e4⟩
      exact ⟨g',cap',e1,e2,e3,e4⟩
  · match new,hl with
    | [a,b,c],_=>
      obtain ⟨cv,hv,hj⟩:=hv
      exact Ins.insert_nil vb a b c w ⟨cv,hv,hj 0 a rfl,hj 1 b rfl,hj 2 c rfl⟩ (h2 a (by simp)) (h2 b (by simp)) (h2 c (by simp))
theorem oth2 {S:List Nat} {w w':World} (h:Ins2.Oth S w w'):Ins.Oth S w w':=⟨h.os,h.tape,h.output,h.size,h.block⟩
theorem ins2:InsR 223 2 266:=by
  refine ⟨fun g n cap i vb xs new w hr hl hv hne h1 h2 hn hi=>?_,fun vb new w hl hv h2=>?_,fn_of (by kernel_rfl),by kernel_rfl,by decide⟩
  · match new,hl with
    | [a,b],_=>
      obtain ⟨cv,hv,hj⟩:=hv
      refine (Ins2.insert_any_ii g n cap i vb xs a b w hr ⟨cv,hv,hj 0 a rfl,hj 1 b rfl⟩ hne h1 (h2 a (by simp)) (h2 b (by simp)) hn hi).mono ?_
      rintro r w' ⟨g',cap',e1,e2,e3,e4⟩
      exact ⟨g',cap',e1,e2,oth2 e3,e4⟩
  · match new,hl with
    | [a,b],_=>
      obtain ⟨cv,hv,hj⟩:=hv
      refine (Ins2.insert_nil vb a b w ⟨cv,hv,hj 0 a rfl,hj 1 b rfl⟩ (h2 a (by simp)) (h2 b (by simp))).mono ?_
      rintro r w' ⟨g',cap',e1,e2,e3,e4⟩
      exact ⟨g',cap',e1,e2,oth2 e3,e4⟩
theorem row_or {σ:Sg} {e z g n cap:Nat} {xs xs':List Value} {w:World} (hr:Ins.Row e z g n cap xs' w) (hz:sizeT e=z) (h0:0 < z) (hx:L2 (V1 σ) xs xs'):OR σ ⟨g,cap,z⟩ (.cells xs e) w.heap[g]?∧n≤cap∧cap < U:=by
  obtain ⟨cur,h1,h2,h3,h4,h5,h6⟩:=hr
  rw [h1]
  have hle:n * z≤cap * z:=Nat.mul_le_mul_right _ h2
  have hlx:=hx.length
  refine ⟨.cells h4 hz.symm h0 (by omega) ?_,h2,by unfold maxLen at h3;unfold U;omega⟩
  have:cur.toList.take xs.length=xs':=by
    apply List.ext_getElem?
    intro j
    rw [List.getElem?_take]
    by_cases hj:j < n * z
    · rw [if_pos (by omega),Array.getElem?_toList,h6 j hj]
    · rw [if_neg (by omega),List.getElem?_eq_none (by omega)]
  rw [this];exact hx
theorem insK_sound {f z e:Nat} (H:InsR f z e) {l:List Value} {s:St} {v:Value} {s':St} (h:insK z e l s=some (v,s')):∀ (σ:Sg) (w:World) (l':List Value),Sim σ s w→L2 (VT σ) l l' →
    Calls Tryz.prog f ⟨l'⟩ w fun e w'=>∃ v' σ',e = .returned v'∧Goes σ s w σ' s' w'∧VT σ' v v':=by
  intro σ w l' hs hl
  cases hl with
  | nil=>cases h
  | cons a1 hl=>cases hl with
    | nil=>cases h
    | cons a2 hl=>cases hl with
      | nil=>cases h
      | cons a3 hl=>cases hl with
        | cons _ _=>cases h
        | nil =>
          rename_i x x' iv iv' y y'
          have h1:intK iv (fun q qn=>same q .i64 <| @Int.casesOn (fun _=>VR) qn (fun i=>slK y none fun a n c=>@Bool.rec (fun _=>VR) none (@Bool.rec (fun _=>VR) none (@Bool.rec (fun _=>VR) none (cellsK s a.block fun ys yt=>@Bool.rec (fun _=>VR) none (@Bool.rec (fun _=>VR) none (slK x (insNil z e ys i s) (insAt z e ys i a.block s)) (Nat.beq ys.length z)) (Nat.beq yt e)) (Nat.beq a.off 0)) (Nat.beq c 1)) (Nat.beq n 1)) (fun _=>none))=some (v,s'):=h
          obtain ⟨q,qn,rfl,h2⟩:=intK_some h1
          obtain ⟨rfl,h3⟩:=same_some h2
          cases qn with
          | negSucc _=>cases h3
          | ofNat i=>
            rcases slK_some h3 with ⟨_,h4⟩ | ⟨yb,yo,yn,yc,rfl,h4⟩
            · cases h4
            obtain ⟨c1,h4⟩:=bif_some h4
            obtain ⟨c2,h4⟩:=bif_some h4
            obtain ⟨c3,h4⟩:=bif_some h4
            have c1:=Nat.eq_of_beq_eq_true c1
            have c2:=Nat.eq_of_beq_eq_true c2
            have c3:yo=0:=Nat.eq_of_beq_eq_true c3
            subst c1 c2 c3
            obtain ⟨ys,yt,h5,h6⟩:=cellsK_some h4
            obtain ⟨c4,h6⟩:=bif_some h6
            obtain ⟨c5,h6⟩:=bif_some h6
            have c4:=Nat.eq_of_beq_eq_true c4
            have c5:=Nat.eq_of_beq_eq_true c5
            subst c4
            rw [a2.int]
            obtain ⟨py,cy,k1,k2,k3,k4,rfl⟩:=a3.sl
            have hcy:cy=1:=by
              rcases k4 with ⟨e,_⟩ | ⟨e,_⟩
              · exact e.symm
              · exact absurd e (by unfold U;omega)
            subst hcy
            have h5':look s.heap yb=some (.cells ys yt):=h5
            obtain ⟨cv,ty,m1,m2,m3,m4,m5,m6,m7⟩:=hs.o.cells h5' k1
            subst m2
            have hnew:(cv.toList.take ys.length).length=z:=by rw [← m7.length];exact c5
            have hv:∃ cv:Array Value,w.heap[py.b]?=some (.cells cv ty (0,0))∧∀ (j:Nat) (v:Value),(cv.toList.take ys.length)[j]?=some v→cv[j]?=some v:=⟨cv,m1,fun j v hj=>by
              rw [List.getElem?_take] at hj
              split at hj
              · rwa [Array.getElem?_toList] at hj
              · cases hj⟩
            obtain ⟨cv,m1',hcvj⟩:=hv
            rw [m1] at m1';cases m1'
            rcases slK_some h6 with ⟨rfl,h7⟩ | ⟨xb,xo,xn,xc,rfl,h7⟩
            · obtain ⟨c6,h77⟩:=bif_some h7
              have c6:=Nat.eq_of_beq_eq_true c6
              subst c6
              rw [newS_eq] at h77
              cases h77
              rw [a1.snil]
              refine Calls.mono (H.nil py.b _ w hnew ⟨_,m1,hcvj⟩ m7.oneCells) ?_
              rintro r w' ⟨g',cap',rfl,e2,e3,e4⟩
              have hle:σ.Le (σ.add s.next ⟨g',cap',z⟩):=Sg.le_add (hs.new _ (Nat.le_refl _))
              obtain ⟨o1,o2,o3⟩:=row_or e2 H.size H.pos (m7.mono fun _ _=>V1.mono hle)
              refine ⟨_,_,rfl,hs.fresh (p:=⟨g',cap',z⟩) ⟨e3.os,e3.tape,e3.output,e3.size,fun k hk _=>e3.block k hk (by simp)⟩ e4 o1,?_⟩
              exact .va (.one (.sl (Sg.add_at _ _ _) o2 o3 (.inr ⟨rfl,_,0,Sg.add_at _ _ _,by simp,by simp⟩)))
            · unfold insAt at h7
              cases hbb:Nat.beq yb xb with
              | true=>
                have h7' : @Bool.rec (fun _=>VR) _ none (Nat.beq yb xb)=some (v,s'):=h7
                rw [hbb] at h7';cases h7'
              | false =>
                have h7' : @Bool.rec (fun _=>VR) _ none (Nat.beq yb xb)=some (v,s'):=h7
                rw [hbb] at h7'
                obtain ⟨d1,h81⟩:=bif_some h7'
                obtain ⟨d2,h82⟩:=bif_some h81
                obtain ⟨d3,h83⟩:=bif_some h82
                obtain ⟨d4,h84⟩:=bif_some h83
                have d1:xo=0:=Nat.eq_of_beq_eq_true d1
                have d2:i≤xn:=Nat.le_of_ble_eq_true d2
                have d3:xc=U:=Nat.eq_of_beq_eq_true d3
                have d4:xn≤1000:=Nat.le_of_ble_eq_true d4
                subst d1 d3
                obtain ⟨vs,xt,h9,h10⟩:=cellsK_some h84
                obtain ⟨d5,h10⟩:=bif_some h10
                have d5:=Nat.eq_of_beq_eq_true d5
                obtain ⟨d6,h11⟩:=takeK_some h10
                obtain ⟨d7,h12⟩:=takeK_some h11
                obtain ⟨d8,h13⟩:=dropK_some h12
                rw [appK_eq,appK_eq,killS_eq,newS_eq,forceN_eq] at h13
                cases h13
                obtain ⟨p,cx,j1,j2,j3,j4,rfl⟩:=a1.sl
                have h9':look s.heap xb=some (.cells vs xt):=h9
                obtain ⟨cc,tx,n1,n2,n3,n4,n5,n6,n7⟩:=hs.o.cells h9' j1
                subst n2
                have hpz:p.z=z:=by rw [n4,d5];exact H.size
                have hcap:cx=p.cap:=by
                  rcases j4 with ⟨e,h⟩ | ⟨_,q,e,h5,h6,h7⟩
                  · rw [← e] at j3;exact absurd j3 (Nat.lt_irrefl _)
                  · rw [j1] at h5;cases h5
                    have:e=0:=by
                      rcases Nat.mul_eq_zero.1 h6.symm with h | h
                      · exact h
                      · omega
                    omega
                have hne:py.b≠p.b:=fun e=>by
                  have:=hs.inj yb xb _ _ py p h5' h9' k1 j1 e
                  subst this
                  rw [Nat.beq_refl] at hbb;cases hbb
                have d6:xn * z≤vs.length:=d6
                have hxs:(cc.toList.take (xn * z)).length=xn * z:=by
                  rw [List.length_take];simp;omega
                have hrow:Ins.Row ty z p.b xn cx (cc.toList.take (xn * z)) w:=by
                  refine ⟨cc,by rw [← d5];exact n1,j2,by unfold maxLen;unfold U at j3;omega,by rw [n3,hcap,hpz],hxs,fun j hj=>?_⟩
                  rw [List.getElem?_take,if_pos hj,Array.getElem?_toList]
                have hrel:L2 (V1 σ) (vs.take (xn * z)) (cc.toList.take (xn * z)):=by
                  have:=n7.take (xn * z)
                  rwa [List.take_take,Nat.min_eq_left d6] at this
                refine Calls.mono (H.any p.b xn cx i py.b (cc.toList.take (xn * z)) _ w hrow hnew ⟨_,m1,hcvj⟩ hne hrel.oneCells m7.oneCells d4 d2) ?_
                rintro r w' ⟨g',cap',rfl,e2,e3,e4⟩
                have hle:σ.Le (σ.add s.next ⟨g',cap',z⟩):=Sg.le_add (hs.new _ (Nat.le_refl _))
                have hr2:L2 (V1 σ) ((vs.take (xn * z)).take (i * z) ++ (ys ++ (vs.take (xn * z)).drop (i * z))) ((cc.toList.take (xn * z)).take (i * z) ++ (cv.toList.take ys.length ++ (cc.toList.take (xn * z)).drop (i * z))):=
                  (hrel.take _).append (m7.append (hrel.drop _))
                obtain ⟨o1,o2,o3⟩:=row_or e2 H.size H.pos (hr2.mono fun _ _=>V1.mono hle)
                refine ⟨_,_,rfl,hs.turn (q:=⟨g',cap',z⟩) h9' j1 e4 ⟨e3.os,e3.tape,e3.output,e3.size,fun k hk hne=>e3.block k hk (by simpa using hne)⟩ o1,?_⟩
                exact .va (.one (.sl (Sg.add_at _ _ _) o2 o3 (.inr ⟨rfl,_,0,Sg.add_at _ _ _,by simp,by simp⟩)))
theorem kn0_sound:Sound kn0:=by
  intro g xs s v s' h σ w xs' hs hx
  unfold kn0 at h
  cases h1:Nat.beq g 222 with
  | true=>
    rw [h1] at h
    have e:=Nat.eq_of_beq_eq_true h1
    subst e
    exact ⟨ins3.fn,insK_sound ins3 h σ w xs' hs hx⟩
  | false =>
    rw [h1] at h
    cases h2:Nat.beq g 223 with
    | true=>
      have h' : @Bool.rec (fun _=>VR) _ (insK 2 266 xs s) (Nat.beq g 223)=some (v,s'):=h
      rw [h2] at h'
      have e:=Nat.eq_of_beq_eq_true h2
      subst e
      exact ⟨ins2.fn,insK_sound ins2 h' σ w xs' hs hx⟩
    | false =>
      have h' : @Bool.rec (fun _=>VR) (@Bool.rec (fun _=>VR) none (stopK xs s) (Nat.beq g 49)) (insK 2 266 xs s) (Nat.beq g 223)=some (v,s'):=h
      rw [h2] at h'
      obtain ⟨h3,h4⟩:=bif_some h'
      have e:=Nat.eq_of_beq_eq_true h3
      subst e
      refine ⟨fn_of (by kernel_rfl),?_⟩
      cases hx with
      | nil=>cases h4
      | cons a1 a2=>
        rename_i x x' l l'
        cases a2 with
        | cons _ _=>cases h4
        | nil =>
          cases x with
          | chan o=>
            cases o with
            | some _=>cases h4
            | none=>
              have h5:some (Value.bool false,s)=some (v,s'):=h4
              cases h5
              have ex:x' = .chan none:=by
                cases a1 with | va a1=>cases a1 with | one a1=>cases a1;rfl
              subst ex
              refine Calls.mono (Ins.stopped_nil w) ?_
              rintro r w' ⟨rfl,rfl⟩
              exact ⟨.bool false,σ,rfl,.refl hs,VT.tf _ _⟩
          | _=>cases h4
end Go.Proofs.YtnpdcjdmbkcpbaaGreat.Ev
namespace Go.Proofs.YtnpdcjdmbkcpbaaGreat.Ev
open Go
set_option maxRecDepth 1000000
theorem eqE_ok:∀ {l m:List (Value × Value)},eqE l m=true→l=m
  | [],[],_=>rfl
  | p :: l,q :: m,h=>by
    simp only [eqE,Bool.and_eq_true] at h
    obtain ⟨⟨h1,h2⟩,h3⟩:=h
    rw [eqE_ok h3,Prod.ext (eqV1_ok h1) (eqV1_ok h2)]
  | [],_ :: _,h=>by simp [eqE] at h
  | _ :: _,[],h=>by simp [eqE] at h
theorem eqO_ok {a b:Ob} (h:eqO a b=true):a=b:=by
  unfold eqO at h
  split at h
  · rw [Bool.and_eq_true] at h
    rw [eqVL_ok h.1,Nat.eq_of_beq_eq_true h.2]
  · rw [eqE_ok h]
  · cases h
theorem subT_ok:∀ {t u:T Ob},subT t u=true→∀ i o,look t i=some o→look u i=some o
  | .lf,u,h,i,o,hi=>by cases hi
  | .nd none l r,.lf,h,i,o,hi=>by
    rw [subT,Bool.and_eq_true] at h
    rw [look_nd] at hi
    split at hi
    · cases hi
    · split at hi
      · have:=subT_ok h.2 _ o hi;cases this
      · have:=subT_ok h.1 _ o hi;cases this
  | .nd (some v) l r,.lf,h,i,o,hi=>by simp [subT] at h
  | .nd v l r,.nd u m q,h,i,o,hi=>by
    have h':((match v,u with | none,_=>true | some a,some b=>eqO a b | some _,none=>false) && subT l m && subT r q)=true:=by cases v <;> cases u <;> exact h
    rw [Bool.and_eq_true,Bool.and_eq_true] at h'
    obtain ⟨⟨h1,h2⟩,h3⟩:=h'
    rw [look_nd] at hi ⊢
    split at hi
    · rename_i e
      rw [if_pos e]
      subst hi
      cases u with
      | none=>cases h1
      | some b=>rw [eqO_ok h1]
    · rename_i e
      rw [if_neg e]
      split at hi
      · rename_i e2;rw [if_pos e2];exact subT_ok h3 _ o hi
      · rename_i e2;rw [if_neg e2];exact subT_ok h2 _ o hi
def eqAL (l m:List Value):Bool:=match l,m with
  | [],[]=>true
  | u :: l,v :: m=>eqV u v && eqAL l m
  | _,_=>false
def eqT (u v:Value):Bool:=match u,v with
  | .tuple ⟨l⟩,.tuple ⟨m⟩=>eqAL l m
  | u,v=>eqV u v
theorem eqAL_ok:∀ {l m:List Value},eqAL l m=true→l=m
  | [],[],_=>rfl
  | u :: l,v :: m,h=>by
    simp only [eqAL,Bool.and_eq_true] at h
    rw [eqV_ok h.1,eqAL_ok h.2]
  | [],_ :: _,h=>by simp [eqAL] at h
  | _ :: _,[],h=>by simp [eqAL] at h
theorem eqT_ok {u v:Value} (h:eqT u v=true):u=v:=by
  unfold eqT at h
  split at h
  · rw [eqAL_ok h]
  · exact eqV_ok h
def allT (f:Ob→Bool):T Ob→Bool
  | .lf=>true
  | .nd v l r=>v.all f && allT f l && allT f r
theorem allT_ok {f:Ob→Bool}:∀ {t:T Ob},allT f t=true→∀ i o,look t i=some o→f o=true
  | .lf,h,i,o,hi=>by cases hi
  | .nd v l r,h,i,o,hi=>by
    have h':(v.all f && allT f l && allT f r)=true:=h
    rw [Bool.and_eq_true,Bool.and_eq_true] at h'
    obtain ⟨⟨h1,h2⟩,h3⟩:=h'
    rw [look_nd] at hi
    split at hi
    · subst hi;simpa using h1
    · split at hi
      · exact allT_ok h3 _ o hi
      · exact allT_ok h2 _ o hi
noncomputable def ansC (r:VR) (v:Value) (s:St) (ps:List (Nat × Ob)):Bool:=@Option.casesOn (Value × St) (fun _=>Bool) r false fun p=>@Prod.casesOn Value St (fun _=>Bool) p fun v1 s1=>
  eqT v1 v && subT s.heap s1.heap && ps.all fun p=>match look s1.heap p.1 with | none=>false | some o=>eqO o p.2
theorem ansC_ok {r:VR} {v:Value} {s:St} {ps:List (Nat × Ob)} (h:ansC r v s ps=true):∃ s1,r=some (v,s1)∧(∀ i o,look s.heap i=some o→look s1.heap i=some o)∧∀ p∈ps,look s1.heap p.1=some p.2:=by
  cases r with
  | none=>cases h
  | some p=>
    obtain ⟨v1,s1⟩:=p
    have h':(eqT v1 v && subT s.heap s1.heap && ps.all fun p=>match look s1.heap p.1 with | none=>false | some o=>eqO o p.2)=true:=h
    rw [Bool.and_eq_true,Bool.and_eq_true] at h'
    obtain ⟨⟨h1,h2⟩,h3⟩:=h'
    refine ⟨s1,by rw [eqT_ok h1],subT_ok h2,fun p hp=>?_⟩
    have:=List.all_eq_true.1 h3 p hp
    cases hl:look s1.heap p.1 with
    | none=>rw [hl] at this;cases this
    | some o=>rw [hl] at this;rw [eqO_ok this]
theorem net_top:∀ i,netS.next≤i→look netS.heap i=none:=fun i hi=>by
  cases hl:look netS.heap i with
  | none=>rfl
  | some o=>
    have:=keys_c netS.heap 1 0 8 (by kernel_rfl) i o hl
    have h8:netS.next=8:=rfl
    omega
noncomputable def netG (j:Nat):Bool:=(look netS.heap j).isSome
theorem net_ok:∀ i o,look netS.heap i=some o→okO netG o=true:=allT_ok (t:=netS.heap) (by kernel_rfl)
theorem netV_ok:okT netG netV=true:=by kernel_rfl
theorem net_call {cf:CallF} (hcf:Sound cf) {f:FuncId} {more:List Value} {vC:Value} (ps:List (Nat × Ob)) (hrun:ansC (cf f (netV :: more) netS) vC netS ps=true) (hmore:more.all (okT netG)=true) (hn:(ps.map (·.1)).Nodup) (hge:∀ p∈ps,8≤p.1)
    (hokO:∀ p∈ps,okO (fun j=>netG j || (ps.map (·.1)).contains j) p.2=true) (hokV:okT (fun j=>netG j || (ps.map (·.1)).contains j) vC=true)
    {s:St} (hsub:∀ i o,look netS.heap i=some o→look s.heap i=some o) (ρ:Nat→Nat) (hρ:∀ i,i < 8→ρ i=i) (hρ2:∀ (k:Nat) (p:Nat × Ob),ps[k]?=some p→ρ p.1=s.next + k) :
    ∀ (σ:Sg) (w:World) (args':List Value),Sim σ s w→L2 (VT σ) (netV :: more) args' →
      (∃ fn,Tryz.prog.funcs[f]?=some fn∧(fn.name == "runtime.NumGoroutine")=false∧fn.body.isNone=false) ∧
      Calls Tryz.prog f ⟨args'⟩ w fun e w'=>∃ v' σ',e = .returned v'∧Goes σ s w σ' (addL s ((ps.map (·.2)).map (renO ρ))) w'∧VT σ' (renT ρ vC) v':=by
  obtain ⟨s1,h1,h2,h3⟩:=ansC_ok hrun
  have hokV':okT (fun j=>(look netS.heap j).isSome || (ps.map (·.1)).contains j) vC=true:=hokV
  refine replay hcf h1 (ps.map (·.1)) (ps.map (·.2)) ρ net_top hsub h2 (fun k n hk=>?_) (by simp) hn (fun i hi=>hρ i hi) net_ok (fun v hv=>?_) (fun o ho=>?_) hokV'
  · rw [List.getElem?_map] at hk
    cases hp:ps[k]? with
    | none=>rw [hp] at hk;cases hk
    | some p=>
      rw [hp] at hk
      have:p.1=n:=by simpa using hk
      subst this
      have hm:=List.mem_of_getElem? hp
      exact ⟨hge p hm,p.2,by rw [List.getElem?_map,hp];rfl,h3 p hm,hρ2 k p hp⟩
  · rcases List.mem_cons.1 hv with rfl | hv
    · exact netV_ok
    · exact List.all_eq_true.1 hmore v hv
  · obtain ⟨p,hp,rfl⟩:=List.mem_map.1 ho
    exact hokO p hp
noncomputable def cf0:CallF:=callW kn0 (code kn0 100000)
theorem cf0_sound:Sound cf0:=sound kn0_sound 100000
def lookPs:List (Nat × Ob):=[(58,.cells [.int .i64 1,.int .i64 2,.int .i64 3] 3),(66,.cells [.int .i64 2] 3),(108,.cells [.int .i64 2] 3),(147,.cells [.int .i64 2] 3),(186,.cells [.int .i64 1] 3),
  (65,.cells [.slice (some ⟨66,0,none⟩) 1 1,.slice (some ⟨108,0,none⟩) 1 1,.slice (some ⟨147,0,none⟩) 1 1,.slice (some ⟨186,0,none⟩) 1 1] 23)]
def lookV:Value:=.tuple ⟨[.agg ⟨[.slice (some ⟨58,0,none⟩) 3 3,.slice (some ⟨65,0,none⟩) 4 4,.int .i64 3]⟩,.int .i64 0]⟩
theorem look_run:ansC (cf0 21 [netV] netS) lookV netS lookPs=true:=by kernel_rfl
def lookN (m:Nat):Nat→Nat
  | 58=>m
  | 66=>m + 1
  | 108=>m + 2
  | 147=>m + 3
  | 186=>m + 4
  | 65=>m + 5
  | i=>i
theorem lookR_some {l:List Value} {s:St} {v:Value} {s':St} (h:lookR l s=some (v,s')):l=[netV]∧(∀ i o,look netS.heap i=some o→look s.heap i=some o)∧s'=addL s ((lookPs.map (·.2)).map (renO (lookN s.next)))∧v=renT (lookN s.next) lookV:=by
  cases l with
  | nil=>cases h
  | cons x l=>cases l with
    | cons y l=>cases h
    | nil=>
      obtain ⟨h1,h2⟩:=bif_some (c:=eqV x netV) h
      obtain ⟨h3,h4⟩:=bif_some h2
      have:=eqV_ok h1
      subst this
      rw [newS_eq,newS_eq,newS_eq,newS_eq,newS_eq,newS_eq] at h4
      cases h4
      exact ⟨rfl,subT_ok h3,rfl,rfl⟩
theorem kn1_sound:Sound kn1:=by
  intro g xs s v s' h σ w xs' hs hx
  unfold kn1 at h
  cases h1:Nat.beq g 21 with
  | false=>rw [h1] at h;exact kn0_sound g xs s v s' h σ w xs' hs hx
  | true=>
    rw [h1] at h
    have e:=Nat.eq_of_beq_eq_true h1
    subst e
    obtain ⟨rfl,h2,rfl,rfl⟩:=lookR_some h
    refine net_call cf0_sound lookPs look_run rfl (by decide) (by decide) (List.all_eq_true.1 (by kernel_rfl)) (by kernel_rfl) h2 (lookN s.next) (fun i hi=>?_) (fun k p hp=>?_) σ w xs' hs hx
    · match i,hi with
      | 0,_=>rfl
      | 1,_=>rfl
      | 2,_=>rfl
      | 3,_=>rfl
      | 4,_=>rfl
      | 5,_=>rfl
      | 6,_=>rfl
      | 7,_=>rfl
    · match k,hp with
      | 0,hp=>cases hp;rfl
      | 1,hp=>cases hp;rfl
      | 2,hp=>cases hp;rfl
      | 3,hp=>cases hp;rfl
      | 4,hp=>cases hp;rfl
      | 5,hp=>cases hp;rfl
      | k + 6,hp=>cases hp
end Go.Proofs.YtnpdcjdmbkcpbaaGreat.Ev
namespace Go.Proofs.YtnpdcjdmbkcpbaaGreat.Ev
open Go
set_option maxRecDepth 1000000
noncomputable def cf1:CallF:=callW kn1 (code kn1 100000)
theorem cf1_sound:Sound cf1:=sound kn1_sound 100000
def bestPs:List (Nat × Ob):=[(93,.cells bestC 63)]
def bestV:Value:=.tuple ⟨[.agg ⟨[.int .i64 1,.slice (some ⟨93,0,none⟩) 11 U,.int .i64 7,.int .i64 8,.int .i64 0,.int .i64 7]⟩,.int .i64 0]⟩
theorem best_run:ansC (cf1 24 [netV,.int .i64 100] netS) bestV netS bestPs=true:=by kernel_rfl
def bestN (m:Nat):Nat→Nat
  | 93=>m
  | i=>i
theorem bestR_some {l:List Value} {s:St} {v:Value} {s':St} (h:bestR l s=some (v,s')):l=[netV,.int .i64 100]∧(∀ i o,look netS.heap i=some o→look s.heap i=some o)∧s'=addL s ((bestPs.map (·.2)).map (renO (bestN s.next)))∧v=renT (bestN s.next) bestV:=by
  cases l with
  | nil=>cases h
  | cons x l=>cases l with
    | nil=>cases h
    | cons y l=>cases l with
      | cons z l=>cases h
      | nil=>
        obtain ⟨h1,h2⟩:=bif_some (c:=eqV x netV) h
        obtain ⟨h3,h4⟩:=bif_some h2
        obtain ⟨h5,h6⟩:=bif_some h4
        have e1:=eqV_ok h1
        have e2:=eqV_ok h3
        subst e1 e2
        rw [newS_eq] at h6
        cases h6
        exact ⟨rfl,subT_ok h5,rfl,rfl⟩
theorem kn2_sound:Sound kn2:=by
  intro g xs s v s' h σ w xs' hs hx
  unfold kn2 at h
  cases h1:Nat.beq g 24 with
  | false=>rw [h1] at h;exact kn1_sound g xs s v s' h σ w xs' hs hx
  | true=>
    rw [h1] at h
    have e:=Nat.eq_of_beq_eq_true h1
    subst e
    obtain ⟨rfl,h2,rfl,rfl⟩:=bestR_some h
    refine net_call cf1_sound bestPs best_run (by kernel_rfl) (by decide) (by decide) (List.all_eq_true.1 (by kernel_rfl)) (by kernel_rfl) h2 (bestN s.next) (fun i hi=>?_) (fun k p hp=>?_) σ w xs' hs hx
    · match i,hi with
      | 0,_=>rfl
      | 1,_=>rfl
      | 2,_=>rfl
      | 3,_=>rfl
      | 4,_=>rfl
      | 5,_=>rfl
      | 6,_=>rfl
      | 7,_=>rfl
    · match k,hp with
      | 0,hp=>cases hp;rfl
      | k + 1,hp=>cases hp
end Go.Proofs.YtnpdcjdmbkcpbaaGreat.Ev
namespace Go.Proofs.YtnpdcjdmbkcpbaaGreat.Ev
open Go
set_option maxRecDepth 1000000
noncomputable def cf2:CallF:=callW kn2 (code kn2 100000)
theorem cf2_sound:Sound cf2:=sound kn2_sound 100000
def St0:St:=⟨.lf,0⟩
theorem alive_run:ansC (cf2 8 [] St0) (.bool true) St0 []=true:=by kernel_rfl
theorem sim0 (w:World):Sim (fun _=>none) St0 w:=⟨(fun i o p hi=>by cases hi),(fun i j o o' p q hi=>by cases hi),(fun i _=>rfl),(fun i _=>rfl)⟩
theorem alive_calls (w:World):Calls Tryz.prog 8 #[] w fun e w'=>e = .returned (.bool true)∧w'.os=w.os∧w'.tape=w.tape∧w'.output=w.output∧w.heap.size≤w'.heap.size∧∀ k,k < w.heap.size→w'.heap[k]?=w.heap[k]?:=by
  obtain ⟨s1,h1,_,_⟩:=ansC_ok alive_run
  obtain ⟨_,h2⟩:=cf2_sound 8 [] St0 _ s1 h1 (fun _=>none) w [] (sim0 w) .nil
  refine Calls.mono h2 ?_
  rintro e w' ⟨v',σ',rfl,hg,hv⟩
  rw [hv.bool]
  exact ⟨rfl,hg.oth.os,hg.oth.tape,hg.oth.output,hg.oth.size,fun k hk=>hg.oth.block k hk fun ⟨i,o,p,h,_⟩=>by cases h⟩
end Go.Proofs.YtnpdcjdmbkcpbaaGreat.Ev
namespace Go.Proofs.YtnpdcjdmbkcpbaaGreat.Ins
open Go.RowKit
section
variable {w:World}
theorem alive_any (w:World):Calls Tryz.prog 8 #[] w fun e w'=>e = .returned (.bool true)∧Oth [] w w':=by
  refine (Ev.alive_calls w).mono ?_
  rintro e w' ⟨rfl,h1,h2,h3,h4,h5⟩
  exact ⟨rfl,h1,h2,h3,h4,fun k hk _=>h5 k hk⟩
end
end Go.Proofs.YtnpdcjdmbkcpbaaGreat.Ins
namespace Go.Proofs.YtnpdcjdmbkcpbaaGreat.Ins
open Go.RowKit Go.ChangeShapes Go.WideShapes Go.ChangeAt
theorem ints_of {H:Type} {enc:TypeId × Value→H} {W:World} {B:Nat} {ad:Option Addr} {n c:Nat} {d:DataW H} {p:List MemPlace} (h:DataW.Trod enc Tryz.prog W 0 (fun _=>true) true 22 (.slice ad n c) d p) (hB:Rows.uptoBulk d≤B) :
    ∃ l,RI ad n c l W:=by
  obtain ⟨fuel,hf⟩:=h
  obtain ⟨b1,m1,c1,L1,r1,q1,q2⟩:=ri_of (B:=B) Tryz.underlying22 Tryz.underlying3 Tryz.cellsOf3 hf hB
  simp [Value.cells] at r1
  obtain ⟨rfl,rfl,rfl⟩:=r1
  exact ⟨L1,q1⟩
theorem CostR.form {ws cs:List Nat} {n cap:Nat} {o π:Nat→Nat} {l:List Int} {e:Ending} (h:CostR ws cs n cap o π l e):ErrS e∨∃ pk c x y:Int,e = .returned (.tuple #[.agg #[.int .i64 pk,.int .i64 c,.int .i64 x,.int .i64 y],.int .i64 0]):=by
  unfold CostR at h
  split at h
  · unfold RunR at h
    split at h
    · exact .inl h
    · split at h
      · obtain ⟨x,y,rfl⟩:=h
        exact .inr ⟨_,_,_,_,rfl⟩
      · exact .inl h
  · exact .inl h
theorem law_err {ws cs:List Nat} {cap:Nat} {e:Ending} (h:MakR ws cs cap e):∃ (a0:Int) (sb:Option Addr) (sn sc:Nat) (a2 a3 a4 a5 k:Int),(k=0∨k=26)∧e = .returned (.tuple #[.agg #[.int .i64 a0,.slice sb sn sc,.int .i64 a2,.int .i64 a3,.int .i64 a4,.int .i64 a5],.int .i64 k]):=by
  rcases h with ⟨-,rfl⟩ | ⟨-,sb,sn,sc,pk,x,y,-,rfl⟩
  · exact ⟨_,_,_,_,_,_,_,_,26,.inr rfl,rfl⟩
  · exact ⟨_,_,_,_,_,_,_,_,0,.inl rfl,rfl⟩
theorem law_good {ws cs:List Nat} {cap n:Nat} {o π:Nat→Nat} {l:List Int} {pk c x y:Int} {e2:Ending} (hf:Fine ws cs cap) (hn:cs.length=n) (hP:Perm n o π)
    (h1:CostR ws cs n cap o π l (.returned (.tuple #[.agg #[.int .i64 pk,.int .i64 c,.int .i64 x,.int .i64 y],.int .i64 0]))) (h2:MakR ws cs cap e2) :
    ∃ (pl:Int) (sb:Option Addr) (sn sc:Nat) (x2 y2 pk2 c2:Int),e2 = .returned (.tuple #[.agg #[.int .i64 pl,.slice sb sn sc,.int .i64 pk2,.int .i64 c2,.int .i64 x2,.int .i64 y2],.int .i64 0])∧c2≤c∧pk2≤(cap:Int):=by
  rcases law_join hf hn hP h1 h2 with ⟨⟨k,hk,he⟩,-⟩ | ⟨pk',c',x',y',pl,sb,sn,sc,pk2,c2,x2,y2,h3,h4,h5,h6⟩
  · simp at he;omega
  · simp at h3
    obtain ⟨-,rfl,-,-⟩:=h3
    exact ⟨pl,sb,sn,sc,x2,y2,pk2,c2,h4,h5,h6⟩
section
variable {D:NetD} {w:World}
set_option maxRecDepth 100000 in
set_option maxHeartbeats 8000000 in
theorem law_out {b:Option Addr} {nl cl:Nat} {cap:Int} (hr:D.R w) (hi:D.i.l.length≤1048576) (hn:D.n≤1048576) (hd:∀ d∈D.L,d.short 1048576)
    (h:D.fewB=false∨9 < D.n∨30 < nl∨cap < 0∨4096 < cap∨(NetS D∧D.chain=false)) :
    Calls Tryz.prog 3 #[D.val,.int .i64 cap,.slice b nl cl] w fun e w'=>e = .returned (.bool true)∧Oth [] w w':=by
  have NF:Hid (∀ w',Oth [] w w'→Calls Tryz.prog 6 #[.agg #[.slice D.i.b D.i.n D.i.c,.slice D.b D.n D.c]] w' fun e w2=>e = .returned (.bool D.fewB)∧Oth [] w' w2):=fun w' ho=>few_any (hr.oth ho) hi hn hd
  have HBX:Hid (∀ w',Oth [] (w.alloc (.cells #[.slice D.i.b D.i.n D.i.c,.slice D.b D.n D.c] 26)) w'→Oth [] w w'∧w'.cell? ⟨w.heap.size,0,none⟩=some (.slice D.i.b D.i.n D.i.c)∧w'.cell? ⟨w.heap.size,1,none⟩=some (.slice D.b D.n D.c)∧w.heap.size < w'.heap.size):=fun w' ho=>net_box' ho
  have HR:=Lib.hid hr
  unfold NetD.val Sh.val
  clear hr hi hn hd
  cases hf:D.fewB with
  | false=>
    rw [hf] at NF
    clear h hf
    go_enter Tryz.func3,Tryz.ntmps3
    go_wp2_with (first
      | (go_at_call 6;(with_reducible refine (NF.out _ ((Oth.refl [] w).alloc _)).mono ?_);rintro e w1 ⟨rfl,ho1⟩;replace ho1:=Lib.hid ho1)
      | ((with_reducible refine (alive_any _).mono ?_);rintro e w5 ⟨rfl,o5⟩;replace o5:=Lib.hid o5))
    go_ret
    exact ⟨rfl,(HBX.out _ (ho1.out.trans o5.out (Fr.nil _ _))).1⟩
  | true=>
    rw [hf,Bool.true_eq_false,false_or] at h
    rw [hf] at NF
    clear hf
    by_cases c1:9 < D.n
    · have t1:(9:Int) < D.n:=by omega
      clear h c1
      go_enter Tryz.func3,Tryz.ntmps3
      go_wp2_with (first
        | (go_at_call 6;(with_reducible refine (NF.out _ ((Oth.refl [] w).alloc _)).mono ?_);rintro e w1 ⟨rfl,ho1⟩;obtain ⟨p0,p1,p2,p3⟩:=HBX.out _ ho1;clear p0;replace ho1:=Lib.hid ho1)
        | ((with_reducible refine (alive_any _).mono ?_);rintro e w5 ⟨rfl,o5⟩;replace o5:=Lib.hid o5))
      go_ret
      exact ⟨rfl,(HBX.out _ (ho1.out.trans o5.out (Fr.nil _ _))).1⟩
    have t1:¬ (9:Int) < D.n:=by omega
    by_cases c2:30 < nl
    · have t2:(30:Int) < nl:=by omega
      clear h c1 c2
      go_enter Tryz.func3,Tryz.ntmps3
      go_wp2_with (first
        | (go_at_call 6;(with_reducible refine (NF.out _ ((Oth.refl [] w).alloc _)).mono ?_);rintro e w1 ⟨rfl,ho1⟩;obtain ⟨p0,p1,p2,p3⟩:=HBX.out _ ho1;clear p0;replace ho1:=Lib.hid ho1)
        | ((with_reducible refine (alive_any _).mono ?_);rintro e w5 ⟨rfl,o5⟩;replace o5:=Lib.hid o5))
      go_ret
      exact ⟨rfl,(HBX.out _ (ho1.out.trans o5.out (Fr.nil _ _))).1⟩
    have t2:¬ (30:Int) < nl:=by omega
    by_cases c3:cap < 0
    · clear h c1 c2
      go_enter Tryz.func3,Tryz.ntmps3
      go_wp2_with (first
        | (go_at_call 6;(with_reducible refine (NF.out _ ((Oth.refl [] w).alloc _)).mono ?_);rintro e w1 ⟨rfl,ho1⟩;obtain ⟨p0,p1,p2,p3⟩:=HBX.out _ ho1;clear p0;replace ho1:=Lib.hid ho1)
        | ((with_reducible refine (alive_any _).mono ?_);rintro e w5 ⟨rfl,o5⟩;replace o5:=Lib.hid o5))
      go_ret
      exact ⟨rfl,(HBX.out _ (ho1.out.trans o5.out (Fr.nil _ _))).1⟩
    by_cases c4:4096 < cap
    · clear h c1 c2
      go_enter Tryz.func3,Tryz.ntmps3
      go_wp2_with (first
        | (go_at_call 6;(with_reducible refine (NF.out _ ((Oth.refl [] w).alloc _)).mono ?_);rintro e w1 ⟨rfl,ho1⟩;obtain ⟨p0,p1,p2,p3⟩:=HBX.out _ ho1;clear p0;replace ho1:=Lib.hid ho1)
        | ((with_reducible refine (alive_any _).mono ?_);rintro e w5 ⟨rfl,o5⟩;replace o5:=Lib.hid o5))
      go_ret
      exact ⟨rfl,(HBX.out _ (ho1.out.trans o5.out (Fr.nil _ _))).1⟩
    have h5:NetS D∧D.chain=false:=by
      rcases h with h | h | h | h | h
      · omega
      · omega
      · omega
      · omega
      · exact h
    have NC:Hid (∀ w',Oth [] w w'→Calls Tryz.prog 7 #[.agg #[.slice D.i.b D.i.n D.i.c,.slice D.b D.n D.c]] w' fun e w2=>e = .returned (.bool false)∧Oth [] w' w2):=fun w' ho=>by
      have h9:=chain_any h5.1 (HR.out.oth ho)
      rw [h5.2] at h9
      exact h9
    clear h c1 c2 h5
    go_enter Tryz.func3,Tryz.ntmps3
    go_wp2_with (first
      | (go_at_call 6;(with_reducible refine (NF.out _ ((Oth.refl [] w).alloc _)).mono ?_);rintro e w1 ⟨rfl,ho1⟩;obtain ⟨p0,p1,p2,p3⟩:=HBX.out _ ho1;replace p0:=Lib.hid p0;replace ho1:=Lib.hid ho1)
      | (go_at_call 7;(with_reducible refine (NC.out _ p0.out).mono ?_);rintro e w2 ⟨rfl,ho2⟩;replace ho2:=Lib.hid ho2)
      | ((with_reducible refine (alive_any _).mono ?_);rintro e w5 ⟨rfl,o5⟩;replace o5:=Lib.hid o5))
    go_ret
    exact ⟨rfl,(p0.out.trans ho2.out (Fr.nil _ _)).trans o5.out (Fr.nil _ _)⟩
set_option maxRecDepth 100000 in
set_option maxHeartbeats 8000000 in
theorem law_in {b:Option Addr} {nl cl cap:Nat} {l:List Int} (hr:D.R w) (hi:D.i.l.length≤1048576) (hn:D.n≤1048576) (hd:∀ d∈D.L,d.short 1048576) (hl:RI b nl cl l w)
    (hf:D.fewB=true) (h9:D.n≤9) (h30:nl≤30) (hcap:cap≤4096) (hs:NetS D) (hch:D.chain=true) :
    Calls Tryz.prog 3 #[D.val,.int .i64 cap,.slice b nl cl] w fun e w'=>e = .returned (.bool true)∧Oth [] w w':=by
  obtain ⟨O,f,k1,k2,k3,k4,k5,k6,k7⟩:=chain_conts hs hr.len hch
  have k8:=price_conts hs k1 k3
  have hfine:=k3.fine hcap
  have NF:Hid (∀ w',Oth [] w w'→Calls Tryz.prog 6 #[.agg #[.slice D.i.b D.i.n D.i.c,.slice D.b D.n D.c]] w' fun e w2=>e = .returned (.bool true)∧Oth [] w' w2):=fun w' ho=>by
    have h9:=few_any (hr.oth ho) hi hn hd
    rw [hf] at h9
    exact h9
  have NC:Hid (∀ w',Oth [] w w'→Calls Tryz.prog 7 #[.agg #[.slice D.i.b D.i.n D.i.c,.slice D.b D.n D.c]] w' fun e w2=>e = .returned (.bool true)∧Oth [] w' w2):=fun w' ho=>k6 w' (hr.oth ho)
  have NR:Hid (∀ w',Oth [] w w'→Calls Tryz.prog 9 #[.agg #[.slice D.i.b D.i.n D.i.c,.slice D.b D.n D.c],.slice b nl cl,.int .i64 cap] w' fun e w2=>CostR (wsF D (oF O) f) (csF D (oF O) f) D.n cap (oF O) (pF O) l e∧Oth [] w' w2):=fun w' ho=>
    cost_any k3.c k4 k5 k8 (csF_len _ _ _) (hr.oth ho) (hl.oth ho) hcap (fun p hp=>(hfine.wb p (by rw [wsF_len];omega)).2) (fun p hp=>hfine.cb p (by rw [csF_len];omega))
  have NM:Hid (∀ w',Oth [] w w'→Calls Tryz.prog 10 #[.agg #[.slice D.i.b D.i.n D.i.c,.slice D.b D.n D.c],.int .i64 4,.int .i64 cap] w' fun e w2=>MakR (wsF D (oF O) f) (csF D (oF O) f) cap e∧Oth [] w' w2):=fun w' ho=>
    make_any k3.c k4 k5 k6 k7 k8 (wsF_len _ _ _) (csF_len _ _ _) (hr.oth ho) hfine hcap
  have hlg:=fun (pk c x y:Int) (e2:Ending)=>law_good (pk:=pk) (c:=c) (x:=x) (y:=y) (l:=l) (e2:=e2) hfine (csF_len D (oF O) f) k3.c.pm
  have HLG:=Lib.hid hlg
  clear hlg
  have HBX:Hid (∀ w',Oth [] (w.alloc (.cells #[.slice D.i.b D.i.n D.i.c,.slice D.b D.n D.c] 26)) w'→Oth [] w w'∧w'.cell? ⟨w.heap.size,0,none⟩=some (.slice D.i.b D.i.n D.i.c)∧w'.cell? ⟨w.heap.size,1,none⟩=some (.slice D.b D.n D.c)∧w.heap.size < w'.heap.size):=fun w' ho=>net_box' ho
  unfold NetD.val Sh.val
  have t1:¬ (9:Int) < D.n:=by omega
  have t2:¬ (30:Int) < nl:=by omega
  have t3:¬ (cap:Int) < 0:=by omega
  have t4:¬ (4096:Int) < cap:=by omega
  clear hr hi hn hd hl hf h9 h30 hcap hs hch k1 k2 k3 k4 k5 k6 k7 k8 hfine
  go_enter Tryz.func3,Tryz.ntmps3
  go_wp2_with (first
    | (go_at_call 6;(with_reducible refine (NF.out _ ((Oth.refl [] w).alloc _)).mono ?_);rintro e w1 ⟨rfl,ho1⟩;obtain ⟨p0,p1,p2,p3⟩:=HBX.out _ ho1;replace p0:=Lib.hid p0;replace ho1:=Lib.hid ho1)
    | (go_at_call 7;(with_reducible refine (NC.out _ p0.out).mono ?_);rintro e w2 ⟨rfl,ho2⟩;replace ho1:=Lib.hid (ho1.out.trans ho2 (Fr.nil _ _));clear ho2 p0 p1 p2 p3;obtain ⟨p0,p1,p2,p3⟩:=HBX.out _ ho1.out;replace p0:=Lib.hid p0))
  go_at_call 9
  (with_reducible refine (NR.out _ p0.out).mono ?_)
  rintro e w3 ⟨hR,ho3⟩
  have ho13:=Lib.hid (ho1.out.trans ho3 (Fr.nil _ _))
  clear p0 p1 p2 p3 ho3
  obtain ⟨p0,p1,p2,p3⟩:=HBX.out _ ho13.out
  replace p0:=Lib.hid p0
  rcases hR.form with ⟨k,hk,rfl⟩ | ⟨pk,c,x,y,rfl⟩
  · have hx':(k != 0)=true:=by simp [hk]
    replace hR:=Lib.hid hR
    go_wp2_with fail
    go_at_call 10
    (with_reducible refine (NM.out _ (p0.out.alloc _)).mono ?_)
    rintro e w4 ⟨hM,ho4⟩
    obtain ⟨a0,sb,sn,sc,a2,a3,a4,a5,k2,hk2,rfl⟩:=law_err hM
    have HO4:Hid (Oth [] w w4):=(p0.out.alloc _).trans ho4 (Fr.nil _ _)
    clear p1 p2 p3 ho4 hM
    rcases hk2 with rfl | rfl
    · go_wp2_with ((with_reducible refine (alive_any _).mono ?_);rintro e w5 ⟨rfl,o5⟩;replace o5:=Lib.hid o5)
      go_ret
      exact ⟨rfl,(HO4.out.alloc _).trans o5.out (Fr.nil _ _)⟩
    · go_wp2_with ((with_reducible refine (alive_any _).mono ?_);rintro e w5 ⟨rfl,o5⟩;replace o5:=Lib.hid o5)
      go_ret
      exact ⟨rfl,(HO4.out.alloc _).trans o5.out (Fr.nil _ _)⟩
  · replace hR:=Lib.hid hR
    go_wp2_with fail
    go_at_call 10
    (with_reducible refine (NM.out _ (p0.out.alloc _)).mono ?_)
    rintro e w4 ⟨hM,ho4⟩
    obtain ⟨pl,sb,sn,sc,x2,y2,pk2,c2,rfl,hc2,hpk2⟩:=HLG.out _ _ _ _ _ hR.out hM
    have HO4:Hid (Oth [] w w4):=(p0.out.alloc _).trans ho4 (Fr.nil _ _)
    have z1:=ho4.cell (show (w3.alloc (.cells #[.int .i64 pk,.int .i64 c,.int .i64 x,.int .i64 y] 30)).cell? ⟨w3.heap.size,1,none⟩=some (.int .i64 c) by rw [World.cell?,heap_alloc_new];rfl) (by simp)
    have z2:=World.block_lt_of_cell? _ _ z1
    clear p1 p2 p3 ho4 hM
    go_wp2_with ((with_reducible refine (alive_any _).mono ?_);rintro e w5 ⟨rfl,o5⟩;replace o5:=Lib.hid o5)
    go_ret
    exact ⟨rfl,(HO4.out.alloc _).trans o5.out (Fr.nil _ _)⟩
theorem wholeChain_walk {b:Option Addr} {nl cl:Nat} {l:List Int} (hr:D.R w) (hi:D.i.l.length≤1048576) (hn:D.n≤1048576) (hd:∀ d∈D.L,d.short 1048576) (hl:RI b nl cl l w) (cap:Int) (hw:(Lit.int .i64 cap).wf=true) :
    Calls Tryz.prog 3 #[D.val,.int .i64 cap,.slice b nl cl] w fun e w'=>e = .returned (.bool true)∧Below w.heap.size w w':=by
  have h:Calls Tryz.prog 3 #[D.val,.int .i64 cap,.slice b nl cl] w fun e w'=>e = .returned (.bool true)∧Oth [] w w':=by
    by_cases hf:D.fewB=false
    · exact law_out hr hi hn hd (.inl hf)
    have hf:D.fewB=true:=by simpa using hf
    obtain ⟨s1,s2,s3⟩:=few_short hf
    have hs:NetS D:=⟨by omega,s1,fun d hd=>(s3 d hd).1⟩
    by_cases c1:9 < D.n∨30 < nl∨cap < 0∨4096 < cap
    · exact law_out hr hi hn hd (.inr (by rcases c1 with h | h | h | h <;> simp [h]))
    by_cases c2:D.chain=false
    · exact law_out hr hi hn hd (.inr (.inr (.inr (.inr (.inr ⟨hs,c2⟩)))))
    obtain ⟨c,rfl⟩:=Int.eq_ofNat_of_zero_le (show 0≤cap by omega)
    exact law_in hr hi hn hd hl hf (by omega) (by omega) (by omega) hs (by simpa using c2)
  refine h.mono ?_
  rintro e w' ⟨rfl,ho⟩
  exact ⟨rfl,ho.below (Nat.le_refl _) (by simp)⟩
end
end Go.Proofs.YtnpdcjdmbkcpbaaGreat.Ins
namespace Go.Proofs.YtnpdcjdmbkcpbaaGreat
open Go.ChangeShapes Go.WideShapes Go.ChangeAt Go.RowKit
theorem wholeChain_own:ownKnob Tryz.prog.godebug=none:=by kernel_rfl
theorem wholeChain_laidOut:laidOutB Tryz.prog=true:=by kernel_rfl
set_option maxRecDepth 100000 in
theorem wholeChain_contract (H:Type) (enc:TypeId × Value→H) (W:World) (base:Nat) (args:Array Value) (ds gs:List (DataW H)) (before:List MemPlace)
    (hval0:∀ (j:Nat) t v,Tryz.f3.params[j]?=some t→args[j]?=some v→Value.okWide Tryz.prog W .any base t v)
    (hW:DataW.Whole enc Tryz.prog Tryz.f3.params.toList Rows.wholeChainSpec.vars false W args.toList ds gs before) (hk:Rows.uptoSmall H (ds ++ gs)=true) :
    Calls Tryz.prog 3 args W fun e W'=>∃ v,e = .returned v∧Rows.wholeChainSpec.post enc Tryz.prog Tryz.f3 false true false false W args v W':=by
  have hval:∀ (j:Nat) t v,Tryz.f3.params[j]?=some t→args[j]?=some v→Value.okWide Tryz.prog W .any base t v:=hval0
  have hW':=hW
  obtain ⟨p,q,hA0,hV,rfl,hfz,hnd⟩:=hW
  have hA:DataW.TrodAll enc Tryz.prog W 0 (fun _=>true) true Tryz.f3.params.toList args.toList ds p:=hA0
  rw [Tryz.params3] at hA hval
  obtain ⟨v0,vs0,d0,ds0,p0,q0,hargs,rfl,rfl,h0,r0⟩:=trodAll_cons hA
  obtain ⟨v1,vs1,d1,ds1,p1,q1,rfl,rfl,rfl,h1,r1⟩:=trodAll_cons r0
  obtain ⟨v2,vs2,d2,ds2,p2,q2,rfl,rfl,rfl,h2,r2⟩:=trodAll_cons r1
  obtain ⟨rfl,rfl,rfl⟩:=trodAll_nil r2
  obtain rfl:args = #[v0,v1,v2]:=by cases args;simp_all
  obtain ⟨rfl,rfl⟩:=trodVars_none hV
  simp only [List.append_nil] at hW' hk
  have hb:Rows.uptoBulkAll [d0,d1,d2]≤1048576:=of_decide_eq_true hk
  have hb0:Rows.uptoBulk d0≤1048576:=Nat.le_trans (Ins.bulk_mem (by simp)) hb
  have hb2:Rows.uptoBulk d2≤1048576:=Nat.le_trans (Ins.bulk_mem (by simp)) hb
  obtain ⟨cs,hv,hs⟩:=okWide_struct Tryz.underlying26 (hval 0 26 v0 rfl rfl)
  obtain ⟨D,rfl,hD,hD1,hD2,hD3⟩:=Ins.net_of hv hs h0 hb0
  obtain ⟨a1,rfl,rfl,rfl,w1⟩:=open_int Tryz.underlying3 (hval 1 3 v1 rfl rfl) h1
  obtain ⟨ad,len,cap,rfl⟩:=okWide_slice Tryz.underlying22 (hval 2 22 v2 rfl rfl)
  have k0:=h0
  have k2:=h2
  have lt0:∀ x∈p0,x.block < W.heap.size:=by obtain ⟨m,hm⟩:=k0;exact DataW.trod_lt m _ _ _ hm
  have lt2:∀ x∈p2,x.block < W.heap.size:=by obtain ⟨m,hm⟩:=k2;exact DataW.trod_lt m _ _ _ hm
  obtain ⟨l,hl⟩:=Ins.ints_of h2 hb2
  clear hA0 hval0
  refine (Ins.wholeChain_walk hD hD1 hD2 hD3 hl a1 w1).mono fun e W' ⟨he,bel⟩=>?_
  subst he
  exact ⟨_,rfl,_,_,_,[],_,[],hW',trodAll_mk1 (shut_bool Tryz.underlying4 _),(trodAll_cons_mk (Below.trod wholeChain_laidOut (by kernel_rfl) (of_decide_eq_true (by kernel_rfl)) k0 bel lt0) (trodAll_cons_mk (shut_int Tryz.underlying3 w1) (trodAll_cons_mk (Below.trod wholeChain_laidOut (by kernel_rfl) (of_decide_eq_true (by kernel_rfl)) k2 bel lt2) trodAll_mk0))),rfl,bel.frame _,fun h=>by cases h⟩
set_option maxRecDepth 100000 in
theorem wholeChain_lifted (os:Os) (started:os.Started) (H:Type) (enc:TypeId × Value→H) (F:Stop.Interp) :
    ReturnsInHanded {} Tryz.checked os 3 .any ((Rows.OpenSpec.upto Rows.wholeChainSpec).pre6 enc Tryz.prog Tryz.f3 Rows.wholeChainUptoRow.domain false) (((Rows.OpenSpec.upto Rows.wholeChainSpec).at F).post enc Tryz.prog Tryz.f3 false true false false):=by
  refine returnsInHanded_of_cond (C:=Tryz.checked) (s:=Rows.OpenSpec.upto Rows.wholeChainSpec) (k:=Rows.uptoSmall) rfl wholeChain_own started (by kernel_rfl) Tryz.func3
    (OpenSpec.witness (enc:=enc) (C:=Tryz.checked) (s:=Rows.OpenSpec.upto Rows.wholeChainSpec) (k:=Rows.uptoSmall) rfl false ⟨#[],#[.agg #[.slice none 0 0,.slice none 0 0],.int .i64 0,.slice none 0 0],[]⟩ 8 (by kernel_rfl) (by kernel_rfl) (by kernel_rfl)
      (x:=([.agg [.nil,.nil],.lit (.int .i64 0),.nil],[],[])) (by kernel_rfl) rfl (by kernel_rfl)) ?_
  intro W base args ds gs before hval hW _ hk _
  exact wholeChain_contract H enc W base args ds gs before hval hW hk
theorem wholeChain_proved:Rows.WholeChainUptoSaid:=
  OpenClaim.holds_of_cond 3 Tryz.f3 rfl rfl rfl rfl rfl rfl rfl ⟨rfl,rfl,rfl,rfl,rfl⟩ rfl rfl rfl rfl rfl (by kernel_rfl) Tryz.func3 (by kernel_rfl)
    (of_decide_eq_true (by kernel_rfl)) (by unfold Func.isWrapper;first | (rw [if_pos (by decide +kernel)];kernel_rfl) | (rw [if_neg (by decide +kernel)];exact ⟨rfl,rfl⟩))
    (fun os started H enc _ F=>wholeChain_lifted os started H enc F)
#print axioms wholeChain_proved
end Go.Proofs.YtnpdcjdmbkcpbaaGreat
