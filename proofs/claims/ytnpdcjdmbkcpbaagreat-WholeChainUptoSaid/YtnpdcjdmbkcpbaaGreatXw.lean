/- The evaluator's operations: new rows, loads, stores, addresses. The evaluator's operations: numbers, comparisons. The evaluator's operations: equality, conversions, elements of arrays. The evaluator's operations: slices, maps. No condition. -/
import Derived.Test.YtnpdcjdmbkcpbaaGreatXv
import Derived.Laws.MakeOwn
import Derived.ChangeKeysEq
set_option linter.unusedVariables false
set_option linter.unusedSimpArgs false
namespace Go.Proofs.YtnpdcjdmbkcpbaaGreat.Ev
open Go
theorem V1.oneCell {σ:Sg} {v v':Value} (h:V1 σ v v'):v'.oneCell'=true:=by cases h <;> rfl
theorem L2.oneCells {σ:Sg}:∀ {l l':List Value},L2 (V1 σ) l l'→∀ v∈l',v.oneCell'=true
  | _,_,.nil,v,hv=>by cases hv
  | _,_,.cons h1 h2,v,hv=>by
    rcases List.mem_cons.1 hv with rfl | hv
    · exact h1.oneCell
    · exact h2.oneCells v hv
theorem elem_of {t:Nat} (h:sortT t=5):Tryz.prog.underlying t=some (.slice (elemT t))∧Tryz.prog.elem t=elemT t:=by
  have h1:=sort_ok h (by omega)
  have h1:Tryz.prog.underlying t=some (.slice (elemT t)):=h1
  exact ⟨h1,by simp [Program.elem,h1]⟩
section
variable {cf:CallF} {tm:Tm} {s:St} {k:Value→St→R} {r:Tm × St}
theorem VT.row {σ:Sg} {nm n c:Nat} {p:Pl} (h1:n≤c) (h2:c < U):VT (σ.add nm p) (.slice (some ⟨nm,0,none⟩) n c) (.slice (some ⟨p.b,0,none⟩) n c):=
  .va (.one (.sl (Sg.add_at _ _ _) h1 h2 (.inl ⟨rfl,h2⟩)))
theorem makeSlice_some {t:TypeId} {x y:Operand} (h:makeSliceK t x y cf tm s k=some r):∃ v q,k v (s.add q)=some r∧FloR (.makeSlice t x y) tm v s.next q:=by
  obtain ⟨h0,h⟩:=sortK_some (t:=t) (c:=5) h
  obtain ⟨b,h1,h2⟩:=evK_some (x:=x) (tm:=tm) h
  obtain ⟨j,n,rfl,h3⟩:=natK_some h1
  obtain ⟨b',h4,h5⟩:=evK_some (x:=y) (tm:=tm) h3
  obtain ⟨j',m,rfl,h6⟩:=natK_some h4
  obtain ⟨hnm,h6⟩:=bif_some h6
  obtain ⟨hm,h6⟩:=bif_some h6
  obtain ⟨z,i,d,q1,q2,q3,h7⟩:=sizeK_some (t:=elemT t) h6
  obtain ⟨zs,i2,d2,zv,q4,q5,q6,q7,q8,h8⟩:=zerosK_some (e:=elemT t) h7
  obtain ⟨rfl,rfl⟩:=q1.same q4
  rw [newS_eq] at h8
  have hnm:=Nat.le_of_ble_eq_true hnm
  have hm:=Nat.le_of_ble_eq_true hm
  refine ⟨_,_,h8,fun σ w a o ho ht hn=>?_⟩
  have e1:=(h2 σ a (ht x (by simp [Op.operands]))).int
  have e2:=(h5 σ a (ht y (by simp [Op.operands]))).int
  have hzs:zv.cells.size=z + 1:=by rw [← q2,← q7,← q6];simp
  have hb:i.bytes≤1048576:=q1.bytes
  have hrun:=run_make (P:=Tryz.prog) w t (elemT t) i zv (elem_of h0).1 q1.info q5 j j' (Int.ofNat n) (Int.ofNat m) (Int.natCast_nonneg n) (by simpa using hnm)
    (by
      have h1:i.bytes * m≤1048576 * 100000:=Nat.mul_le_mul hb hm
      have h2:((i.bytes:Int) * (m:Int))=((i.bytes * m:Nat):Int):=by simp
      show (i.bytes:Int) * (m:Int)≤_
      rw [h2];omega) (by simp;omega)
  refine ⟨.slice (some ⟨w.heap.size,0,none⟩) n m,w.alloc (.cells (madeCells zv.cells (m * (z + 1))) (elemT t) (0,0)),⟨w.heap.size,m,z + 1⟩,?_,oth_alloc _ _ _,rfl,?_,.row hnm (by unfold U;omega)⟩
  · rw [q2] at hrun
    simp only [Int.toNat_natCast,Int.ofNat_eq_natCast] at hrun
    simp only [execOp,ho,e1,e2]
    simp [hrun]
  · rw [heap_alloc_new]
    refine .row (by simp [size_madeCells]) q3.symm (by simp) ?_
    unfold madeCells
    rw [← hzs,made_cells,q6]
    exact (q8 _).reps m
theorem buildSlice_ops {t:TypeId} {len:Nat} {parts:Array (Nat × Operand)} {σ:Sg} {a:Act} (ht:OpsR σ tm a (.buildSlice t len parts)):∀ p∈parts.toList,TmAt σ tm a p.2:=fun p hp=>
  ht p.2 (by simp only [Op.operands,List.mem_toArray];exact List.mem_map.2 ⟨p,hp,rfl⟩)
theorem buildSlice_some {t:TypeId} {len:Nat} {parts:Array (Nat × Operand)} (h:buildSliceK t len parts cf tm s k=some r):∃ v q,k v (s.add q)=some r∧FloR (.buildSlice t len parts) tm v s.next q:=by
  obtain ⟨h0,h⟩:=sortK_some (t:=t) (c:=5) h
  obtain ⟨z,i,d,q1,q2,q3,h7⟩:=sizeK_some (t:=elemT t) h
  obtain ⟨hlen,h7⟩:=bif_some h7
  have hlen:len * (z + 1)≤16777216:=Nat.le_of_ble_eq_true hlen
  obtain ⟨zs,i2,d2,zv,q4,q5,q6,q7,q8,h8⟩:=zerosK_some (e:=elemT t) h7
  obtain ⟨rfl,rfl⟩:=q1.same q4
  obtain ⟨l,h9,h10,h11⟩:=fillK_some (plc:=fun i=>some (i * (z + 1),z + 1)) (fun i g hg=>⟨_,_,hg,rfl⟩) h8
  rw [newS_eq] at h9
  refine ⟨_,_,h9,fun σ w a o ho ht hn=>?_⟩
  have hzs:zv.cells.size=z + 1:=by rw [← q2,← q7,← q6];simp
  let cs:Array Value:=(Array.range (len * (z + 1))).map (zv.cells[· % zv.cells.size]!)
  have hcs:cs.toList=(List.replicate len zs).flatten:=by
    show ((Array.range (len * (z + 1))).map (zv.cells[· % zv.cells.size]!)).toList=_
    rw [← hzs,made_cells,q6]
  obtain ⟨l',h12,h13⟩:=h11 σ a (buildSlice_ops ht) cs (by rw [hcs];exact (q8 σ).reps len)
  have hl:l'.size=len * (z + 1):=by
    have e1:=h13.length
    rw [h10,reps_length,q7,q2] at e1
    rw [← Array.length_toList,← e1]
  have hle:σ.Le (σ.add s.next ⟨w.heap.size,len,z + 1⟩):=Sg.le_add hn
  refine ⟨.slice (some ⟨w.heap.size,0,none⟩) len len,w.alloc (.cells l' (elemT t) (0,0)),⟨w.heap.size,len,z + 1⟩,?_,oth_alloc _ _ _,rfl,?_,.row (Nat.le_refl _) ?_⟩
  · have hnot:¬ (16777216 < len * (z + 1)):=by omega
    by_cases h00:len * (z + 1)=0
    · have hcs0:cs = #[]:=by
        apply Array.ext'
        rw [hcs]
        have:len=0:=by rcases Nat.mul_eq_zero.1 h00 with h | h;exact h;omega
        subst this;rfl
      rw [hcs0] at h12
      simp only [execOp,ho]
      have h12':=h12
      simp [Instr.buildSlice,run_underlying (elem_of h0).1,sizeOf,typeInfo,q1.info,q2,h00,hnot,newRow,Array.range_zero'] at h12' ⊢
      simp [h12']
    · simp only [execOp,ho]
      have h12':=h12
      simp [Instr.buildSlice,run_underlying (elem_of h0).1,sizeOf,typeInfo,zeroValue,q1.info,q5,q2,hnot,newRow] at h12' ⊢
      have h01:¬ len=0:=fun e=>h00 (by rw [e];simp)
      simp [h01,cs] at h12' ⊢
      simp [h12']
      exact fun hc=>absurd hc h00
  · rw [heap_alloc_new]
    exact .row hl q3.symm (by simp) (h13.mono fun _ _=>V1.mono hle)
  · have:len≤len * (z + 1):=Nat.le_mul_of_pos_right _ (by omega)
    unfold U;omega
theorem loadV_some {α:Type} {r:α} {t:TypeId} {ad:Addr} {f:Value→Option α} (h:loadV t s ad f=some r):∃ v,f v=some r∧∀ σ w p,SimO σ s w→σ ad.block=some p →
    ∃ v',(loadVar t ⟨p.b,ad.off,none⟩).run Tryz.prog w = .ok v' w∧VA σ v v':=by
  obtain ⟨z,i,d,q1,q2,q3,h1⟩:=sizeK_some (t:=t) h
  cases hb:aggT t with
  | true=>
    rw [hb] at h1
    obtain ⟨vs,tt,h2,h3,h4⟩:=readK_some (s:=s) h1
    refine ⟨_,h4,fun σ w p hs hp=>?_⟩
    obtain ⟨l,h5,h6,h7⟩:=hs.reads h2 hp h3
    refine ⟨.agg l.toArray,?_,.agg h6⟩
    have hl:=run_loadCells_list (P:=Tryz.prog) w _ l h7
    rw [h5] at hl
    have hd:=q1.agg
    rw [hb] at hd
    have hag:(isAgg t).run Tryz.prog w = .ok true w:=by
      simp only [isAgg,Sem.run_bind,run_underlying q1.desc,Result.andThen_ok]
      cases d <;> first | rfl | cases hd
    simp only [loadVar,Sem.run_bind,hag,Result.andThen_ok,if_true,sizeOf,typeInfo,run_program,q1.info,Sem.run_pure,q2,hl]
  | false=>
    rw [hb] at h1
    obtain ⟨vs,tt,h2,h3⟩:=cellsK_some (s:=s) h1
    obtain ⟨v,h4,h5⟩:=nthK_some h3
    refine ⟨v,h5,fun σ w p hs hp=>?_⟩
    obtain ⟨v',h6,h7⟩:=hs.cell h2 hp h4
    refine ⟨v',?_,.one h7⟩
    have hd:=q1.agg
    rw [hb] at hd
    have hag:(isAgg t).run Tryz.prog w = .ok false w:=by
      simp only [isAgg,Sem.run_bind,run_underlying q1.desc,Result.andThen_ok]
      cases d <;> first | rfl | cases hd
    simp [loadVar,hag,h6]
theorem load_some {t:TypeId} {x:Operand} (h:loadK t x cf tm s k=some r):∃ v,k v s=some r∧ReadR (.load t x) tm s v:=by
  obtain ⟨b,h1,h2⟩:=evK_some (x:=x) (tm:=tm) h
  obtain ⟨ad,rfl,h3⟩:=ptrK_some h1
  obtain ⟨v,h4,h5⟩:=loadV_some (t:=t) (ad:=ad) h3
  refine ⟨v,h4,fun σ w a o ho hs ht=>?_⟩
  obtain ⟨p,h6,h7,h8⟩:=(h2 σ a (ht x (by simp [Op.operands]))).ptr
  obtain ⟨v',h9,h10⟩:=h5 σ w p hs h6
  exact ⟨v',by simp [execOp,ho,Instr.loadAt,Instr.sureAddr,h8,h9],.va h10⟩
theorem Sim.write {σ:Sg} {w:World} (hs:Sim σ s w) {i off:Nat} {vs ys ys':List Value} {t:TypeId} {p:Pl} (hi:look s.heap i=some (.cells vs t)) (hp:σ i=some p) (hn:off + ys.length≤vs.length) (hy:L2 (V1 σ) ys ys') :
    ∃ w',(storeCells ⟨p.b,off,none⟩ ys').run Tryz.prog w = .ok () w'∧Goes σ s w σ (s.upd i (some (.cells (over vs off ys) t))) w':=by
  obtain ⟨c,t',h1,rfl,h2,h0,h3,h4,h5⟩:=hs.o.cells hi hp
  have h6:=run_storeCells_at Tryz.prog p.b off t' ys' 0 c w h1 (by rw [← hy.length];omega) hy.oneCells
  refine ⟨_,h6,hs.put hi hp ⟨rfl,rfl,rfl,by simp,fun k hk hne=>setRow_other w p.b k _ hne⟩ ?_⟩
  rw [setRow_heap w p.b c _ t' (0,0) h1]
  have e:(c.toList.take (off + 0) ++ ys' ++ c.toList.drop (off + 0 + ys'.length))=over c.toList off ys':=rfl
  have hlen:off + ys'.length≤c.toList.length:=by rw [← hy.length];simp;omega
  refine .cells ?_ h0 h3 ?_ ?_
  · rw [e,← h2];simp only [List.size_toArray];rw [over_length hlen];simp
  · rw [e,over_length hn];simp only [List.size_toArray];rw [over_length hlen];simpa using h4
  · rw [e,over_length hn]
    have h7:=h5.over off hy
    have h8:(over c.toList off ys').take vs.length=over (c.toList.take vs.length) off ys':=by
      have hl2:=hy.length
      have hA:(c.toList.take off ++ ys').length=off + ys'.length:=by simp;omega
      unfold over
      rw [List.take_append,List.take_of_length_le (by omega),hA,List.drop_take,List.take_take,Nat.min_eq_left (by omega)]
    rw [h8];exact h7
theorem store_some {t:TypeId} {x y:Operand} (h:storeK t x y cf tm s k=some r):∃ v s',k v s'=some r∧EffR (.store t x y) tm s v s':=by
  obtain ⟨b,h1,h2⟩:=evK_some (x:=x) (tm:=tm) h
  obtain ⟨ad,rfl,h3⟩:=ptrK_some h1
  obtain ⟨u,h4,h5⟩:=evK_some (x:=y) (tm:=tm) h3
  obtain ⟨h6,h7⟩:=cellsV_some h4
  obtain ⟨n,i,d,q7,q8,hz,h6⟩:=sizeK_some (t:=t) h6
  obtain ⟨hb,h6⟩:=bif_some h6
  obtain ⟨vs,tt,h8,h9,h10⟩:=storeS_some h6
  refine ⟨_,_,h10,.of fun σ w a o ho hs ht=>?_⟩
  obtain ⟨p,q1,q2,q3⟩:=(h2 σ a (ht x (by simp [Op.operands]))).ptr
  have q4:=((h5 σ a (ht y (by simp [Op.operands]))).va' h7).cells
  obtain ⟨w',q5,q6⟩:=hs.write h8 q1 h9 q4
  refine ⟨.skip,undef,w',σ,?_,.inr ⟨rfl,rfl⟩,q6,.tup .nil⟩
  have hn:=Nat.eq_of_beq_eq_true hb
  have hsz:(a.eval y).cells.size=n + 1:=by rw [← hn,q4.length];simp [cellsOfV]
  have q5':(storeCells ⟨p.b,ad.off,none⟩ (a.eval y).cells.toList).run Tryz.prog w = .ok () w':=q5
  simp [execOp,ho,Instr.storeAt,Instr.sureAddr,q3,storeVar,sizeOf,typeInfo,q7.info,q8,hsz,q5']
theorem addA_eq {α:Type} (a:Addr) (n:Nat) (f:Addr→Option α):addA a n f=f ⟨a.block,a.off + n,none⟩:=by
  obtain ⟨b,o,sp⟩:=a
  exact forceN_eq (o + n) fun o=>f ⟨b,o,none⟩
theorem fieldAddr_some {t:TypeId} {x:Operand} {i:Nat} (h:fieldAddrK t x i cf tm s k=some r):∃ v,k v s=some r∧PureR (.fieldAddr t x i) tm v:=by
  obtain ⟨b,h1,h2⟩:=evK_some (x:=x) (tm:=tm) h
  obtain ⟨ad,rfl,h3⟩:=ptrK_some h1
  unfold offK at h3
  cases ho:Nat.land (offT t i) 65535 with
  | zero=>rw [ho] at h3;cases h3
  | succ p=>
    rw [ho] at h3
    have h3':addA ad p (fun a=>k (.pointer (some a)) s)=some r:=h3
    rw [addA_eq] at h3'
    obtain ⟨fs,f,j,k1,k2,k3,k4,k5,k6⟩:=off_ok ho
    refine ⟨_,h3',fun σ w a o ho ht=>?_⟩
    obtain ⟨q,q1,q2,q3⟩:=(h2 σ a (ht x (by simp [Op.operands]))).ptr
    refine ⟨.pointer (some ⟨q.b,ad.off + p,none⟩),?_,.va (.one (.ptr (.mk q1)))⟩
    simp [execOp,ho,Instr.fieldAt,Instr.sureAddr,run_underlying k1,k2,q3,fieldPlace,sizeOf,typeInfo,k4,k6,k3,addr_add]
theorem indexAddr_some {t:TypeId} {x y:Operand} (h:indexAddrK t x y cf tm s k=some r):∃ v,k v s=some r∧PureR (.indexAddr t x y) tm v:=by
  obtain ⟨h0,h⟩:=sortK_some (t:=t) (c:=5) h
  obtain ⟨b,h1,h2⟩:=evK_some (x:=x) (tm:=tm) h
  obtain ⟨b',h4,h5⟩:=evK_some (x:=y) (tm:=tm) h1
  obtain ⟨j,i,rfl,h6⟩:=natK_some h4
  rcases slK_some h6 with ⟨rfl,h7⟩ | ⟨b,off,n,c,rfl,h7⟩
  · cases h7
  obtain ⟨hb,h7⟩:=bif_some h7
  have hb:i + 1≤n:=Nat.le_of_ble_eq_true hb
  obtain ⟨z,i2,d2,q1,q2,q3,h8⟩:=sizeK_some (t:=elemT t) h7
  rw [addA_eq] at h8
  refine ⟨_,h8,fun σ w a o ho ht=>?_⟩
  obtain ⟨p,c',k1,k3,k4,k5,k6⟩:=(h2 σ a (ht x (by simp [Op.operands]))).sl
  have e2:=(h5 σ a (ht y (by simp [Op.operands]))).int
  refine ⟨.pointer (some ⟨p.b,off + i * (z + 1),none⟩),?_,.va (.one (.ptr (.mk k1)))⟩
  have hu:=elem_of h0
  have hr:=run_indexAt_slice (P:=Tryz.prog) w t ⟨p.b,off,none⟩ n c' j (Int.ofNat i) (by rw [hu.2];exact hu.1)
  have hc:(0:Int)≤Int.ofNat i∧Int.ofNat i < (n:Int):=⟨Int.natCast_nonneg i,by simp;omega⟩
  rw [if_pos hc,hu.2] at hr
  simp [sizeOf,typeInfo,q1.info,q2,addr_add] at hr
  simp [execOp,ho,k6,e2,hr]
theorem makeFunc_some {fn:Fn} {first captured:Array Operand} (h:makeFuncK fn first captured cf tm s k=some r):∃ v,k v s=some r∧PureR (.makeFunc fn first captured) tm v:=by
  unfold makeFuncK at h
  rw [listK_eq] at h
  cases hf:first.toList with
  | cons x l=>rw [hf] at h;cases h
  | nil =>
    rw [hf] at h
    cases fn with
    | func g=>
      have h':listK captured (fun c=>evLK c tm fun l=>onesK l (k (.func (.func g) ⟨[]⟩ ⟨l⟩) s))=some r:=h
      rw [listK_eq] at h'
      obtain ⟨vs,h1,h2⟩:=evLK_some h'
      have hones:∀ (vs:List Value) (x:Option (Tm × St)),onesK vs x=some r→x=some r∧∀ v∈vs,(∀ c,v≠.agg c)∧(∀ c,v≠.tuple c):=by
        intro vs
        induction vs with
        | nil=>intro x hx;exact ⟨hx,fun v hv=>by cases hv⟩
        | cons v vs ih=>
          intro x hx
          have hx':oneK v (onesK vs x)=some r:=hx
          have:onesK vs x=some r∧(∀ c,v≠.agg c)∧(∀ c,v≠.tuple c):=by
            cases v <;> first | cases hx' | exact ⟨hx',nofun,nofun⟩
          obtain ⟨h3,h4⟩:=ih x this.1
          exact ⟨h3,fun u hu=>by
            rcases List.mem_cons.1 hu with rfl | hu
            · exact this.2
            · exact h4 u hu⟩
      obtain ⟨h3,h4⟩:=hones vs _ h1
      refine ⟨_,h3,fun σ w a o ho ht=>?_⟩
      have h5:=h2 σ a (fun x hx=>ht x (by simp only [Op.operands,Array.mem_append];exact .inr (Array.mem_toList_iff.1 hx)))
      have hfirst:first = #[]:=by apply Array.ext';rw [hf]
      subst hfirst
      refine ⟨.func (.func g) ⟨[]⟩ ⟨captured.toList.map a.eval⟩,?_,.va (.one (.fn h5.length fun j v v' hv hv'=>?_))⟩
      · have e:captured.map a.eval=⟨captured.toList.map a.eval⟩:=by apply Array.ext';simp
        simp [execOp,ho,Instr.makeFunc,e]
      · obtain ⟨b,h6,h7⟩:=h5.get hv
        rw [h6] at hv';cases hv'
        obtain ⟨n1,n2⟩:=h4 v (List.mem_of_getElem? hv)
        cases h7 with
        | va h7=>cases h7 with
          | one h7=>exact h7
          | agg h7=>exact absurd rfl (n1 _)
        | tup h7=>exact absurd rfl (n2 _)
    | _=>cases h
end
end Go.Proofs.YtnpdcjdmbkcpbaaGreat.Ev
namespace Go.Proofs.YtnpdcjdmbkcpbaaGreat.Ev
open Go
theorem wrapQ_eq (k:IntKind) (n:Int):wrapQ k n=k.wrap n:=by
  cases n with
  | negSucc m=>rfl
  | ofNat m=>
    show @Bool.rec (fun _=>Int) _ _ _=_
    cases hb:Nat.blt m (limK k) with
    | false=>rfl
    | true=>
      have hl:m + 1≤limK k:=Nat.le_of_ble_eq_true hb
      show Int.ofNat m=_
      simp only [Int.ofNat_eq_natCast]
      cases k <;> simp [limK] at hl <;> simp [IntKind.wrap,IntKind.bits,IntKind.signed] <;> omega
theorem addQ_eq (x y:Int):addQ x y=x + y:=by cases x <;> cases y <;> rfl
theorem mulQ_eq (x y:Int):mulQ x y=x * y:=by cases x <;> cases y <;> rfl
theorem subQ_eq (x y:Int):subQ x y=x - y:=by
  cases x <;> cases y <;> try rfl
  rename_i a b
  show @Bool.rec (fun _=>Int) _ _ _=_
  cases hb:Nat.ble b a with
  | false=>rfl
  | true=>
    have h1:b≤a:=Nat.le_of_ble_eq_true hb
    show Int.ofNat (a - b)=_
    simp only [Int.ofNat_eq_natCast];omega
theorem eqQ_eq (x y:Int):eqQ x y=(x == y):=by
  cases x <;> cases y <;> try rfl
  rename_i a b
  show Nat.beq a b=_
  by_cases e:a=b
  · subst e;rw [Nat.beq_refl];simp
  · have:Nat.beq a b=false:=by rw [← Bool.not_eq_true,Nat.beq_eq];exact e
    rw [this];symm;simp [e];omega
theorem ltQ_eq (x y:Int):ltQ x y=decide (x < y):=by
  cases x <;> cases y <;> try rfl
  rename_i a b
  show Nat.ble (a + 1) b=_
  by_cases e:a < b
  · rw [Nat.ble_eq_true_of_le e];symm;simp [e]
  · have:Nat.ble (a + 1) b=false:=by rw [← Bool.not_eq_true];exact fun h=>e (Nat.le_of_ble_eq_true h)
    rw [this];symm;simp;omega
theorem leQ_eq (x y:Int):leQ x y=decide (x≤y):=by
  cases x <;> cases y <;> try rfl
  rename_i a b
  show Nat.ble a b=_
  by_cases e:a≤b
  · rw [Nat.ble_eq_true_of_le e];symm;simp [e]
  · have:Nat.ble a b=false:=by rw [← Bool.not_eq_true];exact fun h=>e (Nat.le_of_ble_eq_true h)
    rw [this];symm;simp;omega
theorem minQ_eq (b m:Nat):minQ b m=min b m:=by
  show @Bool.rec (fun _=>Nat) m b (Nat.ble b m)=_
  cases hb:Nat.ble b m with
  | true=>have:=Nat.le_of_ble_eq_true hb;rw [Nat.min_eq_left this]
  | false=>
    have:¬ b≤m:=fun h=>by rw [Nat.ble_eq_true_of_le h] at hb;cases hb
    rw [Nat.min_eq_right (by omega)]
section
variable {α:Type} {r:α}
theorem same_some {j k:IntKind} {f:Option α} (h:same j k f=some r):j=k∧f=some r:=by
  obtain ⟨h1,h2⟩:=bif_some h
  exact ⟨kn_inj h1,h2⟩
def IntOut (op:BinOp) (j:IntKind) (x:Int) (k:IntKind) (y:Int) (v:Value):Prop:=(∀ t,binOp op t (.int j x) (.int k y)=pure v)∧∀ σ,VT σ v v
theorem VT.num (k:IntKind) (n:Int) (σ:Sg):VT σ (.int k n) (.int k n):=.va (.one (.int k n))
theorem VT.tf (b:Bool) (σ:Sg):VT σ (.bool b) (.bool b):=.va (.one (.bool b))
theorem bitQ_some {op:BinOp} {k:IntKind} {x y:Int} {f:Value→Option α} (h:bitQ op k x y f=some r):∃ n,f (.int k n)=some r∧Op.intBits op k x y=pure (.int k n):=by
  unfold bitQ at h
  cases op <;> first
    | (simp [Op.intBits,pureRun,stuck] at h;done)
    | (simp only [Op.intBits] at h ⊢
       refine ⟨_,?_,rfl⟩
       have h':intK _ (fun k n=>forceI n fun n=>f (.int k n))=some r:=h
       have h2:forceI _ (fun n=>f (.int k n))=some r:=h'
       rw [forceI_eq] at h2
       exact h2)
theorem shlQ_some {k j:IntKind} {x y:Int} {f:Value→Option α} (h:shlQ k x y f=some r):∃ n,f (.int k n)=some r∧Op.shift .shl k x j y=pure (.int k n):=by
  cases y with
  | negSucc m=>cases h
  | ofNat b=>
    have h':forceI _ (fun n=>f (.int k n))=some r:=h
    rw [forceI_eq] at h'
    refine ⟨_,h',?_⟩
    have hy:¬ (Int.ofNat b < 0):=by simp
    simp only [Op.shift,if_neg hy]
    have ht:(Int.ofNat b).toNat=b:=rfl
    rw [ht]
    congr 2
    cases x with
    | negSucc a=>simp only [minQ_eq]
    | ofNat a=>
      show _=wrapQ k (Int.ofNat (Nat.mul a (Nat.pow 2 (minQ b k.bits))))
      rw [wrapQ_eq,minQ_eq]
      congr 1
      all_goals (show _=Int.ofNat (a * 2 ^ min b k.bits);simp [Int.natCast_mul,Int.natCast_pow])
theorem shrQ_some {k j:IntKind} {x y:Int} {f:Value→Option α} (h:shrQ k x y f=some r):∃ n,f (.int k n)=some r∧Op.shift .shr k x j y=pure (.int k n):=by
  cases y with
  | negSucc m=>cases h
  | ofNat b=>
    have h':forceI _ (fun n=>f (.int k n))=some r:=h
    rw [forceI_eq] at h'
    refine ⟨_,h',?_⟩
    have hy:¬ (Int.ofNat b < 0):=by simp
    simp only [Op.shift,if_neg hy]
    have ht:(Int.ofNat b).toNat=b:=rfl
    rw [ht]
    congr 2
    cases x with
    | negSucc a=>simp only [minQ_eq]
    | ofNat a=>
      show _=Int.ofNat (a / 2 ^ (minQ b k.bits))
      rw [minQ_eq]
      have hp:(0:Int)≤2 ^ min b k.bits:=Int.pow_nonneg (by decide)
      rw [Int.fdiv_eq_ediv_of_nonneg _ hp]
      simp [Int.natCast_ediv,Int.natCast_pow]
theorem quoQ_some {k:IntKind} {x y:Int} {f:Value→Option α} (h:quoQ k x y f=some r):∃ n,f (.int k n)=some r∧Op.intDiv .quo k x y=pure (.int k n):=by
  have gen:∀ (x y:Int),(@Bool.rec (fun _=>Option α) (forceI (k.wrap (x.tdiv y)) fun n=>f (.int k n)) none (y == 0))=some r→∃ n,f (.int k n)=some r∧Op.intDiv .quo k x y=pure (.int k n):=by
    intro x y h
    by_cases e:y=0
    · subst e;cases h
    · have hb:(y == 0)=false:=by simpa using e
      rw [hb] at h
      have h':forceI (k.wrap (x.tdiv y)) (fun n=>f (.int k n))=some r:=h
      rw [forceI_eq] at h'
      exact ⟨_,h',by simp [Op.intDiv,e]⟩
  cases x <;> cases y <;> try exact gen _ _ h
  rename_i a b
  have h1 : @Bool.rec (fun _=>Option α) (forceI (wrapQ k (Int.ofNat (Nat.div a b))) fun n=>f (.int k n)) none (Nat.beq b 0)=some r:=h
  cases hb:Nat.beq b 0 with
  | true=>rw [hb] at h1;cases h1
  | false=>
    rw [hb] at h1
    have h':forceI (wrapQ k (Int.ofNat (Nat.div a b))) (fun n=>f (.int k n))=some r:=h1
    rw [forceI_eq,wrapQ_eq] at h'
    have e:¬ (Int.ofNat b=0):=fun e=>by
      have:b=0:=by simpa using e
      subst this;cases hb
    refine ⟨_,h',?_⟩
    simp only [Op.intDiv,if_neg e]
    rfl
theorem remQ_some {k:IntKind} {x y:Int} {f:Value→Option α} (h:remQ k x y f=some r):∃ n,f (.int k n)=some r∧Op.intDiv .rem k x y=pure (.int k n):=by
  have gen:∀ (x y:Int),(@Bool.rec (fun _=>Option α) (forceI (x.tmod y) fun n=>f (.int k n)) none (y == 0))=some r→∃ n,f (.int k n)=some r∧Op.intDiv .rem k x y=pure (.int k n):=by
    intro x y h
    by_cases e:y=0
    · subst e;cases h
    · have hb:(y == 0)=false:=by simpa using e
      rw [hb] at h
      have h':forceI (x.tmod y) (fun n=>f (.int k n))=some r:=h
      rw [forceI_eq] at h'
      exact ⟨_,h',by simp [Op.intDiv,e]⟩
  cases x <;> cases y <;> try exact gen _ _ h
  rename_i a b
  have h1 : @Bool.rec (fun _=>Option α) (forceI (Int.ofNat (Nat.mod a b)) fun n=>f (.int k n)) none (Nat.beq b 0)=some r:=h
  cases hb:Nat.beq b 0 with
  | true=>rw [hb] at h1;cases h1
  | false=>
    rw [hb] at h1
    have h':forceI (Int.ofNat (Nat.mod a b)) (fun n=>f (.int k n))=some r:=h1
    rw [forceI_eq] at h'
    have e:¬ (Int.ofNat b=0):=fun e=>by
      have:b=0:=by simpa using e
      subst this;cases hb
    refine ⟨_,h',?_⟩
    simp only [Op.intDiv,if_neg e]
    rfl
theorem binI_some {op:BinOp} {j k:IntKind} {x y:Int} {f:Value→Option α} (h:binI op j x k y f=some r):∃ v,f v=some r∧IntOut op j x k y v:=by
  cases op
  case add=>
    obtain ⟨rfl,g⟩:=same_some h
    rw [forceI_eq,wrapQ_eq,addQ_eq] at g
    exact ⟨_,g,fun t=>by rw [binOp_add];rfl,VT.num _ _⟩
  case sub=>
    obtain ⟨rfl,g⟩:=same_some h
    rw [forceI_eq,wrapQ_eq,subQ_eq] at g
    exact ⟨_,g,fun t=>by rw [binOp_sub];rfl,VT.num _ _⟩
  case mul=>
    obtain ⟨rfl,g⟩:=same_some h
    rw [forceI_eq,wrapQ_eq,mulQ_eq] at g
    exact ⟨_,g,fun t=>by rw [binOp_mul];rfl,VT.num _ _⟩
  case quo=>
    obtain ⟨rfl,g⟩:=same_some h
    obtain ⟨n,h1,h2⟩:=quoQ_some g
    exact ⟨_,h1,fun t=>by rw [binOp_quo,h2],VT.num _ _⟩
  case rem=>
    obtain ⟨rfl,g⟩:=same_some h
    obtain ⟨n,h1,h2⟩:=remQ_some g
    exact ⟨_,h1,fun t=>by rw [binOp_rem,h2],VT.num _ _⟩
  case and=>
    obtain ⟨rfl,g⟩:=same_some h
    obtain ⟨n,h1,h2⟩:=bitQ_some g
    exact ⟨_,h1,fun t=>by rw [binOp_and,h2],VT.num _ _⟩
  case or=>
    obtain ⟨rfl,g⟩:=same_some h
    obtain ⟨n,h1,h2⟩:=bitQ_some g
    exact ⟨_,h1,fun t=>by rw [binOp_or,h2],VT.num _ _⟩
  case xor=>
    obtain ⟨rfl,g⟩:=same_some h
    obtain ⟨n,h1,h2⟩:=bitQ_some g
    exact ⟨_,h1,fun t=>by rw [binOp_xor,h2],VT.num _ _⟩
  case andNot=>
    obtain ⟨rfl,g⟩:=same_some h
    obtain ⟨n,h1,h2⟩:=bitQ_some g
    exact ⟨_,h1,fun t=>by rw [binOp_andNot,h2],VT.num _ _⟩
  case shl=>
    obtain ⟨n,h1,h2⟩:=shlQ_some (j:=k) h
    exact ⟨_,h1,fun t=>by rw [binOp_shl,h2],VT.num _ _⟩
  case shr=>
    obtain ⟨n,h1,h2⟩:=shrQ_some (j:=k) h
    exact ⟨_,h1,fun t=>by rw [binOp_shr,h2],VT.num _ _⟩
  case eql=>
    obtain ⟨rfl,g⟩:=same_some h
    rw [forceB_eq,eqQ_eq] at g
    exact ⟨_,g,fun t=>by rw [binOp_eql],VT.tf _⟩
  case neq=>
    obtain ⟨rfl,g⟩:=same_some h
    rw [forceB_eq,eqQ_eq] at g
    exact ⟨_,g,fun t=>by rw [binOp_neq];rfl,VT.tf _⟩
  case lss=>
    obtain ⟨rfl,g⟩:=same_some h
    rw [forceB_eq,ltQ_eq] at g
    exact ⟨_,g,fun t=>by rw [binOp_lss],VT.tf _⟩
  case leq=>
    obtain ⟨rfl,g⟩:=same_some h
    rw [forceB_eq,leQ_eq] at g
    exact ⟨_,g,fun t=>by rw [binOp_leq],VT.tf _⟩
  case gtr=>
    obtain ⟨rfl,g⟩:=same_some h
    rw [forceB_eq,ltQ_eq] at g
    exact ⟨_,g,fun t=>by rw [binOp_gtr],VT.tf _⟩
  case geq=>
    obtain ⟨rfl,g⟩:=same_some h
    rw [forceB_eq,leQ_eq] at g
    exact ⟨_,g,fun t=>by rw [binOp_geq],VT.tf _⟩
end
end Go.Proofs.YtnpdcjdmbkcpbaaGreat.Ev
namespace Go.Proofs.YtnpdcjdmbkcpbaaGreat.Ev
open Go
section
variable (w:World) (d:Nat) {t e k:TypeId}
theorem equalIn_num {q j:IntKind} (x y:Int) (hu:Tryz.prog.underlying t=some (.int q)):(Op.equalIn (d + 1) t (.int j x) (.int j y)).run Tryz.prog w = .ok (x == y) w:=by
  simp [Op.equalIn,run_underlying hu]
theorem equalIn_ptr_nil (q:Option Addr) (hu:Tryz.prog.underlying t=some (.pointer e)):(Op.equalIn (d + 1) t (.pointer none) (.pointer q)).run Tryz.prog w = .ok q.isNone w:=by
  cases q <;> simp [Op.equalIn,run_underlying hu]
theorem equalIn_ptr_no (a:Addr) (hu:Tryz.prog.underlying t=some (.pointer e)):(Op.equalIn (d + 1) t (.pointer (some a)) (.pointer none)).run Tryz.prog w = .ok false w:=by
  simp [Op.equalIn,run_underlying hu]
theorem equalIn_sl_nil (q:Option Addr) (n c n' c':Nat) (hu:Tryz.prog.underlying t=some (.slice e)):(Op.equalIn (d + 1) t (.slice none n c) (.slice q n' c')).run Tryz.prog w = .ok q.isNone w:=by
  cases q <;> simp [Op.equalIn,run_underlying hu]
theorem equalIn_sl_no (a:Addr) (n c n' c':Nat) (hu:Tryz.prog.underlying t=some (.slice e)):(Op.equalIn (d + 1) t (.slice (some a) n c) (.slice none n' c')).run Tryz.prog w = .ok false w:=by
  simp [Op.equalIn,run_underlying hu]
theorem equalIn_mp_nil (q:Option Nat) (hu:Tryz.prog.underlying t=some (.map k e)):(Op.equalIn (d + 1) t (.map none) (.map q)).run Tryz.prog w = .ok q.isNone w:=by
  cases q <;> simp [Op.equalIn,run_underlying hu]
theorem equalIn_mp_no (a:Nat) (hu:Tryz.prog.underlying t=some (.map k e)):(Op.equalIn (d + 1) t (.map (some a)) (.map none)).run Tryz.prog w = .ok false w:=by
  simp [Op.equalIn,run_underlying hu]
end
section
variable {α:Type} {r:α}
def EqOut (t:TypeId) (a b:Value) (e:Bool):Prop:=∀ σ w a' b',VT σ a a'→VT σ b b'→(Op.equal t a' b').run Tryz.prog w = .ok e w∧(∀ op x y,(eqGuard op t x y a' b').run Tryz.prog w = .ok () w) ∧
  (binOp .eql t a' b'=(do pure (.bool (← Op.equal t a' b'))))∧(binOp .neq t a' b'=(do pure (.bool (!(← Op.equal t a' b')))))
theorem part_int {e:TypeId} {q:IntKind} (he:Tryz.prog.underlying e=some (.int q)) {xs:Array Value} {off:Nat} {v:Value} (hx:xs[off]?=some v) (w:World):(part e xs off).run Tryz.prog w = .ok v w:=by
  simp [part,isAgg,run_underlying he,hx]
theorem eqL_some {e:TypeId} {q:IntKind} (he:Tryz.prog.underlying e=some (.int q)):∀ {l m:List Value} {f:Bool→Option α},eqL l m f=some r→∃ b,f b=some r ∧
    ∀ σ w d l' m',L2 (V1 σ) l l'→L2 (V1 σ) m m'→∀ i (xs ys:Array Value),xs.toList.drop i=l'→ys.toList.drop i=m'→(Op.eqItems (d + 1) e 1 xs ys (List.range' i l.length)).run Tryz.prog w = .ok b w
  | [],m,f,h=>by
    cases m with
    | cons v m=>cases h
    | nil=>exact ⟨true,h,fun σ w d l' m' _ _ i xs ys _ _=>rfl⟩
  | v :: l,[],f,h=>by cases h
  | v :: l,u :: m,f,h=>by
    have h':intK v (fun j x=>intK u fun k y=>same j k (@Bool.rec (fun _=>Option α) (f false) (eqL l m f) (eqQ x y)))=some r:=h
    obtain ⟨j,x,rfl,h1⟩:=intK_some h'
    obtain ⟨k,y,rfl,h2⟩:=intK_some h1
    obtain ⟨rfl,h3⟩:=same_some h2
    rw [eqQ_eq] at h3
    have heads:∀ σ l' m',L2 (V1 σ) (.int j x :: l) l'→L2 (V1 σ) (.int j y :: m) m'→∀ i (xs ys:Array Value),xs.toList.drop i=l'→ys.toList.drop i=m' →
        ∃ l2 m2,L2 (V1 σ) l l2∧L2 (V1 σ) m m2∧xs.toList.drop (i + 1)=l2∧ys.toList.drop (i + 1)=m2∧xs[i]?=some (.int j x)∧ys[i]?=some (.int j y):=by
      intro σ l' m' hl hm i xs ys hx hy
      cases hl with | cons a1 a2=>cases hm with | cons b1 b2=>
      cases a1;cases b1
      refine ⟨_,_,a2,b2,?_,?_,?_,?_⟩
      · rw [← List.drop_drop,hx];rfl
      · rw [← List.drop_drop,hy];rfl
      · have:=congrArg (·[0]?) hx
        simpa using this
      · have:=congrArg (·[0]?) hy
        simpa using this
    cases hb:(x == y) with
    | false=>
      rw [hb] at h3
      refine ⟨false,h3,fun σ w d l' m' hl hm i xs ys hx hy=>?_⟩
      obtain ⟨l2,m2,_,_,_,_,g1,g2⟩:=heads σ l' m' hl hm i xs ys hx hy
      have g3:=part_int he (show xs[i * 1]?=some (.int j x) by simpa using g1) w
      have g4:=part_int he (show ys[i * 1]?=some (.int j y) by simpa using g2) w
      have g5:=equalIn_num w d (j:=j) x y he
      simp only [List.length_cons,List.range'_succ,Op.eqItems,Sem.run_bind,g3,g4,g5,hb,Result.andThen_ok]
      rfl
    | true=>
      rw [hb] at h3
      obtain ⟨b,h4,h5⟩:=eqL_some he (l:=l) (m:=m) h3
      refine ⟨b,h4,fun σ w d l' m' hl hm i xs ys hx hy=>?_⟩
      obtain ⟨l2,m2,a1,a2,a3,a4,g1,g2⟩:=heads σ l' m' hl hm i xs ys hx hy
      have g3:=part_int he (show xs[i * 1]?=some (.int j x) by simpa using g1) w
      have g4:=part_int he (show ys[i * 1]?=some (.int j y) by simpa using g2) w
      have g5:=equalIn_num w d (j:=j) x y he
      have g6:=h5 σ w d l2 m2 a1 a2 (i + 1) xs ys a3 a4
      simp only [List.length_cons,List.range'_succ,Op.eqItems,Sem.run_bind,g3,g4,g5,hb,Result.andThen_ok]
      exact g6
theorem eqB_some {t:TypeId} {a b:Value} {f:Bool→Option α} (h:eqB t a b f=some r):∃ e,f e=some r∧EqOut t a b e:=by
  cases a with
  | bool c=>
    obtain ⟨h0,h⟩:=sortK_some (t:=t) (c:=1) h
    have hu:Tryz.prog.underlying t=some .bool:=sort_ok h0 (by omega)
    rcases boolK_some h with ⟨rfl,g⟩ | ⟨rfl,g⟩ <;> rw [forceB_eq] at g
    · refine ⟨_,g,fun σ w a' b' ha hb=>?_⟩
      rw [ha.bool,hb.bool]
      exact ⟨by rw [run_equal_bool w t c true hu];simp,fun op x y=>by rw [eqGuard_at_bool];rfl,rfl,rfl⟩
    · refine ⟨_,g,fun σ w a' b' ha hb=>?_⟩
      rw [ha.bool,hb.bool]
      exact ⟨by rw [run_equal_bool w t c false hu];simp,fun op x y=>by rw [eqGuard_at_bool];rfl,rfl,rfl⟩
  | pointer p=>
    obtain ⟨h0,h⟩:=sortK_some (t:=t) (c:=4) h
    obtain ⟨el,hu⟩:=sort_ok h0 (by omega)
    have hu:Tryz.prog.underlying t=some (.pointer el):=hu
    cases p with
    | none=>
      cases b with
      | pointer q=>
        have g:forceB q.isNone f=some r:=h
        rw [forceB_eq] at g
        refine ⟨_,g,fun σ w a' b' ha hb=>?_⟩
        rw [ha.pnil]
        cases q with
        | none=>
          rw [hb.pnil]
          refine ⟨?_,fun op x y=>by rw [eqGuard_at_pointer];rfl,rfl,rfl⟩
          exact equalIn_ptr_nil w 9999 none hu
        | some q=>
          obtain ⟨_,_,_,e⟩:=hb.ptr
          rw [e]
          refine ⟨?_,fun op x y=>by rw [eqGuard_at_pointer];rfl,rfl,rfl⟩
          exact equalIn_ptr_nil w 9999 (some _) hu
      | _=>cases h
    | some ad=>
      cases b with
      | pointer q=>cases q with
        | some q=>cases h
        | none=>
          refine ⟨false,h,fun σ w a' b' ha hb=>?_⟩
          obtain ⟨_,_,_,e⟩:=ha.ptr
          rw [e,hb.pnil]
          refine ⟨?_,fun op x y=>by rw [eqGuard_at_pointer];rfl,rfl,rfl⟩
          exact equalIn_ptr_no w 9999 _ hu
      | _=>cases h
  | slice p n c=>
    obtain ⟨h0,h⟩:=sortK_some (t:=t) (c:=5) h
    have hu:=(elem_of h0).1
    cases p with
    | none=>
      cases b with
      | slice q n' c'=>
        have g:forceB q.isNone f=some r:=h
        rw [forceB_eq] at g
        refine ⟨_,g,fun σ w a' b' ha hb=>?_⟩
        cases ha with | va ha=>cases ha with | one ha=>cases ha with | snil=>
        cases hb with | va hb=>cases hb with | one hb=>
        cases hb with
        | snil=>
          refine ⟨?_,fun op x y=>by rw [eqGuard_at_slice];rfl,rfl,rfl⟩
          exact equalIn_sl_nil w 9999 none _ _ _ _ hu
        | sl=>
          refine ⟨?_,fun op x y=>by rw [eqGuard_at_slice];rfl,rfl,rfl⟩
          exact equalIn_sl_nil w 9999 (some _) _ _ _ _ hu
        | sle=>
          refine ⟨?_,fun op x y=>by rw [eqGuard_at_slice];rfl,rfl,rfl⟩
          exact equalIn_sl_nil w 9999 (some _) _ _ _ _ hu
      | _=>cases h
    | some ad=>
      cases b with
      | slice q n' c'=>cases q with
        | some q=>cases h
        | none=>
          refine ⟨false,h,fun σ w a' b' ha hb=>?_⟩
          have e:∃ b o n c,a' = .slice (some ⟨b,o,none⟩) n c:=by
            cases ha with | va ha=>cases ha with | one ha=>cases ha <;> exact ⟨_,_,_,_,rfl⟩
          obtain ⟨_,_,_,_,rfl⟩:=e
          cases hb with | va hb=>cases hb with | one hb=>cases hb with | snil=>
          refine ⟨?_,fun op x y=>by rw [eqGuard_at_slice];rfl,rfl,rfl⟩
          exact equalIn_sl_no w 9999 _ _ _ _ _ hu
      | _=>cases h
  | map p =>
    obtain ⟨h0,h⟩:=sortK_some (t:=t) (c:=7) h
    obtain ⟨qk,kk,hu,_⟩:=sort_ok h0 (by omega)
    have hu:Tryz.prog.underlying t=some (.map qk (elemT t)):=hu
    cases p with
    | none=>
      cases b with
      | map q=>
        have g:forceB q.isNone f=some r:=h
        rw [forceB_eq] at g
        refine ⟨_,g,fun σ w a' b' ha hb=>?_⟩
        cases ha with | va ha=>cases ha with | one ha=>cases ha with | mnil=>
        cases hb with | va hb=>cases hb with | one hb=>
        cases hb with
        | mnil=>
          refine ⟨?_,fun op x y=>by rw [eqGuard_at_map];rfl,rfl,rfl⟩
          exact equalIn_mp_nil w 9999 none hu
        | mp=>
          refine ⟨?_,fun op x y=>by rw [eqGuard_at_map];rfl,rfl,rfl⟩
          exact equalIn_mp_nil w 9999 (some _) hu
      | _=>cases h
    | some ad=>
      cases b with
      | map q=>cases q with
        | some q=>cases h
        | none=>
          refine ⟨false,h,fun σ w a' b' ha hb=>?_⟩
          obtain ⟨_,_,e⟩:=ha.mp
          rw [e]
          cases hb with | va hb=>cases hb with | one hb=>cases hb with | mnil=>
          refine ⟨?_,fun op x y=>by rw [eqGuard_at_map];rfl,rfl,rfl⟩
          exact equalIn_mp_no w 9999 _ hu
      | _=>cases h
  | agg c =>
    obtain ⟨h0,h⟩:=sortK_some (t:=t) (c:=6) h
    obtain ⟨h00,h⟩:=sortK_some (t:=elemT t) (c:=2) h
    obtain ⟨n,hu,hal⟩:=sort_ok h0 (by omega)
    have hu:Tryz.prog.underlying t=some (.array n (elemT t)):=hu
    obtain ⟨q,he⟩:=sort_ok h00 (by omega)
    have he:Tryz.prog.underlying (elemT t)=some (.int q):=he
    cases b with
    | agg d=>
      obtain ⟨c⟩:=c
      obtain ⟨d⟩:=d
      obtain ⟨hb1,h⟩:=bif_some h
      obtain ⟨hb2,h⟩:=bif_some h
      have hlen:c.length=n:=by
        have:=Nat.eq_of_beq_eq_true hb1
        rw [hal] at this
        exact Nat.succ.inj this
      have hsz:=Nat.eq_of_beq_eq_true hb2
      obtain ⟨i,d2,k1,k2⟩:=size_ok (t:=elemT t) (n:=0) hsz
      obtain ⟨e,h1,h2⟩:=eqL_some he h
      refine ⟨e,h1,fun σ w a' b' ha hb=>?_⟩
      obtain ⟨l',rfl,hl⟩:=ha.agg
      obtain ⟨m',rfl,hm⟩:=hb.agg
      refine ⟨?_,fun op x y=>?_,rfl,rfl⟩
      · show (Op.equalIn (9999 + 1) t _ _).run _ _=_
        rw [run_equalIn_array w 9999 ⟨l'⟩ ⟨m'⟩ hu k1.info]
        have hc:Tryz.prog.cellsOf (elemT t)=1:=by simp [Program.cellsOf,k1.info,k2]
        rw [hc,List.range_eq_range',← hlen]
        exact h2 σ w 9998 l' m' hl hm 0 ⟨l'⟩ ⟨m'⟩ rfl rfl
      · have hg:Tryz.prog.eqGuardType Tryz.prog.depth t=false:=by
          have hd:Tryz.prog.depth=(2 * (Tryz.prog.types.size + Made.depth)) + 1 + 1:=rfl
          rw [hd]
          simp only [Program.eqGuardType,hu,he]
        cases op
        case eql=>simp only [eqGuard,Bool.not_true,Bool.false_eq_true,if_false,Sem.run_bind,run_program,Result.andThen_ok,hg,Bool.not_false,if_true,Sem.run_pure]
        case neq=>simp only [eqGuard,Bool.not_true,Bool.false_eq_true,if_false,Sem.run_bind,run_program,Result.andThen_ok,hg,Bool.not_false,if_true,Sem.run_pure]
        all_goals rfl
    | _=>cases h
  | _=>cases h
theorem binV_some {op:BinOp} {t:TypeId} {a b:Value} {f:Value→Option α} (h:binV op t a b f=some r):∃ v,f v=some r∧∀ σ w a' b' x y,VT σ a a'→VT σ b b' →
    (eqGuard op t x y a' b').run Tryz.prog w = .ok () w∧(binOp op t a' b').run Tryz.prog w = .ok v w∧VT σ v v:=by
  have gen:∀ (a:Value),(@BinOp.casesOn (fun _=>Option α) op none none none none none none none none none none none (eqB t a b fun e=>f (.bool e)) (eqB t a b fun e=>forceB (!e) fun e=>f (.bool e)) none none none none)=some r →
      ∃ v,f v=some r∧∀ σ w a' b' x y,VT σ a a'→VT σ b b'→(eqGuard op t x y a' b').run Tryz.prog w = .ok () w∧(binOp op t a' b').run Tryz.prog w = .ok v w∧VT σ v v:=by
    intro a h
    cases op <;> try (cases h;done)
    case eql=>
      obtain ⟨e,h1,h2⟩:=eqB_some h
      refine ⟨_,h1,fun σ w a' b' x y ha hb=>?_⟩
      obtain ⟨h3,h4,h5,h6⟩:=h2 σ w a' b' ha hb
      exact ⟨h4 _ _ _,by rw [h5];simp [h3],VT.tf _ _⟩
    case neq=>
      obtain ⟨e,h1,h2⟩:=eqB_some h
      rw [forceB_eq] at h1
      refine ⟨_,h1,fun σ w a' b' x y ha hb=>?_⟩
      obtain ⟨h3,h4,h5,h6⟩:=h2 σ w a' b' ha hb
      exact ⟨h4 _ _ _,by rw [h6];simp [h3],VT.tf _ _⟩
  cases a with
  | int j x=>
    obtain ⟨k,y,rfl,h1⟩:=intK_some (v:=b) h
    obtain ⟨v,h2,h3,h4⟩:=binI_some h1
    refine ⟨v,h2,fun σ w a' b' x y ha hb=>?_⟩
    rw [ha.int,hb.int]
    exact ⟨by rw [eqGuard_at_int];rfl,by rw [h3];rfl,h4 σ⟩
  | _=>exact gen _ h
end
section
variable {cf:CallF} {tm:Tm} {s:St} {k:Value→St→R} {r:Tm × St}
theorem binOp_some {op:BinOp} {t u:TypeId} {x y:Operand} (h:binOpK op t x y u cf tm s k=some r):∃ v,k v s=some r∧PureR (.binOp op t x y u) tm v:=by
  obtain ⟨a,h1,h2⟩:=evK_some (x:=x) (tm:=tm) h
  obtain ⟨b,h3,h4⟩:=evK_some (x:=y) (tm:=tm) h1
  obtain ⟨v,h5,h6⟩:=binV_some h3
  refine ⟨v,h5,fun σ w ac o ho ht=>?_⟩
  obtain ⟨h7,h8,h9⟩:=h6 σ w _ _ x y (h2 σ ac (ht x (by simp [Op.operands]))) (h4 σ ac (ht y (by simp [Op.operands])))
  exact ⟨v,by simp [execOp,ho,h7,h8],h9⟩
theorem unOp_some {op:UnOp} {t:TypeId} {x:Operand} (h:unOpK op t x cf tm s k=some r):∃ v,k v s=some r∧PureR (.unOp op t x) tm v:=by
  obtain ⟨a,h1,h2⟩:=evK_some (x:=x) (tm:=tm) h
  cases a with
  | bool b=>
    cases op with
    | not=>
      have h1':forceB (!b) (fun b=>k (.bool b) s)=some r:=h1
      rw [forceB_eq] at h1'
      refine ⟨_,h1',fun σ w ac o ho ht=>⟨.bool !b,?_,VT.tf _ _⟩⟩
      have e:=(h2 σ ac (ht x (by simp [Op.operands]))).bool
      simp [execOp,ho,e,Op.unary]
    | _=>cases h1
  | int j n=>
    cases op with
    | neg=>
      have h1':forceI (wrapQ j (subQ 0 n)) (fun n=>k (.int j n) s)=some r:=h1
      rw [forceI_eq,wrapQ_eq,subQ_eq] at h1'
      refine ⟨_,h1',fun σ w ac o ho ht=>⟨.int j (j.wrap (0 - n)),?_,VT.num _ _ _⟩⟩
      have e:=(h2 σ ac (ht x (by simp [Op.operands]))).int
      simp [execOp,ho,e,Op.unary,Op.intArith]
    | _=>cases h1
  | _=>cases h1
theorem convert_some {t u:TypeId} {x:Operand} (h:convertK t u x cf tm s k=some r):∃ v,k v s=some r∧PureR (.convert t u x) tm v:=by
  obtain ⟨h0,h⟩:=sortK_some (t:=t) (c:=2) h
  obtain ⟨a,h1,h2⟩:=evK_some (x:=x) (tm:=tm) h
  obtain ⟨j,n,rfl,h3⟩:=intK_some h1
  cases hk:kindT u with
  | none=>rw [hk] at h3;cases h3
  | some q=>
    rw [hk] at h3
    have h3':forceI (wrapQ q n) (fun n=>k (.int q n) s)=some r:=h3
    rw [forceI_eq,wrapQ_eq] at h3'
    refine ⟨_,h3',fun σ w ac o ho ht=>⟨.int q (q.wrap n),?_,VT.num _ _ _⟩⟩
    have e:=(h2 σ ac (ht x (by simp [Op.operands]))).int
    obtain ⟨kk,hs⟩:=sort_ok h0 (by omega)
    have hs:Tryz.prog.underlying t=some (.int kk):=hs
    simp [execOp,ho,e,convert,run_underlying hs,run_underlying (kind_ok hk),Conv.intToInt]
theorem index_some {t:TypeId} {x y:Operand} (h:indexK t x y cf tm s k=some r):∃ v,k v s=some r∧PureR (.index t x y) tm v:=by
  obtain ⟨a,h1,h2⟩:=evK_some (x:=x) (tm:=tm) h
  obtain ⟨b,h3,h4⟩:=evK_some (x:=y) (tm:=tm) h1
  obtain ⟨j,i,rfl,h5⟩:=natK_some h3
  cases a with
  | string b=>
    obtain ⟨h0,h6⟩:=sortK_some (t:=t) (c:=3) h5
    have hu:Tryz.prog.underlying t=some .string:=sort_ok h0 (by omega)
    cases hb:b[i]? with
    | none=>rw [hb] at h6;cases h6
    | some c=>
      rw [hb] at h6
      have h6':forceI (Int.ofNat c.toNat) (fun n=>k (.int .u8 n) s)=some r:=h6
      rw [forceI_eq] at h6'
      refine ⟨_,h6',fun σ w ac o ho ht=>⟨.int .u8 (Int.ofNat c.toNat),?_,VT.num _ _ _⟩⟩
      have e1:=(h2 σ ac (ht x (by simp [Op.operands]))).str
      have e2:=(h4 σ ac (ht y (by simp [Op.operands]))).int
      simp [execOp,ho,e1,e2,Instr.index,asIntOf,run_underlying hu,hb]
  | agg cs=>
    obtain ⟨h0,h6⟩:=sortK_some (t:=t) (c:=6) h5
    obtain ⟨h00,h6⟩:=sortK_some (t:=elemT t) (c:=2) h6
    obtain ⟨hb,h6⟩:=bif_some h6
    rw [listK_eq] at h6
    obtain ⟨z,ii,d,q1,q2,q3,h7⟩:=sizeK_some (t:=elemT t) h6
    obtain ⟨v,h8,h9⟩:=nthK_some h7
    obtain ⟨n,hu,hal⟩:=sort_ok h0 (by omega)
    have hu:Tryz.prog.underlying t=some (.array n (elemT t)):=hu
    obtain ⟨q,he⟩:=sort_ok h00 (by omega)
    have he:Tryz.prog.underlying (elemT t)=some (.int q):=he
    have hb:i + 1 + 1≤alenT t:=Nat.le_of_ble_eq_true hb
    refine ⟨_,h9,fun σ w ac o ho ht=>?_⟩
    have e2:=(h4 σ ac (ht y (by simp [Op.operands]))).int
    have e1:VT σ (.agg ⟨cs.toList⟩) (ac.eval x):=h2 σ ac (ht x (by simp [Op.operands]))
    obtain ⟨l',e3,e4⟩:=e1.agg
    obtain ⟨v',e5,e6⟩:=e4.get h8
    have hp:=part_int he (xs:=⟨l'⟩) (off:=i * (z + 1)) (v:=v') (by simpa using e5) w
    have hc:i < n:=by omega
    refine ⟨v',?_,.va (.one e6)⟩
    simp [execOp,ho,e3,e2,Instr.index,asIntOf,run_underlying hu,hc,sizeOf,typeInfo,q1.info,q2,hp]
  | _=>cases h5
end
end Go.Proofs.YtnpdcjdmbkcpbaaGreat.Ev
namespace Go.Proofs.YtnpdcjdmbkcpbaaGreat.Ev
open Go
def BoundR (v:Option Value) (d y n:Nat):Prop:=(v=none∧n=d)∨∃ k,v=some (.int k (Int.ofNat n))∧n≤y
section
variable {α:Type} {r:α}
theorem boundK_some {v:Option Value} {d y:Nat} {f:Nat→Option α} (h:boundK v d y f=some r):∃ n,f n=some r∧BoundR v d y n:=by
  cases v with
  | none=>exact ⟨d,h,.inl ⟨rfl,rfl⟩⟩
  | some v=>
    have h':natK v (fun k=>@Bool.rec (fun _=>Option α) none (f k) (Nat.ble k y))=some r:=h
    obtain ⟨k,n,rfl,h1⟩:=natK_some h'
    obtain ⟨h2,h3⟩:=bif_some h1
    exact ⟨n,h3,.inr ⟨k,rfl,Nat.le_of_ble_eq_true h2⟩⟩
theorem BoundR.run {k:IntKind} {n y:Nat} (h:n≤y) (code:BoundsCode) (w:World):(Instr.sliceBound (.int k (Int.ofNat n)) y code).run Tryz.prog w = .ok n w:=by
  have:=run_sliceBound (P:=Tryz.prog) w k (Int.ofNat n) y code (by simp) (by simpa using h)
  simpa using this
theorem bounds_no {n c room h l:Nat} {lo hi:Option Value} (hr:room≤c) (h1:BoundR hi n room h) (h2:BoundR lo 0 h l) (w:World):(Instr.sliceBounds true n c lo hi none).run Tryz.prog w = .ok (l,h,c) w:=by
  have e1:∀ code w,(match hi with | some v=>Instr.sliceBound v c code | none=>(pure n:Sem Nat)).run Tryz.prog w = .ok h w:=by
    intro code w
    rcases h1 with ⟨rfl,rfl⟩ | ⟨k,rfl,h3⟩
    · rfl
    · exact BoundR.run (by omega) code w
  have e2:∀ code w,(match lo with | some v=>Instr.sliceBound v h code | none=>(pure 0:Sem Nat)).run Tryz.prog w = .ok l w:=by
    intro code w
    rcases h2 with ⟨rfl,rfl⟩ | ⟨k,rfl,h3⟩
    · rfl
    · exact BoundR.run h3 code w
  rcases h1 with ⟨rfl,rfl⟩ | ⟨k,rfl,h3⟩ <;> rcases h2 with ⟨rfl,rfl⟩ | ⟨k',rfl,h4⟩
  · simp [Instr.sliceBounds]
  · have g2:=BoundR.run (k:=k') h4 BoundsCode.sliceB w
    simp [Instr.sliceBounds] at g2 ⊢
    rw [g2];rfl
  · have:=BoundR.run (k:=k) (show h≤c by omega) BoundsCode.sliceAcap w
    simp [Instr.sliceBounds] at this ⊢
    rw [this];rfl
  · have g1:=BoundR.run (k:=k) (show h≤c by omega) BoundsCode.sliceAcap w
    have g2:=BoundR.run (k:=k') h4 BoundsCode.sliceB w
    simp [Instr.sliceBounds] at g1 g2 ⊢
    rw [g1];simp [g2]
theorem bounds_mx {n c m h l:Nat} {v:Value} {lo hi:Option Value} (h0:BoundR (some v) c c m) (hh:hi≠none) (h1:BoundR hi n m h) (h2:BoundR lo 0 h l) (w:World):(Instr.sliceBounds true n c lo hi (some v)).run Tryz.prog w = .ok (l,h,m) w:=by
  rcases h0 with ⟨h0,_⟩ | ⟨k0,h0,h3⟩
  · cases h0
  cases h0
  rcases h1 with ⟨rfl,_⟩ | ⟨k,rfl,h4⟩
  · exact absurd rfl hh
  have g0:=BoundR.run (k:=k0) h3 BoundsCode.slice3Acap w
  have g1:=BoundR.run (k:=k) h4 BoundsCode.slice3B w
  rcases h2 with ⟨rfl,rfl⟩ | ⟨k',rfl,h5⟩
  · simp [Instr.sliceBounds] at g0 g1 ⊢
    rw [g0];simp [g1]
  · have g2:=BoundR.run (k:=k') h5 BoundsCode.slice3C w
    simp [Instr.sliceBounds] at g0 g1 g2 ⊢
    rw [g0];simp [g1,g2]
theorem roomK_some {s:St} {b off z c:Nat} {f:Nat→Option α} (h:roomK s ⟨b,off,none⟩ z c f=some r) (hz:0 < z):∃ room,f room=some r∧(c≠U→room=c) ∧
    ∀ σ w p c',SimO σ s w→σ b=some p→RmR σ b off c c'→room≤c'∧(c=U→p.z=z):=by
  cases hb:Nat.beq c U with
  | false=>
    unfold roomK at h
    rw [hb] at h
    have hc:c≠U:=fun e=>by rw [e,Nat.beq_refl] at hb;cases hb
    refine ⟨c,h,fun _=>rfl,fun σ w p c' hs hp hr=>⟨?_,fun e=>absurd e hc⟩⟩
    rcases hr with ⟨rfl,_⟩ | ⟨e,_⟩
    · exact Nat.le_refl _
    · exact absurd e hc
  | true=>
    have hc:=Nat.eq_of_beq_eq_true hb
    unfold roomK at h
    rw [hb] at h
    obtain ⟨vs,t,h1,h2⟩:=cellsK_some (s:=s) h
    obtain ⟨h3,h4⟩:=bif_some h2
    rw [forceN_eq] at h4
    refine ⟨_,h4,fun e=>absurd hc e,fun σ w p c' hs hp hr=>?_⟩
    obtain ⟨cc,t',k1,_,k2,k0,k3,k4,k5⟩:=hs.cells h1 hp
    have hpz:p.z=z:=by rw [k0];exact Nat.eq_of_beq_eq_true h3
    refine ⟨?_,fun _=>hpz⟩
    rcases hr with ⟨rfl,h5⟩ | ⟨_,q,e,h5,h6,h7⟩
    · rw [hc] at h5;exact absurd h5 (Nat.lt_irrefl _)
    · rw [hp] at h5;cases h5
      show (vs.length - off) / z≤c'
      have h8:vs.length - off≤c' * z:=by
        rw [h6,hpz]
        have:p.cap * z=e * z + c' * z:=by rw [← h7,Nat.add_mul]
        rw [k2,hpz] at k4
        omega
      calc (vs.length - off) / z≤(c' * z) / z:=Nat.div_le_div_right h8
        _=c':=Nat.mul_div_cancel _ hz
end
theorem OpR.same {σ:Sg} {a:Act} {x:Option Operand} {v:Option Value} (h:OpR σ a x v) (hv:v=Option.none∨∃ k n,v=Option.some (Value.int k n)):x.map a.eval=v:=by
  cases h with
  | none=>rfl
  | some h=>
    rcases hv with hv | ⟨k,n,hv⟩
    · cases hv
    · cases hv
      have e:=VT.int h
      simp [e]
theorem BoundR.num {v:Option Value} {d y n:Nat} (h:BoundR v d y n):v=none∨∃ k n,v=some (.int k n):=by
  rcases h with ⟨rfl,_⟩ | ⟨k,rfl,_⟩
  · exact .inl rfl
  · exact .inr ⟨_,_,rfl⟩
section
variable {cf:CallF} {tm:Tm} {s:St} {k:Value→St→R} {r:Tm × St}
theorem slice_ops {t:TypeId} {x:Operand} {lo hi mx:Option Operand} {σ:Sg} {a:Act} (ht:OpsR σ tm a (.slice t x lo hi mx)) :
    TmAt σ tm a x∧(∀ y,lo=some y→TmAt σ tm a y)∧(∀ y,hi=some y→TmAt σ tm a y)∧(∀ y,mx=some y→TmAt σ tm a y):=
  ⟨ht x (by simp [Op.operands]),fun y hy=>ht y (by simp [Op.operands,hy]),fun y hy=>ht y (by simp [Op.operands,hy]),fun y hy=>ht y (by simp [Op.operands,hy])⟩
theorem slice_some {t:TypeId} {x:Operand} {lo hi mx:Option Operand} (h:sliceK t x lo hi mx cf tm s k=some r):∃ v,k v s=some r∧ReadR (.slice t x lo hi mx) tm s v:=by
  obtain ⟨h0,h⟩:=sortK_some (t:=t) (c:=5) h
  have hu:=elem_of h0
  obtain ⟨b,h1,h2⟩:=evK_some (x:=x) (tm:=tm) h
  obtain ⟨vl,h3,h4⟩:=evQK_some (x:=lo) (tm:=tm) h1
  obtain ⟨vh,h5,h6⟩:=evQK_some (x:=hi) (tm:=tm) h3
  obtain ⟨vm,h7,h8⟩:=evQK_some (x:=mx) (tm:=tm) h5
  obtain ⟨z,i,d,q1,q2,q3,h9⟩:=sizeK_some (t:=elemT t) h7
  have hsize:∀ w,(sizeOf (elemT t)).run Tryz.prog w = .ok (z + 1) w:=fun w=>by simp [sizeOf,typeInfo,q1.info,q2]
  have fin:∀ {v:Value} {a:Act} {o:Oper} {w:World} {p:Option Addr} {n c l hh m:Nat},o.op = .slice t x lo hi mx→a.eval x = .slice p n c→(Instr.sliceBounds true n c (lo.map a.eval) (hi.map a.eval) (mx.map a.eval)).run Tryz.prog w = .ok (l,hh,m) w →
      (execOp a.eval o).run Tryz.prog w = .ok (.value (sliced p l hh m (z + 1))) w:=by
    intro v a o w p n c l hh m ho hx hb
    have e1:=run_sliceAt_slice (P:=Tryz.prog) w t (.slice p n c) (lo.map a.eval) (hi.map a.eval) (mx.map a.eval) (by rw [hu.2];exact hu.1)
    have e2:=run_slice_any (P:=Tryz.prog) w t p n c (by rw [hu.2];exact hu.1) (lo.map a.eval) (hi.map a.eval) (mx.map a.eval)
    rw [hb,hu.2] at e2
    simp only [Result.andThen_ok,hsize] at e2
    rw [e2] at e1
    simp [execOp,ho,hx,e1]
  rcases slK_some h9 with ⟨rfl,h10⟩ | ⟨b,off,n,c,rfl,h10⟩
  · unfold cutN at h10
    cases vm with
    | some vm=>cases h10
    | none=>
      obtain ⟨hh,g1,g2⟩:=boundK_some (v:=vh) h10
      obtain ⟨l,g3,g4⟩:=boundK_some (v:=vl) g1
      refine ⟨_,g3,fun σ w a o ho hs ht=>?_⟩
      obtain ⟨t1,t2,t3,t4⟩:=slice_ops ht
      have e1:=(h2 σ a t1).snil
      have e2:=(h4 σ a t2).same g4.num
      have e3:=(h6 σ a t3).same g2.num
      have e4:=(h8 σ a t4).same (.inl rfl)
      have hh0:hh=0:=by rcases g2 with ⟨_,e⟩ | ⟨_,_,e⟩ <;> omega
      subst hh0
      have hl0:l=0:=by rcases g4 with ⟨_,e⟩ | ⟨_,_,e⟩ <;> omega
      subst hl0
      have hb:=bounds_no (n:=0) (c:=0) (Nat.le_refl 0) g2 g4 w
      exact ⟨_,fin (v:=.slice none 0 0) ho e1 (by rw [e2,e3,e4];exact hb),by simp [sliced];exact .va (.one .snil)⟩
  · unfold cutS at h10
    obtain ⟨room,h11,hrc,h12⟩:=roomK_some h10 (by omega)
    cases vm with
    | none=>
      obtain ⟨hh,g1,g2⟩:=boundK_some (v:=vh) h11
      obtain ⟨l,g3,g4⟩:=boundK_some (v:=vl) g1
      have glue:∀ σ w a,SimO σ s w→OpsR σ tm a (.slice t x lo hi mx)→∃ p c',σ b=some p∧n≤c'∧c' < U∧RmR σ b off c c'∧a.eval x = .slice (some ⟨p.b,off,none⟩) n c'∧room≤c'∧(c=U→p.z=z + 1)∧hh≤c'∧l≤hh ∧
          (Instr.sliceBounds true n c' (lo.map a.eval) (hi.map a.eval) (mx.map a.eval)).run Tryz.prog w = .ok (l,hh,c') w:=by
        intro σ w a hs ht
        obtain ⟨t1,t2,t3,t4⟩:=slice_ops ht
        obtain ⟨p,c',k1,k2,k3,k4,k5⟩:=(h2 σ a t1).sl
        obtain ⟨k6,k7⟩:=h12 σ w p c' hs k1 k4
        have e2:=(h4 σ a t2).same g4.num
        have e3:=(h6 σ a t3).same g2.num
        have e4:=(h8 σ a t4).same (.inl rfl)
        refine ⟨p,c',k1,k2,k3,k4,k5,k6,k7,?_,?_,by rw [e2,e3,e4];exact bounds_no k6 g2 g4 w⟩
        · rcases g2 with ⟨_,e⟩ | ⟨_,_,e⟩ <;> omega
        · rcases g4 with ⟨_,e⟩ | ⟨_,_,e⟩ <;> omega
      cases hcU:Nat.beq c U with
      | true=>
        have hc:=Nat.eq_of_beq_eq_true hcU
        rw [hcU] at g3
        cases hlr:Nat.blt l room with
        | true=>
          rw [hlr] at g3
          have hlr:l + 1≤room:=Nat.le_of_ble_eq_true hlr
          have g3':addA ⟨b,off,none⟩ (Nat.mul l (z + 1)) (fun b=>sliceF b (Nat.sub hh l) U fun v=>k v s)=some r:=g3
          rw [addA_eq] at g3'
          unfold sliceF at g3'
          rw [forceN_eq,forceN_eq] at g3'
          refine ⟨_,g3',fun σ w a o ho hs ht=>?_⟩
          obtain ⟨p,c',k1,k2,k3,k4,k5,k6,k7,k8,k9,k10⟩:=glue σ w a hs ht
          refine ⟨_,fin (v:=.slice none 0 0) ho k5 k10,?_⟩
          have hne:¬ c'=l:=by omega
          simp only [sliced,if_neg hne,Option.map_some,addr_add]
          refine .va (.one (.sl k1 ?_ (by omega) (.inr ⟨rfl,p,?_⟩)))
          · show hh - l≤c' - l;omega
          · rcases k4 with ⟨_,h5⟩ | ⟨_,q,e,h5,h6,h7⟩
            · omega
            · rw [k1] at h5;cases h5
              refine ⟨e + l,k1,?_,by omega⟩
              show off + l * (z + 1)=(e + l) * p.z
              rw [h6,k7 hc,Nat.add_mul]
        | false=>
          rw [hlr] at g3
          cases hl0:Nat.beq l 0 with
          | true=>
            rw [hl0] at g3
            have hl:=Nat.eq_of_beq_eq_true hl0
            subst hl
            have g3':sliceF ⟨b,off,none⟩ hh U (fun v=>k v s)=some r:=g3
            unfold sliceF at g3'
            rw [forceN_eq,forceN_eq] at g3'
            refine ⟨_,g3',fun σ w a o ho hs ht=>?_⟩
            obtain ⟨p,c',k1,k2,k3,k4,k5,k6,k7,k8,k9,k10⟩:=glue σ w a hs ht
            refine ⟨_,fin (v:=.slice none 0 0) ho k5 k10,?_⟩
            have hv:sliced (some (⟨p.b,off,none⟩:Addr)) 0 hh c' (z + 1) = .slice (some ⟨p.b,off,none⟩) hh c':=by
              unfold sliced
              simp [addr_add]
            rw [hv]
            exact .va (.one (.sl k1 k8 k3 (by rw [← hc];exact k4)))
          | false=>
            rw [hl0] at g3
            have hl:l≠0:=fun e=>by subst e;cases hl0
            obtain ⟨hhl,g5⟩:=bif_some g3
            have hhl:=Nat.eq_of_beq_eq_true hhl
            subst hhl
            refine ⟨_,g5,fun σ w a o ho hs ht=>?_⟩
            obtain ⟨p,c',k1,k2,k3,k4,k5,k6,k7,k8,k9,k10⟩:=glue σ w a hs ht
            refine ⟨_,fin (v:=.slice none 0 0) ho k5 k10,?_⟩
            simp only [sliced,Nat.sub_self]
            split
            · exact .va (.one .sle)
            · simp only [Option.map_some,addr_add]
              exact .va (.one .sle)
      | false=>
        have hc:c≠U:=fun e=>by rw [e,Nat.beq_refl] at hcU;cases hcU
        rw [hcU] at g3
        have hcc:∀ {σ:Sg} {c':Nat},RmR σ b off c c'→c'=c∧c < U:=by
          intro σ c' hr
          rcases hr with ⟨rfl,h⟩ | ⟨e,_⟩
          · exact ⟨rfl,h⟩
          · exact absurd e hc
        cases hcl:Nat.beq c l with
        | true=>
          rw [hcl] at g3
          have hcl:=Nat.eq_of_beq_eq_true hcl
          subst hcl
          have g3':sliceF ⟨b,off,none⟩ (hh - c) 0 (fun v=>k v s)=some r:=g3
          unfold sliceF at g3'
          rw [forceN_eq,forceN_eq] at g3'
          refine ⟨_,g3',fun σ w a o ho hs ht=>?_⟩
          obtain ⟨p,c',k1,k2,k3,k4,k5,k6,k7,k8,k9,k10⟩:=glue σ w a hs ht
          obtain ⟨rfl,hlt⟩:=hcc k4
          refine ⟨_,fin (v:=.slice none 0 0) ho k5 k10,?_⟩
          simp only [sliced,if_true,Nat.sub_self]
          exact .va (.one (.sl k1 (by omega) (by unfold U;omega) (.inl ⟨rfl,by unfold U;omega⟩)))
        | false=>
          rw [hcl] at g3
          have hcl:c≠l:=fun e=>by rw [e,Nat.beq_refl] at hcl;cases hcl
          have g3':addA ⟨b,off,none⟩ (Nat.mul l (z + 1)) (fun b=>sliceF b (Nat.sub hh l) (Nat.sub c l) fun v=>k v s)=some r:=g3
          rw [addA_eq] at g3'
          unfold sliceF at g3'
          rw [forceN_eq,forceN_eq] at g3'
          refine ⟨_,g3',fun σ w a o ho hs ht=>?_⟩
          obtain ⟨p,c',k1,k2,k3,k4,k5,k6,k7,k8,k9,k10⟩:=glue σ w a hs ht
          obtain ⟨rfl,hlt⟩:=hcc k4
          refine ⟨_,fin (v:=.slice none 0 0) ho k5 k10,?_⟩
          simp only [sliced,if_neg hcl,Option.map_some,addr_add]
          refine .va (.one (.sl k1 ?_ ?_ (.inl ⟨rfl,?_⟩)))
          · show hh - l≤c' - l;omega
          · show c' - l < U;omega
          · show c' - l < U;omega
    | some vm=>
      obtain ⟨m,g0,g00⟩:=boundK_some (v:=some vm) h11
      cases vh with
      | none=>cases g0
      | some vh=>
        obtain ⟨hh,g1,g2⟩:=boundK_some (v:=some vh) g0
        obtain ⟨l,g3,g4⟩:=boundK_some (v:=vl) g1
        have glue:∀ σ w a,SimO σ s w→OpsR σ tm a (.slice t x lo hi mx)→∃ p c',σ b=some p∧c' < U∧a.eval x = .slice (some ⟨p.b,off,none⟩) n c'∧hh≤m∧m≤c'∧l≤hh ∧
            (Instr.sliceBounds true n c' (lo.map a.eval) (hi.map a.eval) (mx.map a.eval)).run Tryz.prog w = .ok (l,hh,m) w:=by
          intro σ w a hs ht
          obtain ⟨t1,t2,t3,t4⟩:=slice_ops ht
          obtain ⟨p,c',k1,k2,k3,k4,k5⟩:=(h2 σ a t1).sl
          obtain ⟨k6,k7⟩:=h12 σ w p c' hs k1 k4
          have e2:=(h4 σ a t2).same g4.num
          have e3:=(h6 σ a t3).same g2.num
          have e4:=(h8 σ a t4).same g00.num
          have hm:m≤room:=by rcases g00 with ⟨e,_⟩ | ⟨_,_,e⟩;cases e;exact e
          refine ⟨p,c',k1,k3,k5,?_,by omega,?_,?_⟩
          · rcases g2 with ⟨e,_⟩ | ⟨_,_,e⟩;cases e;exact e
          · rcases g4 with ⟨_,e⟩ | ⟨_,_,e⟩ <;> omega
          · rw [e2,e3,e4]
            refine bounds_mx ?_ (by simp) g2 g4 w
            rcases g00 with ⟨e,_⟩ | ⟨q,e,_⟩
            · cases e
            · exact .inr ⟨q,e,by omega⟩
        cases hml:Nat.beq m l with
        | true=>
          rw [hml] at g3
          have hml:=Nat.eq_of_beq_eq_true hml
          subst hml
          have g3':sliceF ⟨b,off,none⟩ (hh - m) 0 (fun v=>k v s)=some r:=g3
          unfold sliceF at g3'
          rw [forceN_eq,forceN_eq] at g3'
          refine ⟨_,g3',fun σ w a o ho hs ht=>?_⟩
          obtain ⟨p,c',k1,k3,k5,k6,k7,k8,k10⟩:=glue σ w a hs ht
          refine ⟨_,fin (v:=.slice none 0 0) ho k5 k10,?_⟩
          simp only [sliced,if_true,Nat.sub_self]
          exact .va (.one (.sl k1 (by omega) (by unfold U;omega) (.inl ⟨rfl,by unfold U;omega⟩)))
        | false=>
          rw [hml] at g3
          have hml:m≠l:=fun e=>by rw [e,Nat.beq_refl] at hml;cases hml
          have g3':addA ⟨b,off,none⟩ (Nat.mul l (z + 1)) (fun b=>sliceF b (Nat.sub hh l) (Nat.sub m l) fun v=>k v s)=some r:=g3
          rw [addA_eq] at g3'
          unfold sliceF at g3'
          rw [forceN_eq,forceN_eq] at g3'
          refine ⟨_,g3',fun σ w a o ho hs ht=>?_⟩
          obtain ⟨p,c',k1,k3,k5,k6,k7,k8,k10⟩:=glue σ w a hs ht
          refine ⟨_,fin (v:=.slice none 0 0) ho k5 k10,?_⟩
          simp only [sliced,if_neg hml,Option.map_some,addr_add]
          refine .va (.one (.sl k1 ?_ ?_ (.inl ⟨rfl,?_⟩)))
          · show hh - l≤m - l;omega
          · show m - l < U;omega
          · show m - l < U;omega
end
end Go.Proofs.YtnpdcjdmbkcpbaaGreat.Ev
