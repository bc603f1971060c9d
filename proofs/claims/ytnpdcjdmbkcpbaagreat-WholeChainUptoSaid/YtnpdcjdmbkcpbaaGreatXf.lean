/- The walks of package op: numbers, used, Equal, Right. The walk of package op: used, Right. The walks of package op: how many ins and parameters; counts. The walks of package op: the shapes of answers. The walks of package op: Turn's shape. The walk of shape.Window. The walks of shape.Cut and pool.Shape. No condition. -/
import Derived.Test.YtnpdcjdmbkcpbaaGreatXe
import Derived.Laws.Rows
import Derived.Laws.StructEq
import Derived.ChangeKeysEq
import Derived.LoopN
set_option linter.unusedVariables false
set_option linter.unusedSimpArgs false
namespace Go.Proofs.YtnpdcjdmbkcpbaaGreat.Ins
open Go.RowKit
structure OpD where
  (kind k width step side fr to:Int)
  (b:Option Addr)
  (n c:Nat)
  (s:List Int)
def OpD.val (o:OpD):Value:=.agg #[.int .i64 o.kind,.int .i64 o.k,.int .i64 o.width,.int .i64 o.step,.int .i64 o.side,.int .i64 o.fr,.int .i64 o.to,.slice o.b o.n o.c]
structure OpD.R (o:OpD) (w:World):Prop where
  s:RI o.b o.n o.c o.s w
  wf:∀ x,x∈[o.kind,o.k,o.width,o.step,o.side,o.fr,o.to]→-9223372036854775808≤x∧x≤9223372036854775807
theorem OpD.R.oth {o:OpD} {w w':World} (h:o.R w) (ho:Oth [] w w'):o.R w':=⟨h.s.oth ho,h.wf⟩
section
variable {w:World}
set_option maxRecDepth 100000 in
set_option maxHeartbeats 4000000 in
theorem numbers_any {x1 x2 x3 x4 x5 x6 x7:Int} {v:Value} (hw:∀ x,x∈[x1,x2,x3,x4,x5,x6,x7]→-9223372036854775808≤x∧x≤9223372036854775807) :
    Calls Tryz.prog 148 #[.agg #[.int .i64 x1,.int .i64 x2,.int .i64 x3,.int .i64 x4,.int .i64 x5,.int .i64 x6,.int .i64 x7,v]] w fun e w'=>e = .returned (.agg #[.int .i64 x1,.int .i64 x2,.int .i64 x3,.int .i64 x4,.int .i64 x5,.int .i64 x6,.int .i64 x7])∧Oth [] w w':=by
  have e1:IntKind.i64.wrap x1=x1:=IntWalk.i64_in _ (by have:=hw x1 (by simp);omega)
  have e2:IntKind.i64.wrap x2=x2:=IntWalk.i64_in _ (by have:=hw x2 (by simp);omega)
  have e3:IntKind.i64.wrap x3=x3:=IntWalk.i64_in _ (by have:=hw x3 (by simp);omega)
  have e4:IntKind.i64.wrap x4=x4:=IntWalk.i64_in _ (by have:=hw x4 (by simp);omega)
  have e5:IntKind.i64.wrap x5=x5:=IntWalk.i64_in _ (by have:=hw x5 (by simp);omega)
  have e6:IntKind.i64.wrap x6=x6:=IntWalk.i64_in _ (by have:=hw x6 (by simp);omega)
  have e7:IntKind.i64.wrap x7=x7:=IntWalk.i64_in _ (by have:=hw x7 (by simp);omega)
  clear hw
  go_enter Tryz.func148,Tryz.ntmps148
  go_wp2_with fail
  refine bodyPost_ret (results_cell_row rfl _ _ (w.heap.size + 1) 236 #[.int .i64 x1,.int .i64 x2,.int .i64 x3,.int .i64 x4,.int .i64 x5,.int .i64 x6,.int .i64 x7] (0,0) _ rfl ?_ Tryz.underlying236 rfl (by kernel_rfl)) rfl ⟨rfl,((Oth.refl _ _).alloc _).alloc _⟩
  exact heap_alloc2_new _ _ _
theorem part_at {xs:Array Value} {off:Nat} {v:Value} (hx:xs[off]?=some v) (w:World):(part 2 xs off).run Tryz.prog w = .ok v w:=by
  simp [part,isAgg,run_underlying Tryz.underlying2,hx]
theorem eqItems_any (w:World) (d:Nat):∀ (l m:List Int) (i:Nat) (xs ys:Array Value),l.length=m.length→xs.toList.drop i=ivl l→ys.toList.drop i=ivl m →
    (Op.eqItems (d + 1) 2 1 xs ys (List.range' i l.length)).run Tryz.prog w = .ok (decide (l=m)) w
  | [],m,i,xs,ys,hl,hx,hy=>by
    obtain rfl:m=[]:=List.eq_nil_of_length_eq_zero hl.symm
    rfl
  | x :: l,[],i,xs,ys,hl,hx,hy=>by simp at hl
  | x :: l,y :: m,i,xs,ys,hl,hx,hy=>by
    have hx0:xs[i]?=some (.int .i64 x):=by
      have:=congrArg (·[0]?) hx
      simpa [ivl] using this
    have hy0:ys[i]?=some (.int .i64 y):=by
      have:=congrArg (·[0]?) hy
      simpa [ivl] using this
    have hx1:xs.toList.drop (i + 1)=ivl l:=by rw [← List.drop_drop,hx];rfl
    have hy1:ys.toList.drop (i + 1)=ivl m:=by rw [← List.drop_drop,hy];rfl
    have g3:=part_at (show xs[i * 1]?=some (.int .i64 x) by simpa using hx0) w
    have g4:=part_at (show ys[i * 1]?=some (.int .i64 y) by simpa using hy0) w
    have g5:(Op.equalIn (d + 1) 2 (.int .i64 x) (.int .i64 y)).run Tryz.prog w = .ok (x == y) w:=by simp [Op.equalIn,run_underlying Tryz.underlying2]
    have ih:=eqItems_any w d l m (i + 1) xs ys (by simpa using hl) hx1 hy1
    simp only [List.length_cons,List.range'_succ,Op.eqItems,Sem.run_bind,g3,g4,g5,Result.andThen_ok]
    by_cases h:x=y
    · subst h
      simp [ih]
    · have h2:(x == y)=false:=by simp [h]
      simp [h2,h]
theorem info2:(Tryz.prog.info? 2).map (fun i=>(i.zero,i.size,i.bytes))=some (some (.int .i64 0),1,8):=by kernel_rfl
theorem guard236:Tryz.prog.eqGuardType Tryz.prog.depth 236=false:=by kernel_rfl
def arr (l:List Int):Value:=.agg (ivl l).toArray
theorem eql236 (w:World) (l m:List Int) (hl:l.length=7) (hm:m.length=7):(binOp .eql 236 (arr l) (arr m)).run Tryz.prog w = .ok (.bool (decide (l=m))) w:=by
  obtain ⟨i,h1,h2,h3,h4⟩:=info_parts' info2
  unfold arr
  rw [run_eql_struct,show (10000:Nat)=9999 + 1 from rfl,run_equalIn_array w 9999 _ _ Tryz.underlying236 h1]
  have hc:Tryz.prog.cellsOf 2=1:=by simp [Program.cellsOf,h1,h3]
  have:=eqItems_any w 9998 l m 0 (ivl l).toArray (ivl m).toArray (by omega) rfl rfl
  rw [hl] at this
  rw [hc,List.range_eq_range',this]
  rfl
def OpD.nums (o:OpD):List Int:=[o.kind,o.k,o.width,o.step,o.side,o.fr,o.to]
def OpD.same (o q:OpD):Bool:=decide (o.nums=q.nums) && decide (o.s=q.s)
set_option maxRecDepth 100000 in
set_option maxHeartbeats 4000000 in
theorem opEqual_any {o q:OpD} (h:o.R w) (k:q.R w):Calls Tryz.prog 106 #[o.val,q.val] w fun e w'=>e = .returned (.bool (o.same q))∧Oth [] w w':=by
  obtain ⟨k1,k2,k3,k4,k5,k6,k7,b,n,c,s⟩:=o
  obtain ⟨l1,l2,l3,l4,l5,l6,l7,b',n',c',s'⟩:=q
  have N1:Hid (∀ w',Oth [] w w'→Calls Tryz.prog 148 #[.agg #[.int .i64 k1,.int .i64 k2,.int .i64 k3,.int .i64 k4,.int .i64 k5,.int .i64 k6,.int .i64 k7,.slice b n c]] w' fun e w2=>e = .returned (.agg #[.int .i64 k1,.int .i64 k2,.int .i64 k3,.int .i64 k4,.int .i64 k5,.int .i64 k6,.int .i64 k7])∧Oth [] w' w2):=fun w' ho=>numbers_any h.wf
  have N2:Hid (∀ w',Oth [] w w'→Calls Tryz.prog 148 #[.agg #[.int .i64 l1,.int .i64 l2,.int .i64 l3,.int .i64 l4,.int .i64 l5,.int .i64 l6,.int .i64 l7,.slice b' n' c']] w' fun e w2=>e = .returned (.agg #[.int .i64 l1,.int .i64 l2,.int .i64 l3,.int .i64 l4,.int .i64 l5,.int .i64 l6,.int .i64 l7])∧Oth [] w' w2):=fun w' ho=>numbers_any k.wf
  have N3:Hid (∀ w',Oth [] w w'→Calls Tryz.prog 92 #[.slice b n c,.slice b' n' c'] w' fun e w2=>e = .returned (.bool (decide (s=s')))∧Oth [] w' w2):=fun w' ho=>shEqual_any (h.s.oth ho) (k.s.oth ho)
  obtain ⟨r,hr⟩:∃ r,r=decide (([k1,k2,k3,k4,k5,k6,k7]:List Int)=[l1,l2,l3,l4,l5,l6,l7]):=⟨_,rfl⟩
  obtain ⟨q,hq⟩:∃ q,q=decide (s=s'):=⟨_,rfl⟩
  have hbin:∀ w',(binOp .eql 236 (.agg #[.int .i64 k1,.int .i64 k2,.int .i64 k3,.int .i64 k4,.int .i64 k5,.int .i64 k6,.int .i64 k7]) (.agg #[.int .i64 l1,.int .i64 l2,.int .i64 l3,.int .i64 l4,.int .i64 l5,.int .i64 l6,.int .i64 l7])).run Tryz.prog w' = .ok (.bool r) w':=fun w'=>by rw [hr];exact eql236 w' [k1,k2,k3,k4,k5,k6,k7] [l1,l2,l3,l4,l5,l6,l7] rfl rfl
  have hgd:=guard236
  rw [← hq] at N3
  have hsame:OpD.same ⟨k1,k2,k3,k4,k5,k6,k7,b,n,c,s⟩ ⟨l1,l2,l3,l4,l5,l6,l7,b',n',c',s'⟩=(r && q):=by
    rw [hr,hq];rfl
  rw [hsame]
  simp only [OpD.val]
  have HK:Hid (∀ w',Oth [] ((w.alloc (.cells #[.int .i64 k1,.int .i64 k2,.int .i64 k3,.int .i64 k4,.int .i64 k5,.int .i64 k6,.int .i64 k7,.slice b n c] 77)).alloc (.cells #[.int .i64 l1,.int .i64 l2,.int .i64 l3,.int .i64 l4,.int .i64 l5,.int .i64 l6,.int .i64 l7,.slice b' n' c'] 77)) w'→Oth [] w w'∧w'.cell? ⟨w.heap.size,0,none⟩=some (.int .i64 k1)∧w'.cell? ⟨w.heap.size,1,none⟩=some (.int .i64 k2)∧w'.cell? ⟨w.heap.size,2,none⟩=some (.int .i64 k3)∧w'.cell? ⟨w.heap.size,3,none⟩=some (.int .i64 k4)∧w'.cell? ⟨w.heap.size,4,none⟩=some (.int .i64 k5)∧w'.cell? ⟨w.heap.size,5,none⟩=some (.int .i64 k6)∧w'.cell? ⟨w.heap.size,6,none⟩=some (.int .i64 k7)∧w'.cell? ⟨w.heap.size,7,none⟩=some (.slice b n c)∧w'.cell? ⟨w.heap.size + 1,0,none⟩=some (.int .i64 l1)∧w'.cell? ⟨w.heap.size + 1,1,none⟩=some (.int .i64 l2)∧w'.cell? ⟨w.heap.size + 1,2,none⟩=some (.int .i64 l3)∧w'.cell? ⟨w.heap.size + 1,3,none⟩=some (.int .i64 l4)∧w'.cell? ⟨w.heap.size + 1,4,none⟩=some (.int .i64 l5)∧w'.cell? ⟨w.heap.size + 1,5,none⟩=some (.int .i64 l6)∧w'.cell? ⟨w.heap.size + 1,6,none⟩=some (.int .i64 l7)∧w'.cell? ⟨w.heap.size + 1,7,none⟩=some (.slice b' n' c')):=by
    intro w' ho
    have h0:=heap_alloc_new w (.cells #[.int .i64 k1,.int .i64 k2,.int .i64 k3,.int .i64 k4,.int .i64 k5,.int .i64 k6,.int .i64 k7,.slice b n c] 77)
    have h1:=heap_alloc_new (w.alloc (.cells #[.int .i64 k1,.int .i64 k2,.int .i64 k3,.int .i64 k4,.int .i64 k5,.int .i64 k6,.int .i64 k7,.slice b n c] 77)) (.cells #[.int .i64 l1,.int .i64 l2,.int .i64 l3,.int .i64 l4,.int .i64 l5,.int .i64 l6,.int .i64 l7,.slice b' n' c'] 77)
    rw [World.size_alloc] at h1
    have h2:=ho.heap (((Oth.refl [] _).alloc _).heap h0 (by simp)) (by simp)
    have h3:=ho.heap h1 (by simp)
    refine ⟨(((Oth.refl _ _).alloc _).alloc _).trans ho (Fr.nil _ _),?_,?_,?_,?_,?_,?_,?_,?_,?_,?_,?_,?_,?_,?_,?_,?_⟩
    all_goals first | (rw [World.cell?,h2];rfl) | (rw [World.cell?,h3];rfl)
  clear h k hr hq hsame
  go_enter Tryz.func106,Tryz.ntmps106
  cases r
  · go_wp2_with fail
    first | (go_region_with (first
      | (go_at_call 148;(with_reducible refine (N1.out _ (((Oth.refl [] w).alloc _).alloc _).drew).mono ?_);rintro e w1 ⟨rfl,ho1⟩;obtain ⟨p0,p1,p2,p3,p4,p5,p6,p7,p8,p9,p10,p11,p12,p13,p14,p15,p16⟩:=HK.out _ ((Oth.refl _ _).drew.trans ho1 (Fr.nil _ _));clear ho1)
      | (go_at_call 148;(with_reducible refine (N2.out _ p0).mono ?_);rintro e w2 ⟨rfl,ho2⟩;have HO2:=Lib.hid (p0.trans ho2 (Fr.nil _ _));clear ho2 p0 p1 p2 p3 p4 p5 p6 p7 p8 p9 p10 p11 p12 p13 p14 p15 p16))) | fail
    all_goals
      go_wp2_with fail
      go_ret
      exact ⟨rfl,HO2.out⟩
  · go_wp2_with fail
    first | (go_region_held3 (fun w'=>Oth [] w w'∧w'.cell? ⟨w.heap.size,0,none⟩=some (.int .i64 k1)∧w'.cell? ⟨w.heap.size,1,none⟩=some (.int .i64 k2)∧w'.cell? ⟨w.heap.size,2,none⟩=some (.int .i64 k3)∧w'.cell? ⟨w.heap.size,3,none⟩=some (.int .i64 k4)∧w'.cell? ⟨w.heap.size,4,none⟩=some (.int .i64 k5)∧w'.cell? ⟨w.heap.size,5,none⟩=some (.int .i64 k6)∧w'.cell? ⟨w.heap.size,6,none⟩=some (.int .i64 k7)∧w'.cell? ⟨w.heap.size,7,none⟩=some (.slice b n c)∧w'.cell? ⟨w.heap.size + 1,0,none⟩=some (.int .i64 l1)∧w'.cell? ⟨w.heap.size + 1,1,none⟩=some (.int .i64 l2)∧w'.cell? ⟨w.heap.size + 1,2,none⟩=some (.int .i64 l3)∧w'.cell? ⟨w.heap.size + 1,3,none⟩=some (.int .i64 l4)∧w'.cell? ⟨w.heap.size + 1,4,none⟩=some (.int .i64 l5)∧w'.cell? ⟨w.heap.size + 1,5,none⟩=some (.int .i64 l6)∧w'.cell? ⟨w.heap.size + 1,6,none⟩=some (.int .i64 l7)∧w'.cell? ⟨w.heap.size + 1,7,none⟩=some (.slice b' n' c'))
      (first | exact HK.out _ (Oth.refl _ _).drew | exact HK.out _ ((Oth.refl _ _).drew.trans ho1 (Fr.nil _ _)) | exact HK.out _ (((Oth.refl _ _).drew.trans ho1 (Fr.nil _ _)).trans ho2 (Fr.nil _ _)) | exact HK.out _ ((((Oth.refl _ _).drew.trans ho1 (Fr.nil _ _)).trans ho2 (Fr.nil _ _)).trans ho3 (Fr.nil _ _)))
      (first | (go_at_call 148;(with_reducible refine (N1.out _ (((Oth.refl [] w).alloc _).alloc _).drew).mono ?_);rintro e w' ⟨rfl,ho1⟩) | (go_at_call 148;(with_reducible refine (N2.out _ ((((Oth.refl [] w).alloc _).alloc _).drew.trans ho1 (Fr.nil _ _))).mono ?_);rintro e w' ⟨rfl,ho2⟩) | (go_at_call 92;(with_reducible refine (N3.out _ (((((Oth.refl [] w).alloc _).alloc _).drew.trans ho1 (Fr.nil _ _)).trans ho2 (Fr.nil _ _))).mono ?_);rintro e w' ⟨rfl,ho3⟩)))
          | fail
    go_wp2_with fail
    go_ret
    rename_i hh
    exact ⟨by simp,hh.1⟩
end
end Go.Proofs.YtnpdcjdmbkcpbaaGreat.Ins
namespace Go.Proofs.YtnpdcjdmbkcpbaaGreat.Ins
open Go.RowKit
def OpD.used (o:OpD):OpD:=
  if o.kind=2∨o.kind=5 then ⟨o.kind,o.k,0,0,0,0,0,none,0,0,[]⟩
  else if o.kind=10 then ⟨o.kind,0,0,o.step,0,0,0,none,0,0,[]⟩
  else if o.kind=11∨o.kind=12 then ⟨o.kind,0,o.width,o.step,0,0,0,none,0,0,[]⟩
  else if o.kind=13 then ⟨o.kind,0,0,0,o.side,0,0,none,0,0,[]⟩
  else if o.kind=14 then ⟨o.kind,0,0,0,o.side,o.fr,o.to,none,0,0,[]⟩
  else if o.kind=15 then ⟨o.kind,0,0,0,0,0,0,o.b,o.n,o.c,o.s⟩
  else ⟨o.kind,0,0,0,0,0,0,none,0,0,[]⟩
section
variable {w:World}
theorem heap_mid (A B C:Obj):(((w.alloc A).alloc B).alloc C).heap[w.heap.size + 1]?=some B:=by
  have h:=heap_alloc_new (w.alloc A) B
  rw [World.size_alloc] at h
  exact ((Oth.refl [] _).alloc _).heap h (by simp)
set_option maxRecDepth 100000 in
set_option maxHeartbeats 4000000 in
theorem used_any {o:OpD}:Calls Tryz.prog 107 #[o.val] w fun e w'=>e = .returned o.used.val∧Oth [] w w':=by
  obtain ⟨k1,k2,k3,k4,k5,k6,k7,b,n,c,s⟩:=o
  unfold OpD.used
  by_cases h2:k1=2
  · subst h2
    simp only [OpD.val,reduceIte,Int.reduceEq,or_true,true_or,or_false,false_or,or_self]
    go_enter Tryz.func107,Tryz.ntmps107
    go_wp2_with fail
    refine bodyPost_ret (results_cell_row rfl _ _ (w.heap.size + 1) 77 _ (0,0) _ rfl (heap_mid _ _ _) Tryz.underlying77 rfl (by kernel_rfl)) rfl ⟨rfl,(((Oth.refl _ _).alloc _).alloc _).alloc _⟩
  by_cases h5:k1=5
  · subst h5
    simp only [OpD.val,reduceIte,Int.reduceEq,or_true,true_or,or_false,false_or,or_self]
    go_enter Tryz.func107,Tryz.ntmps107
    go_wp2_with fail
    refine bodyPost_ret (results_cell_row rfl _ _ (w.heap.size + 1) 77 _ (0,0) _ rfl (heap_mid _ _ _) Tryz.underlying77 rfl (by kernel_rfl)) rfl ⟨rfl,(((Oth.refl _ _).alloc _).alloc _).alloc _⟩
  by_cases h10:k1=10
  · subst h10
    simp only [OpD.val,reduceIte,Int.reduceEq,or_true,true_or,or_false,false_or,or_self]
    go_enter Tryz.func107,Tryz.ntmps107
    go_wp2_with fail
    refine bodyPost_ret (results_cell_row rfl _ _ (w.heap.size + 1) 77 _ (0,0) _ rfl (heap_mid _ _ _) Tryz.underlying77 rfl (by kernel_rfl)) rfl ⟨rfl,(((Oth.refl _ _).alloc _).alloc _).alloc _⟩
  by_cases h11:k1=11
  · subst h11
    simp only [OpD.val,reduceIte,Int.reduceEq,or_true,true_or,or_false,false_or,or_self]
    go_enter Tryz.func107,Tryz.ntmps107
    go_wp2_with fail
    go_region
    all_goals
      go_wp2_with fail
      refine bodyPost_ret (results_cell_row rfl _ _ (w.heap.size + 1) 77 _ (0,0) _ rfl (heap_mid _ _ _) Tryz.underlying77 rfl (by kernel_rfl)) rfl ⟨rfl,((((Oth.refl _ _).alloc _).alloc _).alloc _).drew⟩
  by_cases h12:k1=12
  · subst h12
    simp only [OpD.val,reduceIte,Int.reduceEq,or_true,true_or,or_false,false_or,or_self]
    go_enter Tryz.func107,Tryz.ntmps107
    go_wp2_with fail
    go_region
    all_goals
      go_wp2_with fail
      refine bodyPost_ret (results_cell_row rfl _ _ (w.heap.size + 1) 77 _ (0,0) _ rfl (heap_mid _ _ _) Tryz.underlying77 rfl (by kernel_rfl)) rfl ⟨rfl,((((Oth.refl _ _).alloc _).alloc _).alloc _).drew⟩
  by_cases h13:k1=13
  · subst h13
    simp only [OpD.val,reduceIte,Int.reduceEq,or_true,true_or,or_false,false_or,or_self]
    go_enter Tryz.func107,Tryz.ntmps107
    go_wp2_with fail
    refine bodyPost_ret (results_cell_row rfl _ _ (w.heap.size + 1) 77 _ (0,0) _ rfl (heap_mid _ _ _) Tryz.underlying77 rfl (by kernel_rfl)) rfl ⟨rfl,(((Oth.refl _ _).alloc _).alloc _).alloc _⟩
  by_cases h14:k1=14
  · subst h14
    simp only [OpD.val,reduceIte,Int.reduceEq,or_true,true_or,or_false,false_or,or_self]
    go_enter Tryz.func107,Tryz.ntmps107
    go_wp2_with fail
    go_region
    all_goals
      go_wp2_with fail
      refine bodyPost_ret (results_cell_row rfl _ _ (w.heap.size + 1) 77 _ (0,0) _ rfl (heap_mid _ _ _) Tryz.underlying77 rfl (by kernel_rfl)) rfl ⟨rfl,((((Oth.refl _ _).alloc _).alloc _).alloc _).drew⟩
  by_cases h15:k1=15
  · subst h15
    simp only [OpD.val,reduceIte,Int.reduceEq,or_true,true_or,or_false,false_or,or_self]
    go_enter Tryz.func107,Tryz.ntmps107
    go_wp2_with fail
    refine bodyPost_ret (results_cell_row rfl _ _ (w.heap.size + 1) 77 _ (0,0) _ rfl (heap_mid _ _ _) Tryz.underlying77 rfl (by kernel_rfl)) rfl ⟨rfl,(((Oth.refl _ _).alloc _).alloc _).alloc _⟩
  simp only [OpD.val,h2,h5,h10,h11,h12,h13,h14,h15,if_false,or_self]
  go_enter Tryz.func107,Tryz.ntmps107
  go_wp2_with fail
  refine bodyPost_ret (results_cell_row rfl _ _ (w.heap.size + 1) 77 _ (0,0) _ rfl (heap_mid _ _ _) Tryz.underlying77 rfl (by kernel_rfl)) rfl ⟨rfl,(((Oth.refl _ _).alloc _).alloc _).alloc _⟩
def OpD.right (o:OpD):Bool:=decide (1≤o.kind) && decide (o.kind≤15) && o.same o.used
theorem OpD.R.used {o:OpD} (h:o.R w):o.used.R w:=by
  have hz:RI none 0 0 [] w:=⟨rfl,by decide,by simp,by simp⟩
  have hw:=h.wf
  simp only [List.mem_cons,List.mem_nil_iff,or_false,forall_eq_or_imp,forall_eq] at hw
  unfold OpD.used
  repeat' split
  all_goals
    refine ⟨by first | exact hz | exact h.s,?_⟩
    simp only [List.mem_cons,List.mem_nil_iff,or_false,forall_eq_or_imp,forall_eq]
    omega
set_option maxRecDepth 100000 in
set_option maxHeartbeats 4000000 in
theorem opRight_any {o:OpD} (h:o.R w):Calls Tryz.prog 55 #[o.val] w fun e w'=>e = .returned (.bool o.right)∧Oth [] w w':=by
  have N1:Hid (∀ w',Oth [] w w'→Calls Tryz.prog 107 #[o.val] w' fun e w2=>e = .returned o.used.val∧Oth [] w' w2):=fun w' ho=>used_any
  have N2:Hid (∀ w',Oth [] w w'→Calls Tryz.prog 106 #[o.val,o.used.val] w' fun e w2=>e = .returned (.bool (o.same o.used))∧Oth [] w' w2):=fun w' ho=>opEqual_any (h.oth ho) (h.used.oth ho)
  have hr:o.right=(decide (1≤o.kind) && decide (o.kind≤15) && o.same o.used):=rfl
  rw [hr]
  generalize o.same o.used=r at N2
  obtain ⟨u,hu⟩:∃ u,u=o.used.val:=⟨_,rfl⟩
  rw [← hu] at N1 N2
  clear hr hu h
  obtain ⟨k1,k2,k3,k4,k5,k6,k7,b,n,c,s⟩:=o
  simp only [OpD.val] at N1 N2 ⊢
  have HK:Hid (∀ w',Oth [] (w.alloc (.cells #[.int .i64 k1,.int .i64 k2,.int .i64 k3,.int .i64 k4,.int .i64 k5,.int .i64 k6,.int .i64 k7,.slice b n c] 77)) w'→Oth [] w w'∧w'.cell? ⟨w.heap.size,0,none⟩=some (.int .i64 k1)∧w'.cell? ⟨w.heap.size,1,none⟩=some (.int .i64 k2)∧w'.cell? ⟨w.heap.size,2,none⟩=some (.int .i64 k3)∧w'.cell? ⟨w.heap.size,3,none⟩=some (.int .i64 k4)∧w'.cell? ⟨w.heap.size,4,none⟩=some (.int .i64 k5)∧w'.cell? ⟨w.heap.size,5,none⟩=some (.int .i64 k6)∧w'.cell? ⟨w.heap.size,6,none⟩=some (.int .i64 k7)∧w'.cell? ⟨w.heap.size,7,none⟩=some (.slice b n c)):=by
    intro w' ho
    have h2:=ho.heap (heap_alloc_new w (.cells #[.int .i64 k1,.int .i64 k2,.int .i64 k3,.int .i64 k4,.int .i64 k5,.int .i64 k6,.int .i64 k7,.slice b n c] 77)) (by simp)
    refine ⟨((Oth.refl _ _).alloc _).trans ho (Fr.nil _ _),?_,?_,?_,?_,?_,?_,?_,?_⟩
    all_goals (rw [World.cell?,h2];rfl)
  by_cases h1:1≤k1
  · by_cases h15:k1≤15
    · simp only [h1,h15,decide_true,Bool.true_and]
      go_enter Tryz.func55,Tryz.ntmps55
      go_wp2_with fail
      first | (go_region_held3 (fun w'=>Oth [] w w'∧w'.cell? ⟨w.heap.size,0,none⟩=some (.int .i64 k1)∧w'.cell? ⟨w.heap.size,1,none⟩=some (.int .i64 k2)∧w'.cell? ⟨w.heap.size,2,none⟩=some (.int .i64 k3)∧w'.cell? ⟨w.heap.size,3,none⟩=some (.int .i64 k4)∧w'.cell? ⟨w.heap.size,4,none⟩=some (.int .i64 k5)∧w'.cell? ⟨w.heap.size,5,none⟩=some (.int .i64 k6)∧w'.cell? ⟨w.heap.size,6,none⟩=some (.int .i64 k7)∧w'.cell? ⟨w.heap.size,7,none⟩=some (.slice b n c))
        (first | exact HK.out _ (Oth.refl _ _).drew | exact HK.out _ ((Oth.refl _ _).drew.trans ho1 (Fr.nil _ _)) | exact HK.out _ (((Oth.refl _ _).drew.trans ho1 (Fr.nil _ _)).trans ho2 (Fr.nil _ _)))
        (first | (go_at_call 107;(with_reducible refine (N1.out _ ((Oth.refl [] w).alloc _).drew).mono ?_);rintro e w' ⟨rfl,ho1⟩) | (go_at_call 106;(with_reducible refine (N2.out _ (((Oth.refl [] w).alloc _).drew.trans ho1 (Fr.nil _ _))).mono ?_);rintro e w' ⟨rfl,ho2⟩)))
            | fail
      all_goals
        go_wp2_with fail
        go_ret
        rename_i hh
        exact ⟨rfl,hh.1⟩
    · have hq:(decide (1≤k1) && decide (k1≤15) && r)=false:=by simp [h15]
      rw [hq]
      go_enter Tryz.func55,Tryz.ntmps55
      go_wp2_with fail
      first | (go_region_with fail) | fail
      all_goals
        go_wp2_with fail
        go_ret
        exact ⟨rfl,((Oth.refl _ _).alloc _).drew⟩
  · have hq:(decide (1≤k1) && decide (k1≤15) && r)=false:=by simp [h1]
    rw [hq]
    go_enter Tryz.func55,Tryz.ntmps55
    go_wp2_with fail
    first | (go_region_with fail) | fail
    all_goals
      go_wp2_with fail
      go_ret
      exact ⟨rfl,((Oth.refl _ _).alloc _).drew⟩
end
end Go.Proofs.YtnpdcjdmbkcpbaaGreat.Ins
namespace Go.Proofs.YtnpdcjdmbkcpbaaGreat.Ins
open Go.RowKit
def pIns (k:Int):Int:=if k=1∨k=2∨k=3∨k=4∨k=5 then 1 else if k=6∨k=7 then 2 else 0
def OpD.least (o:OpD):Int:=if o.right=true then (if o.kind≤7 then pIns o.kind else 1) else 0
def OpD.most (o:OpD):Int:=if o.right=true then (if o.kind≤7 then pIns o.kind else if o.kind=13 then 8 else 1) else 0
def OpD.params (o:OpD):Int:=if o.right=true then (if o.kind=8 then 2 else if o.kind=9∨o.kind=10 then 1 else 0) else 0
def OpD.counts (o:OpD) (p x:Int):Int:=if o.right=true then (if (x < o.least∨x > o.most)∨p≠o.params then 20 else 0) else 21
section
variable {w:World}
set_option maxRecDepth 100000 in
set_option maxHeartbeats 4000000 in
theorem pIns_any (k:Int):Calls Tryz.prog 240 #[.int .i64 k] w fun e w'=>e = .returned (.int .i64 (pIns k))∧Oth [] w w':=by
  unfold pIns
  by_cases h1:k=1
  · subst h1
    simp only [reduceIte,Int.reduceEq,or_true,true_or,or_false,false_or,or_self]
    go_enter Tryz.func240,Tryz.ntmps240
    go_wp2_with fail
    go_ret
    exact ⟨rfl,Oth.refl _ _⟩
  by_cases h2:k=2
  · subst h2
    simp only [reduceIte,Int.reduceEq,or_true,true_or,or_false,false_or,or_self]
    go_enter Tryz.func240,Tryz.ntmps240
    go_wp2_with fail
    go_ret
    exact ⟨rfl,Oth.refl _ _⟩
  by_cases h3:k=3
  · subst h3
    simp only [reduceIte,Int.reduceEq,or_true,true_or,or_false,false_or,or_self]
    go_enter Tryz.func240,Tryz.ntmps240
    go_wp2_with fail
    go_ret
    exact ⟨rfl,Oth.refl _ _⟩
  by_cases h4:k=4
  · subst h4
    simp only [reduceIte,Int.reduceEq,or_true,true_or,or_false,false_or,or_self]
    go_enter Tryz.func240,Tryz.ntmps240
    go_wp2_with fail
    go_ret
    exact ⟨rfl,Oth.refl _ _⟩
  by_cases h5:k=5
  · subst h5
    simp only [reduceIte,Int.reduceEq,or_true,true_or,or_false,false_or,or_self]
    go_enter Tryz.func240,Tryz.ntmps240
    go_wp2_with fail
    go_ret
    exact ⟨rfl,Oth.refl _ _⟩
  by_cases h6:k=6
  · subst h6
    simp only [reduceIte,Int.reduceEq,or_true,true_or,or_false,false_or,or_self]
    go_enter Tryz.func240,Tryz.ntmps240
    go_wp2_with fail
    go_ret
    exact ⟨rfl,Oth.refl _ _⟩
  by_cases h7:k=7
  · subst h7
    simp only [reduceIte,Int.reduceEq,or_true,true_or,or_false,false_or,or_self]
    go_enter Tryz.func240,Tryz.ntmps240
    go_wp2_with fail
    go_ret
    exact ⟨rfl,Oth.refl _ _⟩
  simp only [h1,h2,h3,h4,h5,h6,h7,if_false,or_self]
  go_enter Tryz.func240,Tryz.ntmps240
  go_wp2_with fail
  go_ret
  exact ⟨rfl,Oth.refl _ _⟩
theorem op_held (w:World) (k1 k2 k3 k4 k5 k6 k7:Int) (b:Option Addr) (n c:Nat):∀ w',Oth [] (w.alloc (.cells #[.int .i64 k1,.int .i64 k2,.int .i64 k3,.int .i64 k4,.int .i64 k5,.int .i64 k6,.int .i64 k7,.slice b n c] 77)) w'→Oth [] w w'∧w'.cell? ⟨w.heap.size,0,none⟩=some (.int .i64 k1)∧w'.cell? ⟨w.heap.size,1,none⟩=some (.int .i64 k2)∧w'.cell? ⟨w.heap.size,2,none⟩=some (.int .i64 k3)∧w'.cell? ⟨w.heap.size,3,none⟩=some (.int .i64 k4)∧w'.cell? ⟨w.heap.size,4,none⟩=some (.int .i64 k5)∧w'.cell? ⟨w.heap.size,5,none⟩=some (.int .i64 k6)∧w'.cell? ⟨w.heap.size,6,none⟩=some (.int .i64 k7)∧w'.cell? ⟨w.heap.size,7,none⟩=some (.slice b n c):=by
  intro w' ho
  have h2:=ho.heap (heap_alloc_new w (.cells #[.int .i64 k1,.int .i64 k2,.int .i64 k3,.int .i64 k4,.int .i64 k5,.int .i64 k6,.int .i64 k7,.slice b n c] 77)) (by simp)
  refine ⟨((Oth.refl _ _).alloc _).trans ho (Fr.nil _ _),?_,?_,?_,?_,?_,?_,?_,?_⟩
  all_goals (rw [World.cell?,h2];rfl)
set_option maxRecDepth 100000 in
set_option maxHeartbeats 4000000 in
theorem insP_any {o:OpD} (h:o.R w):Calls Tryz.prog 195 #[o.val] w fun e w'=>e = .returned (.tuple #[.int .i64 o.least,.int .i64 o.most])∧Oth [] w w':=by
  have N1:Hid (∀ w',Oth [] w w'→Calls Tryz.prog 55 #[o.val] w' fun e w2=>e = .returned (.bool o.right)∧Oth [] w' w2):=fun w' ho=>opRight_any (h.oth ho)
  unfold OpD.least OpD.most
  generalize o.right=r at N1 ⊢
  clear h
  obtain ⟨k1,k2,k3,k4,k5,k6,k7,b,n,c,s⟩:=o
  have HK:=Lib.hid (op_held w k1 k2 k3 k4 k5 k6 k7 b n c)
  simp only [OpD.val] at N1 ⊢
  cases r
  · simp only [Bool.false_eq_true,if_false]
    go_enter Tryz.func195,Tryz.ntmps195
    go_wp2_with (go_at_call 55;(with_reducible refine (N1.out _ ((Oth.refl [] w).alloc _)).mono ?_);rintro e w1 ⟨rfl,ho1⟩;obtain ⟨p0,p1,p2,p3,p4,p5,p6,p7,p8⟩:=HK.out _ ho1;clear ho1)
    go_ret2
    exact ⟨rfl,p0⟩
  simp only [if_true]
  by_cases h7:k1≤7
  · simp only [h7,if_true]
    go_enter Tryz.func195,Tryz.ntmps195
    go_wp2_with (first | (go_at_call 55;(with_reducible refine (N1.out _ ((Oth.refl [] w).alloc _)).mono ?_);rintro e w1 ⟨rfl,ho1⟩;obtain ⟨p0,p1,p2,p3,p4,p5,p6,p7,p8⟩:=HK.out _ ho1;clear ho1) | (go_at_call 240;(with_reducible refine (pIns_any _).mono ?_);rintro e w2 ⟨rfl,ho2⟩;replace p0:=p0.trans ho2 (Fr.nil _ _);clear ho2))
    go_ret2
    exact ⟨rfl,p0⟩
  by_cases h13:k1=13
  · subst h13
    simp only [Int.reduceLE,if_false,if_true]
    go_enter Tryz.func195,Tryz.ntmps195
    go_wp2_with (first | (go_at_call 55;(with_reducible refine (N1.out _ ((Oth.refl [] w).alloc _)).mono ?_);rintro e w1 ⟨rfl,ho1⟩;obtain ⟨p0,p1,p2,p3,p4,p5,p6,p7,p8⟩:=HK.out _ ho1;clear ho1) | (go_at_call 240;(with_reducible refine (pIns_any _).mono ?_);rintro e w2 ⟨rfl,ho2⟩;replace p0:=p0.trans ho2 (Fr.nil _ _);clear ho2))
    go_ret2
    exact ⟨rfl,p0⟩
  simp only [h7,h13,if_false]
  go_enter Tryz.func195,Tryz.ntmps195
  go_wp2_with (first | (go_at_call 55;(with_reducible refine (N1.out _ ((Oth.refl [] w).alloc _)).mono ?_);rintro e w1 ⟨rfl,ho1⟩;obtain ⟨p0,p1,p2,p3,p4,p5,p6,p7,p8⟩:=HK.out _ ho1;clear ho1) | (go_at_call 240;(with_reducible refine (pIns_any _).mono ?_);rintro e w2 ⟨rfl,ho2⟩;replace p0:=p0.trans ho2 (Fr.nil _ _);clear ho2))
  go_ret2
  exact ⟨rfl,p0⟩
set_option maxRecDepth 100000 in
set_option maxHeartbeats 4000000 in
theorem params_any {o:OpD} (h:o.R w):Calls Tryz.prog 196 #[o.val] w fun e w'=>e = .returned (.int .i64 o.params)∧Oth [] w w':=by
  have N1:Hid (∀ w',Oth [] w w'→Calls Tryz.prog 55 #[o.val] w' fun e w2=>e = .returned (.bool o.right)∧Oth [] w' w2):=fun w' ho=>opRight_any (h.oth ho)
  unfold OpD.params
  generalize o.right=r at N1 ⊢
  clear h
  obtain ⟨k1,k2,k3,k4,k5,k6,k7,b,n,c,s⟩:=o
  have HK:=Lib.hid (op_held w k1 k2 k3 k4 k5 k6 k7 b n c)
  simp only [OpD.val] at N1 ⊢
  cases r
  · simp only [Bool.false_eq_true,if_false]
    go_enter Tryz.func196,Tryz.ntmps196
    go_wp2_with (go_at_call 55;(with_reducible refine (N1.out _ ((Oth.refl [] w).alloc _)).mono ?_);rintro e w1 ⟨rfl,ho1⟩;obtain ⟨p0,p1,p2,p3,p4,p5,p6,p7,p8⟩:=HK.out _ ho1;clear ho1)
    go_ret
    exact ⟨rfl,p0⟩
  simp only [if_true]
  by_cases h8:k1=8
  · subst h8
    simp only [reduceIte,Int.reduceEq,or_true,true_or,or_false,false_or,or_self]
    go_enter Tryz.func196,Tryz.ntmps196
    go_wp2_with (go_at_call 55;(with_reducible refine (N1.out _ ((Oth.refl [] w).alloc _)).mono ?_);rintro e w1 ⟨rfl,ho1⟩;obtain ⟨p0,p1,p2,p3,p4,p5,p6,p7,p8⟩:=HK.out _ ho1;clear ho1)
    go_ret
    exact ⟨rfl,p0⟩
  by_cases h9:k1=9
  · subst h9
    simp only [reduceIte,Int.reduceEq,or_true,true_or,or_false,false_or,or_self]
    go_enter Tryz.func196,Tryz.ntmps196
    go_wp2_with (go_at_call 55;(with_reducible refine (N1.out _ ((Oth.refl [] w).alloc _)).mono ?_);rintro e w1 ⟨rfl,ho1⟩;obtain ⟨p0,p1,p2,p3,p4,p5,p6,p7,p8⟩:=HK.out _ ho1;clear ho1)
    go_ret
    exact ⟨rfl,p0⟩
  by_cases h10:k1=10
  · subst h10
    simp only [reduceIte,Int.reduceEq,or_true,true_or,or_false,false_or,or_self]
    go_enter Tryz.func196,Tryz.ntmps196
    go_wp2_with (go_at_call 55;(with_reducible refine (N1.out _ ((Oth.refl [] w).alloc _)).mono ?_);rintro e w1 ⟨rfl,ho1⟩;obtain ⟨p0,p1,p2,p3,p4,p5,p6,p7,p8⟩:=HK.out _ ho1;clear ho1)
    go_ret
    exact ⟨rfl,p0⟩
  simp only [h8,h9,h10,if_false,or_self]
  go_enter Tryz.func196,Tryz.ntmps196
  go_wp2_with (go_at_call 55;(with_reducible refine (N1.out _ ((Oth.refl [] w).alloc _)).mono ?_);rintro e w1 ⟨rfl,ho1⟩;obtain ⟨p0,p1,p2,p3,p4,p5,p6,p7,p8⟩:=HK.out _ ho1;clear ho1)
  go_ret
  exact ⟨rfl,p0⟩
set_option maxRecDepth 100000 in
set_option maxHeartbeats 4000000 in
theorem counts_any {o:OpD} (h:o.R w) (p x:Int):Calls Tryz.prog 153 #[o.val,.int .i64 p,.int .i64 x] w fun e w'=>e = .returned (.int .i64 (o.counts p x))∧Oth [] w w':=by
  have N1:Hid (∀ w',Oth [] w w'→Calls Tryz.prog 55 #[o.val] w' fun e w2=>e = .returned (.bool o.right)∧Oth [] w' w2):=fun w' ho=>opRight_any (h.oth ho)
  have N2:Hid (∀ w',Oth [] w w'→Calls Tryz.prog 195 #[o.val] w' fun e w2=>e = .returned (.tuple #[.int .i64 o.least,.int .i64 o.most])∧Oth [] w' w2):=fun w' ho=>insP_any (h.oth ho)
  have N3:Hid (∀ w',Oth [] w w'→Calls Tryz.prog 196 #[o.val] w' fun e w2=>e = .returned (.int .i64 o.params)∧Oth [] w' w2):=fun w' ho=>params_any (h.oth ho)
  unfold OpD.counts
  generalize o.right=r at N1 ⊢
  generalize o.least=le at N2 ⊢
  generalize o.most=mo at N2 ⊢
  generalize o.params=pa at N3 ⊢
  clear h
  obtain ⟨k1,k2,k3,k4,k5,k6,k7,b,n,c,s⟩:=o
  have HK:=Lib.hid (op_held w k1 k2 k3 k4 k5 k6 k7 b n c)
  simp only [OpD.val] at N1 N2 N3 ⊢
  cases r
  · simp only [Bool.false_eq_true,if_false]
    go_enter Tryz.func153,Tryz.ntmps153
    go_wp2_with (go_at_call 55;(with_reducible refine (N1.out _ ((Oth.refl [] w).alloc _)).mono ?_);rintro e w1 ⟨rfl,ho1⟩;obtain ⟨p0,p1,p2,p3,p4,p5,p6,p7,p8⟩:=HK.out _ ho1;clear ho1)
    go_ret
    exact ⟨rfl,p0⟩
  simp only [if_true]
  by_cases h1:x < le
  · simp only [h1,true_or,if_true]
    go_enter Tryz.func153,Tryz.ntmps153
    go_wp2_with (first
      | (go_at_call 55;(with_reducible refine (N1.out _ ((Oth.refl [] w).alloc _)).mono ?_);rintro e w1 ⟨rfl,ho1⟩;replace ho1:=Lib.hid ho1;obtain ⟨p0,p1,p2,p3,p4,p5,p6,p7,p8⟩:=HK.out _ ho1.out)
      | (go_at_call 195;(with_reducible refine (N2.out _ p0).mono ?_);rintro e w2 ⟨rfl,ho2⟩;replace ho1:=Lib.hid (ho1.out.trans ho2 (Fr.nil _ _));clear ho2 p0 p1 p2 p3 p4 p5 p6 p7 p8;obtain ⟨p0,p1,p2,p3,p4,p5,p6,p7,p8⟩:=HK.out _ ho1.out)
      | (go_at_call 196;(with_reducible refine (N3.out _ p0).mono ?_);rintro e w3 ⟨rfl,ho3⟩;replace ho1:=Lib.hid (ho1.out.trans ho3 (Fr.nil _ _));clear ho3 p0 p1 p2 p3 p4 p5 p6 p7 p8;obtain ⟨p0,p1,p2,p3,p4,p5,p6,p7,p8⟩:=HK.out _ ho1.out))
    all_goals first
      | (go_ret;exact ⟨rfl,p0⟩)
      | (exfalso;clear N2 N3 HK p0 p1 p2 p3 p4 p5 p6 p7 p8;simp_all;done)
  by_cases h2:x > mo
  · simp only [h2,or_true,true_or,if_true]
    have h2':mo < x:=h2
    go_enter Tryz.func153,Tryz.ntmps153
    go_wp2_with (first
      | (go_at_call 55;(with_reducible refine (N1.out _ ((Oth.refl [] w).alloc _)).mono ?_);rintro e w1 ⟨rfl,ho1⟩;replace ho1:=Lib.hid ho1;obtain ⟨p0,p1,p2,p3,p4,p5,p6,p7,p8⟩:=HK.out _ ho1.out)
      | (go_at_call 195;(with_reducible refine (N2.out _ p0).mono ?_);rintro e w2 ⟨rfl,ho2⟩;replace ho1:=Lib.hid (ho1.out.trans ho2 (Fr.nil _ _));clear ho2 p0 p1 p2 p3 p4 p5 p6 p7 p8;obtain ⟨p0,p1,p2,p3,p4,p5,p6,p7,p8⟩:=HK.out _ ho1.out)
      | (go_at_call 196;(with_reducible refine (N3.out _ p0).mono ?_);rintro e w3 ⟨rfl,ho3⟩;replace ho1:=Lib.hid (ho1.out.trans ho3 (Fr.nil _ _));clear ho3 p0 p1 p2 p3 p4 p5 p6 p7 p8;obtain ⟨p0,p1,p2,p3,p4,p5,p6,p7,p8⟩:=HK.out _ ho1.out))
    all_goals first
      | (go_ret;exact ⟨rfl,p0⟩)
      | (exfalso;clear N2 N3 HK p0 p1 p2 p3 p4 p5 p6 p7 p8;simp_all;done)
  have h2':¬ mo < x:=h2
  by_cases h3:p=pa
  · subst h3
    simp only [h1,h2,or_self,not_true_eq_false,ne_eq,if_false]
    go_enter Tryz.func153,Tryz.ntmps153
    go_wp2_with (first
      | (go_at_call 55;(with_reducible refine (N1.out _ ((Oth.refl [] w).alloc _)).mono ?_);rintro e w1 ⟨rfl,ho1⟩;replace ho1:=Lib.hid ho1;obtain ⟨p0,p1,p2,p3,p4,p5,p6,p7,p8⟩:=HK.out _ ho1.out)
      | (go_at_call 195;(with_reducible refine (N2.out _ p0).mono ?_);rintro e w2 ⟨rfl,ho2⟩;replace ho1:=Lib.hid (ho1.out.trans ho2 (Fr.nil _ _));clear ho2 p0 p1 p2 p3 p4 p5 p6 p7 p8;obtain ⟨p0,p1,p2,p3,p4,p5,p6,p7,p8⟩:=HK.out _ ho1.out)
      | (go_at_call 196;(with_reducible refine (N3.out _ p0).mono ?_);rintro e w3 ⟨rfl,ho3⟩;replace ho1:=Lib.hid (ho1.out.trans ho3 (Fr.nil _ _));clear ho3 p0 p1 p2 p3 p4 p5 p6 p7 p8;obtain ⟨p0,p1,p2,p3,p4,p5,p6,p7,p8⟩:=HK.out _ ho1.out))
    all_goals first
      | (go_ret;exact ⟨rfl,p0⟩)
      | (exfalso;clear N2 N3 HK p0 p1 p2 p3 p4 p5 p6 p7 p8;simp_all;done)
  · simp only [ne_eq,h3,not_false_eq_true,or_true,if_true]
    go_enter Tryz.func153,Tryz.ntmps153
    go_wp2_with (first
      | (go_at_call 55;(with_reducible refine (N1.out _ ((Oth.refl [] w).alloc _)).mono ?_);rintro e w1 ⟨rfl,ho1⟩;replace ho1:=Lib.hid ho1;obtain ⟨p0,p1,p2,p3,p4,p5,p6,p7,p8⟩:=HK.out _ ho1.out)
      | (go_at_call 195;(with_reducible refine (N2.out _ p0).mono ?_);rintro e w2 ⟨rfl,ho2⟩;replace ho1:=Lib.hid (ho1.out.trans ho2 (Fr.nil _ _));clear ho2 p0 p1 p2 p3 p4 p5 p6 p7 p8;obtain ⟨p0,p1,p2,p3,p4,p5,p6,p7,p8⟩:=HK.out _ ho1.out)
      | (go_at_call 196;(with_reducible refine (N3.out _ p0).mono ?_);rintro e w3 ⟨rfl,ho3⟩;replace ho1:=Lib.hid (ho1.out.trans ho3 (Fr.nil _ _));clear ho3 p0 p1 p2 p3 p4 p5 p6 p7 p8;obtain ⟨p0,p1,p2,p3,p4,p5,p6,p7,p8⟩:=HK.out _ ho1.out))
    all_goals first
      | (go_ret;exact ⟨rfl,p0⟩)
      | (exfalso;clear N2 N3 HK p0 p1 p2 p3 p4 p5 p6 p7 p8;simp_all;done)
end
end Go.Proofs.YtnpdcjdmbkcpbaaGreat.Ins
namespace Go.Proofs.YtnpdcjdmbkcpbaaGreat.Ins
open Go.RowKit
def ShR (r:Option (List Int)) (e:Ending) (w:World):Prop:=
  match r with
  | some l=>∃ b n c,e = .returned (.tuple #[.slice b n c,.int .i64 0])∧RI b n c l w
  | none=>∃ k:Int,k≠0∧e = .returned (.tuple #[.slice none 0 0,.int .i64 k])
def denseB (w b x:List Int):Option (List Int):=
  if w.length=2∧b.length=1∧b.getD 0 0=w.getD 0 0∧shB x=true∧prd x=w.getD 1 0 then some [w.getD 0 0] else none
section
variable {w:World}
set_option maxRecDepth 100000 in
set_option maxHeartbeats 4000000 in
theorem dense_any {b1 b2 b3:Option Addr} {n1 c1 n2 c2 n3 c3:Nat} {l1 l2 l3:List Int} (h1:RI b1 n1 c1 l1 w) (h2:RI b2 n2 c2 l2 w) (h3:RI b3 n3 c3 l3 w) :
    Calls Tryz.prog 154 #[.slice b1 n1 c1,.slice b2 n2 c2,.slice b3 n3 c3] w fun e w'=>ShR (denseB l1 l2 l3) e w'∧Oth [] w w':=by
  have N3:Hid (∀ w',Oth [] w w'→Calls Tryz.prog 59 #[.slice b3 n3 c3] w' fun e w2=>e = .returned (if shB l3=true then .tuple #[.int .i64 (prd l3),.int .i64 0] else .tuple #[.int .i64 0,.int .i64 20])∧Oth [] w' w2):=fun w' ho=>size_any (h3.oth ho)
  unfold denseB
  by_cases k1:n1=2
  · by_cases k2 : n2=1
    · obtain ⟨g1,o1,rfl,-,e1,-,r1⟩:∃ g off,b1=some ⟨g,off,none⟩∧0 < n1∧n1=l1.length∧g < w.heap.size∧∀ i,i < n1→w.cell? ⟨g,off + i,none⟩=some (.int .i64 (l1.getD i 0)):=by
        rcases h1.cases with ⟨h,-⟩ | h
        · omega
        · exact h
      obtain ⟨g2,o2,rfl,-,e2,-,r2⟩:∃ g off,b2=some ⟨g,off,none⟩∧0 < n2∧n2=l2.length∧g < w.heap.size∧∀ i,i < n2→w.cell? ⟨g,off + i,none⟩=some (.int .i64 (l2.getD i 0)):=by
        rcases h2.cases with ⟨h,-⟩ | h
        · omega
        · exact h
      have d0:w.cell? ⟨g1,o1,none⟩=some (.int .i64 (l1.getD 0 0)):=by simpa using r1 0 (by omega)
      have d1:=r1 1 (by omega)
      have d2:w.cell? ⟨g2,o2,none⟩=some (.int .i64 (l2.getD 0 0)):=by simpa using r2 0 (by omega)
      have q1:l1.length=2:=by omega
      have q2:l2.length=1:=by omega
      have hw0:=h1.wf (l1.getD 0 0) (h1.get (m:=0) (by omega))
      generalize l1.getD 0 0=x0 at d0 hw0 ⊢
      generalize l1.getD 1 0=x1 at d1 ⊢
      generalize l2.getD 0 0=y0 at d2 ⊢
      simp only [q1,q2,true_and]
      subst k1 k2
      clear h1 h2 h3 r1 r2 e1 e2 q1 q2
      by_cases k3:y0=x0
      · subst k3
        generalize prd l3=z at N3 ⊢
        generalize shB l3=sb at N3 ⊢
        cases sb with
        | false=>
          simp only [Bool.false_eq_true,false_and,and_false,if_false] at N3 ⊢
          go_enter Tryz.func154,Tryz.ntmps154
          go_wp2_with fail
          first | go_region | fail
          all_goals
            go_wp2_with (go_at_call 59;(with_reducible refine (N3.out _ (Oth.refl _ _).drew).mono ?_);rintro e w1 ⟨rfl,ho2⟩;have ho1:Oth [] w w1:=(Oth.refl _ _).drew.trans ho2 (Fr.nil _ _);clear ho2;have D1:=ho1.cell d1 (by simp))
            go_ret2
            exact ⟨⟨20,by decide,rfl⟩,ho1⟩
        | true=>
          simp only [true_and,if_true] at N3 ⊢
          by_cases k4:z=x1
          · subst k4
            rw [if_pos rfl]
            go_enter Tryz.func154,Tryz.ntmps154
            go_wp2_with fail
            first | go_region | fail
            all_goals
              go_wp2_with (go_at_call 59;(with_reducible refine (N3.out _ (Oth.refl _ _).drew).mono ?_);rintro e w1 ⟨rfl,ho2⟩;have ho1:Oth [] w w1:=(Oth.refl _ _).drew.trans ho2 (Fr.nil _ _);clear ho2;have D1:=ho1.cell d1 (by simp);have D0:=ho1.cell d0 (by simp))
              go_ret2
              have hr:RI (some ⟨w1.heap.size,0,none⟩) 1 1 [y0] (w1.alloc (.cells #[.int .i64 y0] 3)):=by
                refine ri_row (row_of_list (xs:=[.int .i64 y0]) (heap_alloc_new _ _) rfl (by decide)) ?_
                intro k hk
                rw [List.mem_singleton] at hk
                rw [hk]
                exact hw0
              exact ⟨⟨_,_,_,rfl,hr⟩,ho1.alloc _⟩
          · rw [if_neg k4]
            go_enter Tryz.func154,Tryz.ntmps154
            go_wp2_with fail
            first | go_region | fail
            all_goals
              go_wp2_with (go_at_call 59;(with_reducible refine (N3.out _ (Oth.refl _ _).drew).mono ?_);rintro e w1 ⟨rfl,ho2⟩;have ho1:Oth [] w w1:=(Oth.refl _ _).drew.trans ho2 (Fr.nil _ _);clear ho2;have D1:=ho1.cell d1 (by simp))
              go_ret2
              exact ⟨⟨20,by decide,rfl⟩,ho1⟩
      · rw [if_neg (fun h=>k3 h.1)]
        clear N3
        go_enter Tryz.func154,Tryz.ntmps154
        go_wp2_with fail
        first | go_region | fail
        all_goals
          go_wp2_with fail
          go_ret2
          exact ⟨⟨20,by decide,rfl⟩,(Oth.refl _ _).drew⟩
    · have hq:¬ (l1.length=2∧l2.length=1∧l2.getD 0 0=l1.getD 0 0∧shB l3=true∧prd l3=l1.getD 1 0):=by have:=h2.len;omega
      rw [if_neg hq]
      have t1:¬ (n2:Int)=1:=by omega
      clear h1 h2 h3 hq k2 N3
      subst k1
      go_enter Tryz.func154,Tryz.ntmps154
      go_wp2_with fail
      first | go_region | fail
      all_goals
        go_wp2_with fail
        go_ret2
        exact ⟨⟨20,by decide,rfl⟩,(Oth.refl _ _).drew⟩
  · have hq:¬ (l1.length=2∧l2.length=1∧l2.getD 0 0=l1.getD 0 0∧shB l3=true∧prd l3=l1.getD 1 0):=by have:=h1.len;omega
    rw [if_neg hq]
    have t1:¬ (n1:Int)=2:=by omega
    clear h1 h2 h3 hq k1 N3
    go_enter Tryz.func154,Tryz.ntmps154
    go_wp2_with fail
    first | go_region | fail
    all_goals
      go_wp2_with fail
      go_ret2
      exact ⟨⟨20,by decide,rfl⟩,(Oth.refl _ _).drew⟩
end
end Go.Proofs.YtnpdcjdmbkcpbaaGreat.Ins
namespace Go.Proofs.YtnpdcjdmbkcpbaaGreat.Ins
open Go.RowKit
def turnedB (x s:List Int):Option (List Int):=if shB x=true∧shB s=true∧prd s=prd x then some s else none
section
variable {w:World}
set_option maxRecDepth 100000 in
set_option maxHeartbeats 4000000 in
theorem turned_any {b1 b2:Option Addr} {n1 c1 n2 c2:Nat} {l1 l2:List Int} (h1:RI b1 n1 c1 l1 w) (h2:RI b2 n2 c2 l2 w) :
    Calls Tryz.prog 160 #[.slice b1 n1 c1,.slice b2 n2 c2] w fun e w'=>ShR (turnedB l1 l2) e w'∧Oth [] w w':=by
  have N1:=Lib.hid (size_any h1)
  have N2:Hid (∀ w',Oth [] w w'→Calls Tryz.prog 59 #[.slice b2 n2 c2] w' fun e w2=>e = .returned (if shB l2=true then .tuple #[.int .i64 (prd l2),.int .i64 0] else .tuple #[.int .i64 0,.int .i64 20])∧Oth [] w' w2):=fun w' ho=>size_any (h2.oth ho)
  unfold turnedB
  by_cases s1:shB l1=true
  · rw [if_pos s1] at N1
    by_cases s2:shB l2=true
    · simp only [if_pos s2] at N2
      have hn:n2≤1000000:=by
        have:=h2.len
        simp only [shB,Bool.and_eq_true,decide_eq_true_eq] at s2
        omega
      have N3:Hid (∀ w',Oth [] w w'→Calls Tryz.prog 111 #[.slice b2 n2 c2] w' fun e w2=>∃ g,e = .returned (.slice (some ⟨g,0,none⟩) n2 n2)∧Oth [] w' w2∧w'.heap.size≤g∧RI (some ⟨g,0,none⟩) n2 n2 l2 w2):=fun w' ho=>copy_any (h2.oth ho) hn
      simp only [s1,s2,true_and]
      clear h1 h2 s1 s2 hn
      generalize prd l1=z at N1 ⊢
      generalize prd l2=y at N2 ⊢
      by_cases hz:y=z
      · subst hz
        rw [if_pos rfl]
        go_enter Tryz.func160,Tryz.ntmps160
        go_wp2_with (first
          | (go_at_call 59;(with_reducible refine N1.out.mono ?_);rintro e w1 ⟨rfl,ho1⟩;clear N1;replace ho1:=Lib.hid ho1)
          | (go_at_call 59;(with_reducible refine (N2.out _ ho1.out).mono ?_);rintro e w2 ⟨rfl,ho2⟩;replace ho1:=Lib.hid (ho1.out.trans ho2 (Fr.nil _ _));clear ho2)
          | (go_at_call 111;(with_reducible refine (N3.out _ ho1.out).mono ?_);rintro e w3 ⟨g,rfl,ho3,-,hr⟩;replace ho1:=Lib.hid (ho1.out.trans ho3 (Fr.nil _ _));clear ho3;replace hr:=Lib.hid hr))
        go_ret2
        exact ⟨⟨_,_,_,rfl,hr.out⟩,ho1.out⟩
      · rw [if_neg hz]
        clear N3
        go_enter Tryz.func160,Tryz.ntmps160
        go_wp2_with (first
          | (go_at_call 59;(with_reducible refine N1.out.mono ?_);rintro e w1 ⟨rfl,ho1⟩;clear N1;replace ho1:=Lib.hid ho1)
          | (go_at_call 59;(with_reducible refine (N2.out _ ho1.out).mono ?_);rintro e w2 ⟨rfl,ho2⟩;replace ho1:=Lib.hid (ho1.out.trans ho2 (Fr.nil _ _));clear ho2))
        go_ret2
        exact ⟨⟨20,by decide,rfl⟩,ho1.out⟩
    · simp only [if_neg s2] at N2
      rw [if_neg (fun h=>s2 h.2.1)]
      clear h1 h2 s1 s2
      generalize prd l1=z at N1 ⊢
      go_enter Tryz.func160,Tryz.ntmps160
      go_wp2_with (first
        | (go_at_call 59;(with_reducible refine N1.out.mono ?_);rintro e w1 ⟨rfl,ho1⟩;clear N1;replace ho1:=Lib.hid ho1)
        | (go_at_call 59;(with_reducible refine (N2.out _ ho1.out).mono ?_);rintro e w2 ⟨rfl,ho2⟩;replace ho1:=Lib.hid (ho1.out.trans ho2 (Fr.nil _ _));clear ho2))
      go_ret2
      exact ⟨⟨20,by decide,rfl⟩,ho1.out⟩
  · rw [if_neg s1] at N1
    rw [if_neg (fun h=>s1 h.1)]
    clear h1 h2 s1 N2
    go_enter Tryz.func160,Tryz.ntmps160
    go_wp2_with (go_at_call 59;(with_reducible refine N1.out.mono ?_);rintro e w1 ⟨rfl,ho1⟩;clear N1;replace ho1:=Lib.hid ho1)
    go_ret2
    exact ⟨⟨20,by decide,rfl⟩,ho1.out⟩
end
end Go.Proofs.YtnpdcjdmbkcpbaaGreat.Ins
namespace Go.Proofs.YtnpdcjdmbkcpbaaGreat.Ins
open Go.RowKit
def windowB (side width step:Int):Option Int:=
  if (1≤side∧side≤1024)∧(1≤width∧width≤1024)∧(1≤step∧step≤1024)∧width≤side then some (1 + (side - width) / step) else none
def IntR (r:Option Int) (e:Ending):Prop:=
  match r with
  | some l=>e = .returned (.tuple #[.int .i64 l,.int .i64 0])
  | none=>∃ k:Int,k≠0∧e = .returned (.tuple #[.int .i64 0,.int .i64 k])
section
variable {w:World}
theorem info3p:(Tryz.prog.info? 3).map (·.size)=some 1:=by kernel_rfl
theorem idx303 (x y z v:Int) (i:Nat) (hi : [x,y,z][i]?=some v) (w:World):(Instr.index 303 (.agg #[.int .i64 x,.int .i64 y,.int .i64 z]) (.int .i64 (i:Int))).run Tryz.prog w = .ok (.int .i64 v) w:=by
  have hl:i < 3:=by
    rcases Nat.lt_or_ge i 3 with h | h
    · exact h
    · rw [List.getElem?_eq_none (by simpa using h)] at hi;simp at hi
  have hc:Tryz.prog.cellsOf 3=1:=by
    obtain ⟨i,h1,h2⟩:=Option.map_eq_some_iff.mp info3p
    simp [Program.cellsOf,h1,h2]
  match i,hl,hi with
  | 0,_,hi=>
    simp at hi
    simp [Instr.index,run_underlying Tryz.underlying303,hc,part,isAgg,run_underlying Tryz.underlying3,asIntOf,hi]
  | 1,_,hi=>
    simp at hi
    simp [Instr.index,run_underlying Tryz.underlying303,hc,part,isAgg,run_underlying Tryz.underlying3,asIntOf,hi]
  | 2,_,hi=>
    simp at hi
    simp [Instr.index,run_underlying Tryz.underlying303,hc,part,isAgg,run_underlying Tryz.underlying3,asIntOf,hi]
set_option maxRecDepth 100000 in
set_option maxHeartbeats 4000000 in
theorem window_any (side width step:Int) :
    Calls Tryz.prog 197 #[.int .i64 side,.int .i64 width,.int .i64 step] w fun e w'=>IntR (windowB side width step) e∧Oth [] w w':=by
  unfold windowB
  have bad:∀ k:Int,¬ (1≤k∧k≤1024) ↔ (k < 1∨(¬ k < 1∧1024 < k)):=fun k=>by omega
  have i0:∀ w',(Instr.index 303 (.agg #[.int .i64 side,.int .i64 width,.int .i64 step]) (.int .i64 0)).run Tryz.prog w' = .ok (.int .i64 side) w':=idx303 side width step side 0 rfl
  have i1:∀ w',(Instr.index 303 (.agg #[.int .i64 side,.int .i64 width,.int .i64 step]) (.int .i64 1)).run Tryz.prog w' = .ok (.int .i64 width) w':=idx303 side width step width 1 rfl
  have i2:∀ w',(Instr.index 303 (.agg #[.int .i64 side,.int .i64 width,.int .i64 step]) (.int .i64 2)).run Tryz.prog w' = .ok (.int .i64 step) w':=idx303 side width step step 2 rfl
  by_cases g1:1≤side∧side≤1024
  · have t1:¬ side < 1:=by omega
    have t2:¬ 1024 < side:=by omega
    by_cases g2:1≤width∧width≤1024
    · have t3:¬ width < 1:=by omega
      have t4:¬ 1024 < width:=by omega
      by_cases g3:1≤step∧step≤1024
      · have t5:¬ step < 1:=by omega
        have t6:¬ 1024 < step:=by omega
        simp only [g1,g2,g3,and_self,true_and]
        by_cases g4:width≤side
        · rw [if_pos g4]
          have t7:¬ side < width:=by omega
          have e1:IntKind.i64.wrap (side - width)=side - width:=IntWalk.i64_in _ (by omega)
          have e0:0≤(side - width) / step∧(side - width) / step≤1024:=⟨Int.ediv_nonneg (by omega) (by omega),Int.le_trans (Int.ediv_le_self _ (by omega)) (by omega)⟩
          have e4:(side - width).tdiv step=(side - width) / step:=Int.tdiv_eq_ediv_of_nonneg (by omega)
          have e2:IntKind.i64.wrap ((side - width) / step)=(side - width) / step:=IntWalk.i64_in _ (by omega)
          have e3:IntKind.i64.wrap (1 + (side - width) / step)=1 + (side - width) / step:=IntWalk.i64_in _ (by omega)
          have t8:¬ step=0:=by omega
          clear g1 g2 g3 g4 bad e0
          go_enter Tryz.func197,Tryz.ntmps197
          go_wp2_with fail
          refine wp_loop_rounds 4 ?_
          rw [rounds_succ]
          go_wp2_with fail
          rw [rounds_succ]
          go_wp2_with fail
          rw [rounds_succ]
          go_wp2_with fail
          rw [rounds_succ]
          go_wp2_with fail
          go_ret2
          exact ⟨rfl,Oth.refl _ _⟩
        · rw [if_neg g4]
          have t7:side < width:=by omega
          clear g1 g2 g3 g4 bad
          go_enter Tryz.func197,Tryz.ntmps197
          go_wp2_with fail
          refine wp_loop_rounds 4 ?_
          rw [rounds_succ]
          go_wp2_with fail
          rw [rounds_succ]
          go_wp2_with fail
          rw [rounds_succ]
          go_wp2_with fail
          rw [rounds_succ]
          go_wp2_with fail
          go_ret2
          exact ⟨⟨11,by decide,rfl⟩,Oth.refl _ _⟩
      · rw [if_neg (fun h=>g3 h.2.2.1)]
        rcases (bad step).mp g3 with u | ⟨u,u'⟩
        · clear bad g3
          go_enter Tryz.func197,Tryz.ntmps197
          go_wp2_with fail
          refine wp_loop_rounds 4 ?_
          rw [rounds_succ]
          go_wp2_with fail
          rw [rounds_succ]
          go_wp2_with fail
          rw [rounds_succ]
          go_wp2_with fail
          go_ret2
          exact ⟨⟨11,by decide,rfl⟩,Oth.refl _ _⟩
        · clear bad g3
          go_enter Tryz.func197,Tryz.ntmps197
          go_wp2_with fail
          refine wp_loop_rounds 4 ?_
          rw [rounds_succ]
          go_wp2_with fail
          rw [rounds_succ]
          go_wp2_with fail
          rw [rounds_succ]
          go_wp2_with fail
          go_ret2
          exact ⟨⟨11,by decide,rfl⟩,Oth.refl _ _⟩
    · rw [if_neg (fun h=>g2 h.2.1)]
      rcases (bad width).mp g2 with u | ⟨u,u'⟩
      · clear bad g2
        go_enter Tryz.func197,Tryz.ntmps197
        go_wp2_with fail
        refine wp_loop_rounds 4 ?_
        rw [rounds_succ]
        go_wp2_with fail
        rw [rounds_succ]
        go_wp2_with fail
        go_ret2
        exact ⟨⟨11,by decide,rfl⟩,Oth.refl _ _⟩
      · clear bad g2
        go_enter Tryz.func197,Tryz.ntmps197
        go_wp2_with fail
        refine wp_loop_rounds 4 ?_
        rw [rounds_succ]
        go_wp2_with fail
        rw [rounds_succ]
        go_wp2_with fail
        go_ret2
        exact ⟨⟨11,by decide,rfl⟩,Oth.refl _ _⟩
  · rw [if_neg (fun h=>g1 h.1)]
    rcases (bad side).mp g1 with u | ⟨u,u'⟩
    · clear bad g1
      go_enter Tryz.func197,Tryz.ntmps197
      go_wp2_with fail
      refine wp_loop_rounds 4 ?_
      rw [rounds_succ]
      go_wp2_with fail
      go_ret2
      exact ⟨⟨11,by decide,rfl⟩,Oth.refl _ _⟩
    · clear bad g1
      go_enter Tryz.func197,Tryz.ntmps197
      go_wp2_with fail
      refine wp_loop_rounds 4 ?_
      rw [rounds_succ]
      go_wp2_with fail
      go_ret2
      exact ⟨⟨11,by decide,rfl⟩,Oth.refl _ _⟩
end
end Go.Proofs.YtnpdcjdmbkcpbaaGreat.Ins
namespace Go.Proofs.YtnpdcjdmbkcpbaaGreat.Ins
open Go.RowKit
def cutB (l:List Int) (side fr to:Int):Option (List Int):=
  if shB l=true∧(0≤side∧side < l.length)∧(0≤fr∧to≤l.getD side.toNat 0∧fr < to) then some (l.set side.toNat (to - fr)) else none
def poolB (l:List Int) (width step:Int):Option (List Int):=
  if shB l=true then (windowB (l.getD (l.length - 1) 0) width step).map fun n=>l.set (l.length - 1) n else none
theorem ivl_set (l:List Int) (i:Nat) (k:Int):(ivl l).set i (.int .i64 k)=ivl (l.set i k):=by simp [ivl,List.map_set]
theorem wf_set {l:List Int} {i:Nat} {x:Int} (h:∀ k,k∈l→-9223372036854775808≤k∧k≤9223372036854775807) (hx : -9223372036854775808≤x∧x≤9223372036854775807):∀ k,k∈l.set i x→-9223372036854775808≤k∧k≤9223372036854775807:=by
  intro k hk
  rcases List.mem_or_eq_of_mem_set hk with h1 | h1
  · exact h k h1
  · rw [h1];exact hx
theorem window_side {x width step y:Int} (h:windowB x width step=some y):1≤y∧y≤1024:=by
  unfold windowB at h
  split at h
  · rename_i g
    simp only [Option.some.injEq] at h
    have e0:0≤(x - width) / step:=Int.ediv_nonneg (by omega) (by omega)
    have e1:(x - width) / step≤x - width:=Int.ediv_le_self _ (by omega)
    omega
  · simp at h
section
variable {w:World}
theorem ri_set {w':World} {g n:Nat} {l:List Int} {m:Nat} {x:Int} (hr:Row 3 1 g n n (ivl l) w') (hw:∀ k,k∈l→-9223372036854775808≤k∧k≤9223372036854775807) (hx : -9223372036854775808≤x∧x≤9223372036854775807) :
    RI (some ⟨g,0,none⟩) n n (l.set m x) (w'.setCell ⟨g,m,none⟩ (.int .i64 x)):=by
  have:=hr.set m (.int .i64 x)
  rw [ivl_set] at this
  exact ri_row this (wf_set hw hx)
theorem shB_len {l:List Int} (h:shB l=true):1≤l.length∧l.length≤4:=by
  simp only [shB,Bool.and_eq_true,decide_eq_true_eq] at h
  exact ⟨h.1.1.1,h.1.1.2⟩
theorem shB_side {l:List Int} (h:shB l=true) {i:Nat} (hi:i < l.length):1≤l.getD i 0∧l.getD i 0≤1024:=by
  simp only [shB,Bool.and_eq_true,decide_eq_true_eq] at h
  refine sides_mem h.1.2 _ ?_
  rw [List.getD_eq_getElem?_getD,List.getElem?_eq_getElem hi]
  exact List.getElem_mem hi
set_option maxRecDepth 100000 in
set_option maxHeartbeats 4000000 in
theorem cut_any {b:Option Addr} {n c:Nat} {l:List Int} (h:RI b n c l w) (side fr to:Int) :
    Calls Tryz.prog 159 #[.slice b n c,.int .i64 side,.int .i64 fr,.int .i64 to] w fun e w'=>ShR (cutB l side fr to) e w'∧Oth [] w w':=by
  have N1:=Lib.hid (shRight_any h)
  unfold cutB
  by_cases s1:shB l=true
  · rw [s1] at N1
    have hl:=shB_len s1
    have hs:=fun i hi=>shB_side s1 (i:=i) hi
    have N2:Hid (∀ w',Oth [] w w'→Calls Tryz.prog 111 #[.slice b n c] w' fun e w2=>∃ g,e = .returned (.slice (some ⟨g,0,none⟩) n n)∧Oth [] w' w2∧w'.heap.size≤g∧Row 3 1 g n n (ivl l) w2):=fun w' ho=>copy_row (h.oth ho) (by have:=h.len;omega)
    have hlen:=h.len
    obtain ⟨g,off,rfl,-,-,-,h6⟩:∃ g off,b=some ⟨g,off,none⟩∧0 < n∧n=l.length∧g < w.heap.size∧∀ i,i < n→w.cell? ⟨g,off + i,none⟩=some (.int .i64 (l.getD i 0)):=by
      rcases h.cases with ⟨h,-⟩ | h
      · omega
      · exact h
    simp only [s1,true_and]
    have HW:=Lib.hid h.wf
    by_cases c1:0≤side∧side < l.length
    · obtain ⟨m,rfl⟩:∃ m:Nat,side=m:=⟨side.toNat,by omega⟩
      have hm:m < n:=by omega
      have a1:=h6 m hm
      have hs1:=hs m (by omega)
      rw [Int.toNat_natCast]
      have t1:¬ (m:Int) < 0:=by omega
      have t2:¬ (n:Int)≤m:=by omega
      have t2':(m:Int) < n:=by omega
      by_cases c2:0≤fr∧to≤l.getD m 0∧fr < to
      · rw [if_pos ⟨c1,c2⟩]
        obtain ⟨x,hx⟩:∃ x,x=l.getD m 0:=⟨_,rfl⟩
        rw [← hx] at a1 c2 hs1
        have t3:¬ fr < 0:=by omega
        have t4:¬ x < to:=by omega
        have t5:¬ to≤fr:=by omega
        have e1:IntKind.i64.wrap (to - fr)=to - fr:=IntWalk.i64_in _ (by omega)
        have HX:Hid (-9223372036854775808≤to - fr∧to - fr≤9223372036854775807):=⟨by omega,by omega⟩
        have HM:Hid ((ivl l)[m]?=some (.int .i64 x)):=by
          refine ivl_get ?_
          rw [hx,List.getD_eq_getElem?_getD,List.getElem?_eq_getElem (by omega)];rfl
        clear h hl hs h6 hx c1 c2 hs1 s1 hlen
        go_enter Tryz.func159,Tryz.ntmps159
        go_wp2_with (first
          | (go_at_call 54;(with_reducible refine N1.out.mono ?_);rintro e w1 ⟨rfl,ho1⟩;have b1:=ho1.cell a1 (by simp);have b2:=World.block_lt_of_cell? _ _ b1;replace ho1:=Lib.hid ho1)
          | (go_at_call 111;(with_reducible refine (N2.out _ ho1.out).mono ?_);rintro e w3 ⟨g3,rfl,ho3,hg3,hr⟩;have ho4:=Lib.hid (ho1.out.trans ho3 (Fr.nil _ _));have hgx:=Lib.hid (Nat.le_trans ho1.out.size hg3);clear ho3 hg3 b1 b2;have b3:w3.cell? ⟨g3,m,none⟩=some (.int .i64 x):=hr.cell HM.out;have b4:=World.block_lt_of_cell? _ _ b3;have b5:=hr.free m;replace hr:=Lib.hid hr))
        go_ret2
        exact ⟨⟨_,_,_,rfl,ri_set hr.out HW.out HX.out⟩,ho4.out.setCell (.inr hgx.out) _⟩
      · rw [if_neg (fun h=>c2 h.2)]
        obtain ⟨x,hx⟩:∃ x,x=l.getD m 0:=⟨_,rfl⟩
        rw [← hx] at a1 c2
        have hq:fr < 0∨(¬ fr < 0∧x < to)∨(¬ fr < 0∧¬ x < to∧to≤fr):=by omega
        clear h hl hs h6 hx c1 c2 hs1 s1 hlen N2
        rcases hq with u | ⟨u,u2⟩ | ⟨u,u2,u3⟩
        all_goals
          go_enter Tryz.func159,Tryz.ntmps159
          go_wp2_with (go_at_call 54;(with_reducible refine N1.out.mono ?_);rintro e w1 ⟨rfl,ho1⟩;have b1:=ho1.cell a1 (by simp);have b2:=World.block_lt_of_cell? _ _ b1;replace ho1:=Lib.hid ho1)
          go_ret2
          exact ⟨⟨11,by decide,rfl⟩,ho1.out⟩
    · rw [if_neg (fun h=>c1 h.1)]
      have hq:side < 0∨(¬ side < 0∧(n:Int)≤side):=by omega
      clear h hl hs h6 c1 s1 hlen N2
      rcases hq with u | ⟨u,u2⟩
      all_goals
        go_enter Tryz.func159,Tryz.ntmps159
        go_wp2_with (go_at_call 54;(with_reducible refine N1.out.mono ?_);rintro e w1 ⟨rfl,ho1⟩;replace ho1:=Lib.hid ho1)
        go_ret2
        exact ⟨⟨11,by decide,rfl⟩,ho1.out⟩
  · rw [if_neg (fun h=>s1 h.1)]
    rw [show shB l=false by simpa using s1] at N1
    clear h s1
    go_enter Tryz.func159,Tryz.ntmps159
    go_wp2_with (go_at_call 54;(with_reducible refine N1.out.mono ?_);rintro e w1 ⟨rfl,ho1⟩;replace ho1:=Lib.hid ho1)
    go_ret2
    exact ⟨⟨20,by decide,rfl⟩,ho1.out⟩
set_option maxRecDepth 100000 in
set_option maxHeartbeats 4000000 in
theorem pool_any {b:Option Addr} {n c:Nat} {l:List Int} (h:RI b n c l w) (width step:Int) :
    Calls Tryz.prog 157 #[.slice b n c,.int .i64 width,.int .i64 step] w fun e w'=>ShR (poolB l width step) e w'∧Oth [] w w':=by
  have N1:=Lib.hid (shRight_any h)
  unfold poolB
  by_cases s1:shB l=true
  · rw [s1] at N1
    have hl:=shB_len s1
    have N2:Hid (∀ w',Oth [] w w'→Calls Tryz.prog 111 #[.slice b n c] w' fun e w2=>∃ g,e = .returned (.slice (some ⟨g,0,none⟩) n n)∧Oth [] w' w2∧w'.heap.size≤g∧Row 3 1 g n n (ivl l) w2):=fun w' ho=>copy_row (h.oth ho) (by have:=h.len;omega)
    have hlen:=h.len
    obtain ⟨g,off,rfl,-,-,-,h6⟩:∃ g off,b=some ⟨g,off,none⟩∧0 < n∧n=l.length∧g < w.heap.size∧∀ i,i < n→w.cell? ⟨g,off + i,none⟩=some (.int .i64 (l.getD i 0)):=by
      rcases h.cases with ⟨h,-⟩ | h
      · omega
      · exact h
    simp only [s1,if_true]
    have HW:=Lib.hid h.wf
    obtain ⟨m,hm⟩:∃ m:Nat,m=l.length - 1:=⟨_,rfl⟩
    have hmn:n=m + 1:=by omega
    have a1:=h6 m (by omega)
    rw [← hm]
    obtain ⟨x,hx⟩:∃ x,x=l.getD m 0:=⟨_,rfl⟩
    rw [← hx] at a1 ⊢
    have HM:Hid ((ivl l)[m]?=some (.int .i64 x)):=by
      refine ivl_get ?_
      rw [hx,List.getD_eq_getElem?_getD,List.getElem?_eq_getElem (by omega)];rfl
    have N3:Hid (∀ w',Oth [] w w'→Calls Tryz.prog 197 #[.int .i64 x,.int .i64 width,.int .i64 step] w' fun e w2=>IntR (windowB x width step) e∧Oth [] w' w2):=fun w' ho=>window_any x width step
    have hwb:∀ y,windowB x width step=some y→1≤y∧y≤1024:=fun y hy=>window_side hy
    have t1:¬ (n:Int) < 1:=by omega
    have e1:IntKind.i64.wrap ((n:Int) - 1)=(m:Int):=by rw [IntWalk.i64_in _ (by omega)];omega
    have t2:(m:Int) < n:=by omega
    have hm5:m < 5:=by omega
    clear h hl h6 hx s1 hlen hmn hm
    generalize windowB x width step=r at N3 hwb ⊢
    cases r with
    | none=>
      go_enter Tryz.func157,Tryz.ntmps157
      go_wp2_with (first
        | (go_at_call 54;(with_reducible refine N1.out.mono ?_);rintro e w1 ⟨rfl,ho1⟩;have b1:=ho1.cell a1 (by simp);have b2:=World.block_lt_of_cell? _ _ b1;replace ho1:=Lib.hid ho1)
        | (go_at_call 197;(with_reducible refine (N3.out _ ho1.out).mono ?_);rintro e w2 ⟨⟨k,hk,rfl⟩,ho2⟩;have ho3:=Lib.hid (ho1.out.trans ho2 (Fr.nil _ _));clear ho2))
      go_ret2
      exact ⟨⟨k,hk,rfl⟩,ho3.out⟩
    | some y=>
      have hy:=hwb y rfl
      have HX:Hid (-9223372036854775808≤y∧y≤9223372036854775807):=⟨by omega,by omega⟩
      clear hwb
      go_enter Tryz.func157,Tryz.ntmps157
      go_wp2_with (first
        | (go_at_call 54;(with_reducible refine N1.out.mono ?_);rintro e w1 ⟨rfl,ho1⟩;have b1:=ho1.cell a1 (by simp);have b2:=World.block_lt_of_cell? _ _ b1;replace ho1:=Lib.hid ho1)
        | (go_at_call 197;(with_reducible refine (N3.out _ ho1.out).mono ?_);rintro e w2 ⟨h197,ho2⟩;cases h197;have ho3:=Lib.hid (ho1.out.trans ho2 (Fr.nil _ _));clear ho2 b1 b2)
        | (go_at_call 111;(with_reducible refine (N2.out _ ho3.out).mono ?_);rintro e w3 ⟨g3,rfl,ho5,hg3,hr⟩;have ho4:=Lib.hid (ho3.out.trans ho5 (Fr.nil _ _));have hgx:=Lib.hid (Nat.le_trans ho3.out.size hg3);clear ho5 hg3;have b3:w3.cell? ⟨g3,m,none⟩=some (.int .i64 x):=hr.cell HM.out;have b4:=World.block_lt_of_cell? _ _ b3;have b5:=hr.free m;replace hr:=Lib.hid hr))
      go_ret2
      exact ⟨⟨_,_,_,rfl,ri_set hr.out HW.out HX.out⟩,ho4.out.setCell (.inr hgx.out) _⟩
  · rw [if_neg s1]
    rw [show shB l=false by simpa using s1] at N1
    clear h s1
    go_enter Tryz.func157,Tryz.ntmps157
    go_wp2_with (go_at_call 54;(with_reducible refine N1.out.mono ?_);rintro e w1 ⟨rfl,ho1⟩;replace ho1:=Lib.hid ho1)
    go_ret2
    exact ⟨⟨20,by decide,rfl⟩,ho1.out⟩
end
end Go.Proofs.YtnpdcjdmbkcpbaaGreat.Ins
