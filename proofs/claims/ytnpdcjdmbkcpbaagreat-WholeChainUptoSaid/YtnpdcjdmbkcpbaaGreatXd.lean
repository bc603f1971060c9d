/- The writer of package chain: add, compute. The walk of (*writer).part. The walk of (*writer).part at many nodes. No condition. -/
import Derived.Test.YtnpdcjdmbkcpbaaGreatXc
import Derived.Maps.AppendAt
set_option linter.unusedVariables false
set_option linter.unusedSimpArgs false
namespace Go.Proofs.YtnpdcjdmbkcpbaaGreat.Ins
open Go.RowKit
def Bls (g:Nat) (f:Nat→Bool) (n c:Nat) (w:World):Prop:=Row 4 1 g n c ((List.range n).map fun i=>.bool (f i)) w
theorem Bls.oth {g n c:Nat} {f:Nat→Bool} {w w':World} {S:List Nat} (h:Bls g f n c w) (ho:Oth S w w') (hg:g∉S):Bls g f n c w':=Row.oth h ho hg
theorem Bls.at_ {g n c:Nat} {f:Nat→Bool} {w:World} (h:Bls g f n c w) {i:Nat} (hi:i < n):w.cell? ⟨g,i,none⟩=some (.bool (f i)):=Row.cell h (by simp [hi])
theorem Bls.free {g n c:Nat} {f:Nat→Bool} {w:World} (h:Bls g f n c w) (i:Nat):w.frozen? ⟨g,i,none⟩=false:=Row.free h i
theorem Bls.lt {g n c:Nat} {f:Nat→Bool} {w:World} (h:Bls g f n c w):g < w.heap.size:=Row.lt h
theorem Bls.ext {g n c:Nat} {f f':Nat→Bool} {w:World} (h:Bls g f n c w) (hf:∀ i,i < n→f i=f' i):Bls g f' n c w:=by
  unfold Bls at h ⊢
  have:((List.range n).map fun i=>Value.bool (f' i))=(List.range n).map fun i=>.bool (f i):=by
    apply List.map_congr_left
    intro i hi
    rw [hf i (by simpa using hi)]
  rw [this];exact h
theorem Bls.set {g n c:Nat} {f:Nat→Bool} {w:World} (h:Bls g f n c w) (i:Nat) (b:Bool):Bls g (on f i b) n c (w.setCell ⟨g,i,none⟩ (.bool b)):=by
  have h2:=Row.set h i (.bool b)
  unfold Bls
  have e:((List.range n).map fun i=>Value.bool (f i)).set i (.bool b)=(List.range n).map fun j=>.bool (on f i b j):=by
    apply List.ext_getElem
    · simp
    · intro k h1 h2
      simp only [List.getElem_set,List.getElem_map,List.getElem_range,on]
      by_cases e:i=k
      · subst e;simp
      · rw [if_neg e,if_neg (fun x=>e x.symm)]
  rw [← e];exact h2
def cds:List (Nat × Nat)→List Value
  | []=>[]
  | (k,i) :: l=>.int .i64 (k:Int) :: .int .i64 (i:Int) :: cds l
theorem cds_append (a b:List (Nat × Nat)):cds (a ++ b)=cds a ++ cds b:=by
  induction a with
  | nil=>rfl
  | cons x a ih=>obtain ⟨k,i⟩:=x;simp [cds,ih]
theorem Slv.more {C:Par} {K S:List Nat} {w w':World} (h:Slv C K w) (ho:Oth S w w') (hs:∀ k,k∈S→k∈K∧k≠C.p∧k≠C.g1∧k≠C.g2∧k≠C.mb) (g:Nat) (hg:w.heap.size≤g) (hg2:g < w'.heap.size):Slv C (g :: K) w':=by
  have h2:=h.oth ho hs
  obtain ⟨b1,b2,b3,b4,b5,b6,b7⟩:=h.base
  obtain ⟨es,clock,hm,hf,he⟩:=h.memo
  refine ⟨h2.sol,h2.ws,h2.cs,⟨es,clock,ho.heap hm (fun e=>(hs _ e).2.2.2.2 rfl),hf,?_⟩,⟨.tail _ b1,.tail _ b2,.tail _ b3,.tail _ b4,b5,b6,b7⟩,?_⟩
  · intro e hm
    obtain ⟨l,r,g',c,k1,k2,k3,k4,k5,k6,k7⟩:=he e hm
    exact ⟨l,r,g',c,k1,k2,k3,k4,k5.oth ho (fun e=>k7 (hs _ e).1),Nat.lt_of_lt_of_le k6 ho.size,fun e=>by
      rcases List.mem_cons.1 e with rfl | e
      · omega
      · exact k7 e⟩
  · intro k hk
    rcases List.mem_cons.1 hk with rfl | hk
    · exact hg2
    · exact h2.old k hk
structure Kp (N:Nat→Prop) (w w':World):Prop where
  os:w'.os=w.os
  tape:w'.tape=w.tape
  output:w'.output=w.output
  size:w.heap.size≤w'.heap.size
  block:∀ k,N k→w'.heap[k]?=w.heap[k]?
theorem Kp.refl (N:Nat→Prop) (w:World):Kp N w w:=⟨rfl,rfl,rfl,Nat.le_refl _,fun _ _=>rfl⟩
theorem Kp.trans {N:Nat→Prop} {a b c:World} (h:Kp N a b) (k:Kp N b c):Kp N a c:=⟨k.os.trans h.os,k.tape.trans h.tape,k.output.trans h.output,Nat.le_trans h.size k.size,fun i hi=>(k.block i hi).trans (h.block i hi)⟩
theorem Kp.less {N N':Nat→Prop} {a b:World} (h:Kp N a b) (hn:∀ k,N' k→N k):Kp N' a b:=⟨h.os,h.tape,h.output,h.size,fun k hk=>h.block k (hn k hk)⟩
theorem kp_oth {N:Nat→Prop} {S:List Nat} {w w':World} (h:Oth S w w') (hN:∀ k,N k→k < w.heap.size) (hS:∀ k,k∈S→¬ N k):Kp N w w':=⟨h.os,h.tape,h.output,h.size,fun k hk=>h.block k (hN k hk) (fun e=>hS k e hk)⟩
theorem Kp.cell {N:Nat→Prop} {w w':World} (h:Kp N w w') {p:Addr} {v:Value} (hp:w.cell? p=some v) (hn:N p.block):w'.cell? p=some v:=by
  rw [World.cell?_of_block (w:=w) (h.block p.block hn)];exact hp
structure Wrt (C:Par) (q gs cg:Nat) (N:Nat→Prop) (s:Nat) (code:List (Nat × Nat)) (w:World):Prop where
  v : ∃ v K,w.heap[q]?=some (.cells #[.pointer (some ⟨C.p,0,none⟩),.slice (some ⟨gs,0,none⟩) (C.cs.length + 1) cg,v] 106 (0,0))∧w.ownsRow 0 63 2 v code.length (cds code)∧Slv C K w ∧
    (∀ g,v.ownBlock=some g→g∈K∧g≠C.p∧g≠C.g1∧g≠C.g2∧g≠C.mb∧g≠q∧g≠gs∧¬ N g)∧q∈K∧gs∈K
  sv:Bls gs (fun i=>decide (1≤i∧i≤s)) (C.cs.length + 1) cg w
  nq:q≠C.p∧q≠C.g1∧q≠C.g2∧q≠C.mb∧q≠gs
  ns:gs≠C.p∧gs≠C.g1∧gs≠C.g2∧gs≠C.mb
  lo:¬ N q∧¬ N gs∧¬ N C.mb
  hb:∀ k,N k→k < w.heap.size
theorem Row.own {e:TypeId} {z n B:Nat} {v:Value} {xs:List Value} {w w':World} {S:List Nat} (h:w.ownsRow B e z v n xs) (ho:Oth S w w') (hg:∀ g,v.ownBlock=some g→g∉S):w'.ownsRow B e z v n xs:=by
  refine ⟨h.1,?_⟩
  rcases h.2 with hn | ⟨g,cap,cur,rfl,hb,hgg,rest⟩
  · exact .inl hn
  · exact .inr ⟨g,cap,cur,rfl,hb,ho.heap hgg (hg g rfl),rest⟩
section
variable {C:Par} {q gs cg s:Nat} {N:Nat→Prop} {code:List (Nat × Nat)} {w:World}
theorem Wrt.solve {w':World} (h:Wrt C q gs cg N s code w) (ho:Oth [C.mb] w w') (hs:∀ K,Slv C K w→(Slv C K w')):Wrt C q gs cg N s code w':=by
  obtain ⟨v,K,h1,h2,h3,h4,h5,h6⟩:=h.v
  refine ⟨⟨v,K,ho.heap h1 (by simpa using h.nq.2.2.2.1),Row.own h2 ho (fun g hg=>by simpa using (h4 g hg).2.2.2.2.1),hs K h3,h4,h5,h6⟩,h.sv.oth ho (by simpa using h.ns.2.2.2),h.nq,h.ns,h.lo,fun k hk=>Nat.lt_of_lt_of_le (h.hb k hk) ho.size⟩
theorem Wrt.call {w':World} (h:Wrt C q gs cg N s code w) (ho:Oth [] w w'):Wrt C q gs cg N s code w':=
  h.solve (ho.mono (by simp)) (fun K hk=>hk.oth ho (by simp))
theorem Wrt.save {id:Nat} (h:Wrt C q gs cg N s code w) (h1:1≤id) (h2:id≤s + 1):Wrt C q gs cg N (max s id) code (w.setCell ⟨gs,id,none⟩ (.bool true)):=by
  have ho:Oth [gs] w (w.setCell ⟨gs,id,none⟩ (.bool true)):=(Oth.refl _ _).setCell (.inl (by simp)) _
  obtain ⟨v,K,k1,k2,k3,k4,k5,k6⟩:=h.v
  obtain ⟨n1,n2,n3,n4,n5⟩:=h.nq
  obtain ⟨m1,m2,m3,m4⟩:=h.ns
  refine ⟨⟨v,K,ho.heap k1 (by simpa using n5),Row.own k2 ho (fun g hg=>by simpa using (k4 g hg).2.2.2.2.2.2.1),k3.oth ho (by simp;exact ⟨k6,m1,m2,m3,m4⟩),k4,k5,k6⟩,?_,h.nq,h.ns,h.lo,fun k hk=>by have:=h.hb k hk;simpa using this⟩
  refine (h.sv.set id true).ext fun i hi=>?_
  unfold on;split
  · rename_i e;subst e;exact (decide_eq_true (by omega)).symm
  · rename_i e;apply decide_eq_decide.2;omega
theorem info63:(Tryz.prog.info? 63).map (fun i=>(i.zero,i.size,i.bytes))=some (some (.agg #[.int .i64 0,.int .i64 0]),2,16):=by kernel_rfl
theorem info_parts' {P:Program} {t:TypeId} {z:Value} {s b:Nat} (h:(P.info? t).map (fun i=>(i.zero,i.size,i.bytes))=some (some z,s,b)):∃ i,P.info? t=some i∧i.zero=some z∧i.size=s∧i.bytes=b:=by
  cases hq:P.info? t with
  | none=>rw [hq] at h;cases h
  | some i=>rw [hq] at h;simp at h;exact ⟨i,rfl,h.1,h.2.1,h.2.2⟩
theorem two_new (w:World) (a b:Value) (t:TypeId):∀ j u,[a,b][j]?=some u→(w.alloc (.cells #[a,b] t)).cell? ((⟨w.heap.size,0,none⟩:Addr).add j)=some u:=by
  intro j u hj
  have h:=heap_alloc_new w (.cells #[a,b] t)
  match j,hj with
  | 0,hj=>rw [Addr.add_lit,World.cell?,h];exact hj
  | 1,hj=>rw [Addr.add_lit,World.cell?,h];exact hj
theorem Wrt.added {v v':Value} {K:List Nat} {w1:World} {o:Obj} {k id:Nat} (h:Wrt C q gs cg N s code w)
    (h1:w.heap[q]?=some (.cells #[.pointer (some ⟨C.p,0,none⟩),.slice (some ⟨gs,0,none⟩) (C.cs.length + 1) cg,v] 106 (0,0))) (h3:Slv C K w)
    (h4:∀ g,v.ownBlock=some g→g∈K∧g≠C.p∧g≠C.g1∧g≠C.g2∧g≠C.mb∧g≠q∧g≠gs∧¬ N g) (h5:q∈K) (h6:gs∈K)
    (hown:w1.ownsRow 0 63 2 v' (code.length + 1) (cds code ++ [.int .i64 (k:Int),.int .i64 (id:Int)])) (hg:(w.alloc o).grownBy w1 v.ownBlock) (hat:v'.ownBlock=v.ownBlock∨v'.ownBlock=some (w.alloc o).heap.size) :
    Wrt C q gs cg N s (code ++ [(k,id)]) (w1.setCell ⟨q,2,none⟩ v')∧Kp N w (w1.setCell ⟨q,2,none⟩ v'):=by
  have ho:Oth v.ownBlock.toList w w1:=((Oth.refl _ _).alloc o).grown hg (fun k hk=>.inl (by simp [hk]))
  have hsub:∀ k,k∈v.ownBlock.toList→k∈K∧k≠C.p∧k≠C.g1∧k≠C.g2∧k≠C.mb:=fun k hk=>by
    have:=h4 k (by simpa using hk)
    exact ⟨this.1,this.2.1,this.2.2.1,this.2.2.2.1,this.2.2.2.2.1⟩
  have hq:q∉v.ownBlock.toList:=fun e=>(h4 q (by simpa using e)).2.2.2.2.2.1 rfl
  have hgs:gs∉v.ownBlock.toList:=fun e=>(h4 gs (by simpa using e)).2.2.2.2.2.2.1 rfl
  have o2:Oth [q] w1 (w1.setCell ⟨q,2,none⟩ v'):=(Oth.refl _ _).setCell (.inl (by simp)) _
  obtain ⟨n1,n2,n3,n4,n5⟩:=h.nq
  have b1:=ho.heap h1 hq
  have hsz:=hg.size
  simp at hsz
  have hlt:=hown.lt
  have hK:∃ K',Slv C K' w1∧(∀ g,v'.ownBlock=some g→g∈K'∧g≠C.p∧g≠C.g1∧g≠C.g2∧g≠C.mb∧g≠q∧g≠gs∧¬ N g)∧q∈K'∧gs∈K':=by
    rcases hat with e | e
    · exact ⟨K,h3.oth ho hsub,by rw [e];exact h4,h5,h6⟩
    · have hl:=(hlt _ e).2
      simp at e
      refine ⟨(w.heap.size + 1) :: K,h3.more ho hsub _ (by omega) (by simpa using hl),fun g hg=>?_,.tail _ h5,.tail _ h6⟩
      rw [e] at hg
      simp at hg
      subst hg
      have hold:=h3.old
      have e1:=hold _ h3.base.1
      have e2:=hold _ h3.base.2.1
      have e3:=hold _ h3.base.2.2.1
      have e4:=hold _ h3.base.2.2.2.1
      have e5:=hold _ h5
      have e6:=hold _ h6
      exact ⟨.head _,by omega,by omega,by omega,by omega,by omega,by omega,fun e=>by have:=h.hb _ e;omega⟩
  obtain ⟨K',k1,k2,k3,k4⟩:=hK
  constructor
  · refine ⟨⟨v',K',?_,?_,k1.oth o2 (by simp;exact ⟨k3,n1,n2,n3,n4⟩),k2,k3,k4⟩,(h.sv.oth ho hgs).oth o2 (by simpa using n5.symm),h.nq,h.ns,h.lo,fun k hk=>by have:=h.hb k hk;simp;omega⟩
    · simp [World.setCell,Array.getElem?_modify,b1]
    · rw [cds_append]
      rw [List.length_append]
      exact Row.own hown o2 (fun g hg=>by simpa using (k2 g hg).2.2.2.2.2.1)
  · exact (kp_oth ho h.hb (fun k hk=>(h4 k (by simpa using hk)).2.2.2.2.2.2.2)).trans (kp_oth o2 (fun k hk=>by have:=h.hb k hk;omega) (by simpa using h.lo.1))
set_option maxRecDepth 100000 in
set_option maxHeartbeats 4000000 in
theorem add_any {k id:Nat} (h:Wrt C q gs cg N s code w) (hn:code.length≤1000000) :
    Calls Tryz.prog 81 #[.pointer (some ⟨q,0,none⟩),.int .i64 k,.int .i64 id] w fun e w'=>e = .returned (.tuple #[])∧Wrt C q gs cg N s (code ++ [(k,id)]) w'∧Kp N w w':=by
  obtain ⟨v,K,h1,h2,h3,h4,h5,h6⟩:=h.v
  obtain ⟨i0,hi,hz0,hz1,hz2⟩:=info_parts' info63
  have hlt:=lt_of_block h1
  have c2:w.cell? ⟨q,2,none⟩=some v:=by simp [World.cell?,h1]
  have f2:w.frozen? ⟨q,2,none⟩=false:=by simp [World.frozen?,h1]
  have H:=Lib.hid h
  have H1:=Lib.hid h1
  have H2:=Lib.hid h2
  have H3:=Lib.hid (And.intro h3 (And.intro h4 (And.intro h5 h6)))
  clear h h1 h2 h3 h4 h5 h6
  go_enter Tryz.func81,Tryz.ntmps81
  go_wp2_with (at_builtin;refine wpList_append_own_at _ rfl _ _ 35 rfl 0 63 i0 _ 2 16 Tryz.underlying35 hi hz0 hz1 hz2 rfl (by decide) v _ _ rfl (H2.out.alloc _) ⟨w.heap.size,0,none⟩ 1 1 [.int .i64 k,.int .i64 id] rfl rfl ?c1 ?c2 ?c3 ?c4 ?c5 ?_)
  case c1=>exact two_new _ _ _ _
  case c2=>intro u hu;simp at hu;rcases hu with rfl | rfl <;> rfl
  case c3=>unfold maxLen;omega
  case c4=>omega
  case c5=>omega
  intro v' w1 hown1 hgrow1 hx1 hx2
  have hq1:w1.heap[q]?=some (.cells #[.pointer (some ⟨C.p,0,none⟩),.slice (some ⟨gs,0,none⟩) (C.cs.length + 1) cg,v] 106 (0,0)):=by
    rw [hgrow1.block q (by simp;omega) (fun e=>(H3.out.2.1 q e.symm).2.2.2.2.2.1 rfl),Below.heap_alloc _ _ _ hlt];exact H1.out
  have d2:w1.cell? ⟨q,2,none⟩=some v:=by simp [World.cell?,hq1]
  have d3:w1.frozen? ⟨q,2,none⟩=false:=by simp [World.frozen?,hq1]
  have HF:=Lib.hid (H.out.added H1.out H3.out.1 H3.out.2.1 H3.out.2.2.1 H3.out.2.2.2 hown1 hgrow1 (by simpa using hx2))
  obtain ⟨g',cap',rfl,_,_⟩:=row_of_owns hown1 (by omega)
  clear hown1 hgrow1 hx1 hx2 hq1 c2 f2
  go_wp2_with fail
  go_end0
  exact ⟨rfl,HF.out⟩
theorem add_at {k id:Nat} {x y:Int} (h:Wrt C q gs cg N s code w) (hn:code.length≤1000000) (hx:x=k) (hy:y=id) :
    Calls Tryz.prog 81 #[.pointer (some ⟨q,0,none⟩),.int .i64 x,.int .i64 y] w fun e w'=>e = .returned (.tuple #[])∧Wrt C q gs cg N s (code ++ [(k,id)]) w'∧Kp N w w':=by
  subst hx hy;exact add_any h hn
set_option maxRecDepth 100000 in
set_option maxHeartbeats 4000000 in
theorem compute_any {id:Nat} (h:Wrt C q gs cg N s code w) (hn:code.length≤1000000) (h1:1≤id) (h2:id≤C.cs.length) (h3:id≤s + 1) :
    Calls Tryz.prog 80 #[.pointer (some ⟨q,0,none⟩),.int .i64 id] w fun e w'=>e = .returned (.tuple #[])∧Wrt C q gs cg N (max s id) (code ++ [cmp s id]) w'∧Kp N w w':=by
  obtain ⟨v,K,k1,_⟩:=h.v
  have hlt:=lt_of_block k1
  have c1:w.cell? ⟨q,1,none⟩=some (.slice (some ⟨gs,0,none⟩) (C.cs.length + 1) cg):=by simp [World.cell?,k1]
  have t1:(id:Int) < (C.cs.length:Int) + 1:=by omega
  have c2:=h.sv.at_ (i:=id) (by omega)
  have f2:=h.sv.free id
  have H:=Lib.hid h
  clear h k1
  by_cases hs:id≤s
  · rw [decide_eq_true (by omega)] at c2
    rw [show max s id=s by omega,cmp,if_pos hs]
    go_enter Tryz.func80,Tryz.ntmps80
    go_wp2_with ((with_reducible refine (add_at (k:=2) (id:=id) H.out hn (by omega) (by omega)).mono ?_);rintro e w' ⟨rfl,k1,k2⟩)
    exact bodyPost_ret (results_none rfl _ _ _) rfl ⟨rfl,k1,k2⟩
  · rw [decide_eq_false (by omega)] at c2
    rw [cmp,if_neg hs]
    have hw:=H.out.save h1 h3
    have hb:=H.out.hb
    have HB:Hid (Kp N w (w.setCell ⟨gs,id,none⟩ (.bool true))):=kp_oth ((Oth.refl [gs] w).setCell (.inl (by simp)) _) hb (by simpa using H.out.lo.2.1)
    have HW:=Lib.hid hw
    clear hw
    go_enter Tryz.func80,Tryz.ntmps80
    go_wp2_with ((with_reducible refine (add_at (k:=1) (id:=id) HW.out hn (by omega) (by omega)).mono ?_);rintro e w' ⟨rfl,k1,k2⟩)
    go_end0
    exact ⟨rfl,k1,HB.out.trans k2⟩
end
end Go.Proofs.YtnpdcjdmbkcpbaaGreat.Ins
namespace Go.Proofs.YtnpdcjdmbkcpbaaGreat.Ins
open Go.RowKit
section
variable {C:Par} {q gs cg s:Nat} {N:Nat→Prop} {code:List (Nat × Nat)} {w wr wr':World} {l r:Nat}
theorem Wrt.less {N':Nat→Prop} (h:Wrt C q gs cg N s code w) (hn:∀ k,N' k→N k):Wrt C q gs cg N' s code w:=by
  obtain ⟨v,K,k1,k2,k3,k4,k5,k6⟩:=h.v
  exact ⟨⟨v,K,k1,k2,k3,fun g hg=>⟨(k4 g hg).1,(k4 g hg).2.1,(k4 g hg).2.2.1,(k4 g hg).2.2.2.1,(k4 g hg).2.2.2.2.1,(k4 g hg).2.2.2.2.2.1,(k4 g hg).2.2.2.2.2.2.1,fun e=>(k4 g hg).2.2.2.2.2.2.2 (hn _ e)⟩,k5,k6⟩,
    h.sv,h.nq,h.ns,⟨fun e=>h.lo.1 (hn _ e),fun e=>h.lo.2.1 (hn _ e),fun e=>h.lo.2.2 (hn _ e)⟩,fun k hk=>h.hb k (hn k hk)⟩
theorem Wrt.boxed (h:Wrt C q gs cg N s code w) (o:Obj):Wrt C q gs cg (fun k=>N k∨k=w.heap.size) s code (w.alloc o):=by
  have h2:=h.call ((Oth.refl [] w).alloc o)
  obtain ⟨v,K,k1,k2,k3,k4,k5,k6⟩:=h.v
  have hold:=k3.old
  have e1:=hold _ k5
  have e2:=hold _ k6
  have e3:=hold _ k3.base.2.2.2.1
  have ho:Oth [] w (w.alloc o):=(Oth.refl _ _).alloc o
  refine ⟨⟨v,K,ho.heap k1 (by simp),Row.own k2 ho (by simp),k3.oth ho (by simp),fun g hg=>?_,k5,k6⟩,h2.sv,h.nq,h.ns,⟨?_,?_,?_⟩,fun k hk=>?_⟩
  · obtain ⟨a1,a2,a3,a4,a5,a6,a7,a8⟩:=k4 g hg
    have:=hold _ a1
    exact ⟨a1,a2,a3,a4,a5,a6,a7,fun e=>by rcases e with e | e;exact a8 e;omega⟩
  · intro e;rcases e with e | e;exact h.lo.1 e;omega
  · intro e;rcases e with e | e;exact h.lo.2.1 e;omega
  · intro e;rcases e with e | e;exact h.lo.2.2 e;omega
  · rcases hk with hk | hk
    · have:=h.hb k hk;simp;omega
    · simp;omega
theorem compute_at {id:Nat} {x:Int} (h:Wrt C q gs cg N s code w) (hn:code.length≤1000000) (h1:1≤id) (h2:id≤C.cs.length) (h3:id≤s + 1) (hx:x=id) :
    Calls Tryz.prog 80 #[.pointer (some ⟨q,0,none⟩),.int .i64 x] w fun e w'=>e = .returned (.tuple #[])∧Wrt C q gs cg N (max s id) (code ++ [cmp s id]) w'∧Kp N w w':=by
  subst hx;exact compute_any h hn h1 h2 h3
structure PR (C:Par) (q gs cg:Nat) (N:Nat→Prop) (w:World) (l r s:Nat) (code:List (Nat × Nat)) (wr:World):Prop where
  wt:Wrt C q gs cg (fun k=>N k∨k=w.heap.size) s code wr
  kp:Kp N w wr
  b0:wr.cell? ⟨w.heap.size,0,none⟩=some (.int .i64 l)
  b1:wr.cell? ⟨w.heap.size,1,none⟩=some (.int .i64 r)
theorem pr_init (h:Wrt C q gs cg N s code w):PR C q gs cg N w l r s code (w.alloc (.cells #[.int .i64 l,.int .i64 r] 103)):=by
  obtain ⟨k1,k2⟩:=box1_keep (w:=w) (a:=.int .i64 l) (b:=.int .i64 r) (t1:=103) (S:=[]) (by simp) (Oth.refl _ _)
  exact ⟨h.boxed _,kp_oth ((Oth.refl [] w).alloc _) h.hb (by simp),k1,k2⟩
theorem PR.step {s':Nat} {code':List (Nat × Nat)} (h:PR C q gs cg N w l r s code wr) (h1:Wrt C q gs cg (fun k=>N k∨k=w.heap.size) s' code' wr') (h2:Kp (fun k=>N k∨k=w.heap.size) wr wr'):PR C q gs cg N w l r s' code' wr':=
  ⟨h1,h.kp.trans (h2.less fun k hk=>.inl hk),h2.cell h.b0 (.inr rfl),h2.cell h.b1 (.inr rfl)⟩
theorem PR.call (h:PR C q gs cg N w l r s code wr) (ho:Oth [] wr wr'):PR C q gs cg N w l r s code wr':=
  h.step (h.wt.call ho) (kp_oth ho h.wt.hb (by simp))
theorem PR.S (h:PR C q gs cg N w l r s code wr):wr.cell? ⟨q,0,none⟩=some (.pointer (some ⟨C.p,0,none⟩))∧wr.cell? ⟨C.p,2,none⟩=some (.int .i64 C.cs.length)∧wr.cell? ⟨C.p,0,none⟩=some (.slice (some ⟨C.g1,0,none⟩) C.ws.length C.c1)∧q < wr.heap.size∧C.p < wr.heap.size:=by
  obtain ⟨v,K,k1,k2,k3,_⟩:=h.wt.v
  exact ⟨by simp [World.cell?,k1],k3.sol.at_.2.2.1,k3.sol.at_.1,lt_of_block k1,lt_of_block k3.sol⟩
def PartPost (C:Par) (q gs cg:Nat) (N:Nat→Prop) (l r m s:Nat) (code:List (Nat × Nat)) (w:World) (e:Ending) (w':World):Prop:=
  ∃ s' c2,e = .returned (.tuple #[])∧Wr C l r m s s' c2∧c2.length≤8 * ((r - l) * (r - l))∧Wrt C q gs cg N s' (code ++ c2) w'∧Kp N w w'
theorem PR.post {m s0 s':Nat} {code0 c2:List (Nat × Nat)} (h:PR C q gs cg N w l r s' code wr) (hc:code=code0 ++ c2) (h1:Wr C l r m s0 s' c2) (h2:c2.length≤8 * ((r - l) * (r - l))):PartPost C q gs cg N l r m s0 code0 w (.returned (.tuple #[])) wr:=
  ⟨s',c2,rfl,h1,h2,by rw [← hc];exact h.wt.less fun k hk=>.inl hk,h.kp⟩
set_option maxRecDepth 100000 in
set_option maxHeartbeats 8000000 in
theorem part_one {m:Nat} (hG:Good C) (h:Wrt C q gs cg N s code w) (hr:l + 1≤C.cs.length) (hls:l≤s) (hc:code.length≤900000) :
    Calls Tryz.prog 32 #[.pointer (some ⟨q,0,none⟩),.agg #[.int .i64 l,.int .i64 ((l:Int) + 1)],.int .i64 m] w (PartPost C q gs cg N l (l + 1) m s code w):=by
  have hcl:=hG.n2.2
  have hp:PR C q gs cg N w l (l + 1) s code (w.alloc (.cells #[.int .i64 l,.int .i64 ((l:Int) + 1)] 103)):=pr_init h
  have b0:(w.alloc (.cells #[.int .i64 l,.int .i64 ((l:Int) + 1)] 103)).cell? ⟨w.heap.size,0,none⟩=some (.int .i64 l):=hp.b0
  have b1:(w.alloc (.cells #[.int .i64 l,.int .i64 ((l:Int) + 1)] 103)).cell? ⟨w.heap.size,1,none⟩=some (.int .i64 ((l:Int) + 1)):=hp.b1
  have e1:IntKind.i64.wrap ((l:Int) + 1)=(l:Int) + 1:=IntWalk.i64_in _ (by omega)
  obtain ⟨s0,s1,_,s3,s4⟩:=hp.S
  have HP:=Lib.hid hp
  clear hp h hG
  have hlen:(leaf C.cs.length (l + 1) s).length≤8 * ((l + 1 - l) * (l + 1 - l)):=by
    unfold leaf;split <;> simp <;> omega
  have HLEN:=Lib.hid hlen
  clear hlen
  by_cases hn:l + 1=C.cs.length
  · have t1:((l:Int) + 1 == (C.cs.length:Int))=true:=by simp;omega
    have hpost:∀ w',PR C q gs cg N w l (l + 1) (max s (l + 1)) (code ++ [cmp s (l + 1)] ++ [(4,0)] ++ [(3,l + 1)] ++ [(5,0)] ++ [(6,l + 1)]) w'→PartPost C q gs cg N l (l + 1) m s code w (.returned (.tuple #[])) w':=by
      intro w' hp
      have hw:Wr C l (l + 1) m s (if l + 1=C.cs.length then max s (l + 1) else s) (leaf C.cs.length (l + 1) s):=.leaf
      rw [if_pos hn] at hw
      exact hp.post (by simp [leaf,hn]) hw HLEN.out
    have HPOST:=Lib.hid hpost
    have HC:∀ c:List (Nat × Nat),c.length≤10→(code ++ c).length≤1000000:=fun c h=>by rw [List.length_append];omega
    have HCC:=Lib.hid HC
    have HN:=Lib.hid hn
    clear hpost HC hn
    go_enter Tryz.func32,Tryz.ntmps32
    go_wp2_with fail
    go_quiet (fail)
    have HP0:=Lib.hid (HP.out.call ((Oth.refl [] _).drewN nq))
    have c1:=HP0.out.b1
    clear b1
    have b1:=c1
    clear c1
    go_wp2_with fail
    refine (compute_at (id:=l + 1) HP0.out.wt (by omega) (by omega) hr (by omega) (by omega)).mono ?_
    rintro e w1 ⟨rfl,k1,k2⟩
    have HP1:=Lib.hid (HP0.out.step k1 k2)
    have c1:=HP1.out.b1
    clear k1 k2 b1
    have b1:=c1
    clear c1
    go_wp2_with fail
    refine (add_at (k:=4) (id:=0) HP1.out.wt (by have:=HCC.out [cmp s (l + 1)] (by simp);omega) (by omega) (by omega)).mono ?_
    rintro e w2 ⟨rfl,k1,k2⟩
    have HP2:=Lib.hid (HP1.out.step k1 k2)
    have c1:=HP2.out.b1
    clear k1 k2 b1
    have b1:=c1
    clear c1
    go_wp2_with fail
    refine (add_at (k:=3) (id:=l + 1) HP2.out.wt (by simp;omega) (by omega) (by omega)).mono ?_
    rintro e w3 ⟨rfl,k1,k2⟩
    have HP3:=Lib.hid (HP2.out.step k1 k2)
    have c1:=HP3.out.b1
    clear k1 k2 b1
    have b1:=c1
    clear c1
    go_wp2_with fail
    refine (add_at (k:=5) (id:=0) HP3.out.wt (by simp;omega) (by omega) (by omega)).mono ?_
    rintro e w4 ⟨rfl,k1,k2⟩
    have HP4:=Lib.hid (HP3.out.step k1 k2)
    have c1:=HP4.out.b1
    clear k1 k2 b1
    have b1:=c1
    clear c1
    go_wp2_with fail
    refine (add_at (k:=6) (id:=l + 1) HP4.out.wt (by simp;omega) (by omega) (by omega)).mono ?_
    rintro e w5 ⟨rfl,k1,k2⟩
    have HP5:=Lib.hid (HP4.out.step k1 k2)
    have c1:=HP5.out.b1
    clear k1 k2 b1
    have b1:=c1
    clear c1
    go_wp2_with fail
    exact bodyPost_ret (results_none rfl _ _ _) rfl (HPOST.out _ HP5.out)
  · have t1:((l:Int) + 1 == (C.cs.length:Int))=false:=by simp;omega
    have hpost:∀ w',PR C q gs cg N w l (l + 1) s (code ++ [(6,l + 1)]) w'→PartPost C q gs cg N l (l + 1) m s code w (.returned (.tuple #[])) w':=by
      intro w' hp
      have hw:Wr C l (l + 1) m s (if l + 1=C.cs.length then max s (l + 1) else s) (leaf C.cs.length (l + 1) s):=.leaf
      rw [if_neg hn] at hw
      exact hp.post (by simp [leaf,hn]) hw HLEN.out
    have HPOST:=Lib.hid hpost
    have HN:=Lib.hid hn
    clear hpost hn
    go_enter Tryz.func32,Tryz.ntmps32
    go_wp2_with fail
    go_quiet (fail)
    have HP4:=Lib.hid (HP.out.call ((Oth.refl [] _).drewN nq))
    have c1:=HP4.out.b1
    clear b1
    have b1:=c1
    clear c1
    go_wp2_with fail
    refine (add_at (k:=6) (id:=l + 1) HP4.out.wt (by omega) (by omega) (by omega)).mono ?_
    rintro e w5 ⟨rfl,k1,k2⟩
    have HP5:=Lib.hid (HP4.out.step k1 k2)
    have c1:=HP5.out.b1
    clear k1 k2 b1
    have b1:=c1
    clear c1
    go_wp2_with fail
    exact bodyPost_ret (results_none rfl _ _ _) rfl (HPOST.out _ HP5.out)
end
end Go.Proofs.YtnpdcjdmbkcpbaaGreat.Ins
namespace Go.Proofs.YtnpdcjdmbkcpbaaGreat.Ins
open Go.RowKit
theorem fwd_length (l s:Nat):∀ j,(fwd l s j).length≤2 * j
  | 0=>by simp [fwd]
  | j + 1=>by
    have:=fwd_length l s j
    rw [fwd,List.length_append,List.length_cons]
    split <;> simp <;> omega
theorem sq_room (x y:Nat) (hx:1≤x) (hy:1≤y):2 * x + 8 * (y * y) + 1 + 8 * (x * x)≤8 * ((x + y) * (x + y)):=by
  have h1:(x + y) * (x + y)=x * x + x * y + (x * y + y * y):=by rw [Nat.add_mul,Nat.mul_add,Nat.mul_add,Nat.mul_comm y x]
  have h2:x * 1≤x * y:=Nat.mul_le_mul_left x hy
  omega
section
variable {C:Par} {q gs cg s:Nat} {N:Nat→Prop} {code:List (Nat × Nat)} {w wr wr':World} {l r:Nat}
def BestW (C:Par) (q gs cg:Nat) (N:Nat→Prop) (s:Nat) (code:List (Nat × Nat)) (l r m:Nat) (w:World) (e:Ending) (w':World):Prop:=
  ∃ i k,Hid (k=l + 1 + i)∧k < r∧Att C l r m i∧e = .returned (.int .i64 (k:Int))∧Wrt C q gs cg N s code w'∧Kp N w w'
theorem best_wrt {m:Nat} (hG:Good C) (hR:Rec C) (h:Wrt C q gs cg N s code w) (hl:l + 1 < r) (hr:r≤C.cs.length) (hm:m < C.cap + 1 - kp C.ws l) (hv:vl C l r m < nn) :
    Calls Tryz.prog 82 #[.pointer (some ⟨C.p,0,none⟩),.agg #[.int .i64 l,.int .i64 r],.int .i64 m] w (BestW C q gs cg N s code l r m w):=by
  obtain ⟨v,K,h1,h2,h3,h4,h5,h6⟩:=h.v
  refine (best_any hG hR h3 hl hr hm hv).mono ?_
  rintro e w' ⟨i,k1,k2,rfl,k3,k4⟩
  refine ⟨i,_,Lib.hid rfl,k1,k2,rfl,⟨⟨v,K,k4.heap h1 (by simpa using h.nq.2.2.2.1),Row.own h2 k4 (fun g hg=>by simpa using (h4 g hg).2.2.2.2.1),k3,h4,h5,h6⟩,h.sv.oth k4 (by simpa using h.ns.2.2.2),h.nq,h.ns,h.lo,fun k hk=>Nat.lt_of_lt_of_le (h.hb k hk) k4.size⟩,kp_oth k4 h.hb (by simpa using h.lo.2.2)⟩
theorem PR.S2 (h:PR C q gs cg N w l r s code wr):PR C q gs cg N w l r s code wr∧wr.cell? ⟨q,0,none⟩=some (.pointer (some ⟨C.p,0,none⟩))∧wr.cell? ⟨C.p,0,none⟩=some (.slice (some ⟨C.g1,0,none⟩) C.ws.length C.c1)∧wr.cell? ⟨w.heap.size,0,none⟩=some (.int .i64 l)∧wr.cell? ⟨w.heap.size,1,none⟩=some (.int .i64 r):=
  ⟨h,h.S.1,h.S.2.2.1,h.b0,h.b1⟩
theorem PR.wk (h:PR C q gs cg N w l r s code wr) {k:Nat} (hk:k < C.ws.length):wr.cell? ⟨C.g1,k,none⟩=some (.int .i64 (C.ws.getD k 0:Nat)):=by
  obtain ⟨v,K,k1,k2,k3,_⟩:=h.wt.v
  exact k3.ws.at_ hk
theorem PR.S3 (h:PR C q gs cg N w l r s code wr) {k wk:Nat} (hk:k < C.ws.length) (hw:wk=C.ws.getD k 0):PR C q gs cg N w l r s code wr∧wr.cell? ⟨q,0,none⟩=some (.pointer (some ⟨C.p,0,none⟩))∧wr.cell? ⟨C.p,0,none⟩=some (.slice (some ⟨C.g1,0,none⟩) C.ws.length C.c1)∧wr.cell? ⟨w.heap.size,0,none⟩=some (.int .i64 l)∧wr.cell? ⟨w.heap.size,1,none⟩=some (.int .i64 r)∧wr.cell? ⟨C.g1,k,none⟩=some (.int .i64 (wk:Nat)):=
  ⟨h,h.S.1,h.S.2.2.1,h.b0,h.b1,by rw [hw];exact h.wk hk⟩
set_option maxRecDepth 100000 in
set_option maxHeartbeats 20000000 in
theorem part_many {m:Nat} (hG:Good C) (hR:Rec C) (h:Wrt C q gs cg N s code w) (hl:l + 1 < r) (hr:r≤C.cs.length) (hm:m < C.cap + 1 - kp C.ws l) (hv:vl C l r m < nn) (hls:l≤s) (hrs:r < C.cs.length→r≤s) (hc:code.length + 8 * ((r - l) * (r - l))≤900000)
    (hIH:∀ a b m N s code w,a < b→b≤C.cs.length→b - a < r - l→m < C.cap + 1 - kp C.ws a→vl C a b m < nn→a≤s→(b < C.cs.length→b≤s)→Wrt C q gs cg N s code w→code.length + 8 * ((b - a) * (b - a))≤900000 →
      Calls Tryz.prog 32 #[.pointer (some ⟨q,0,none⟩),.agg #[.int .i64 a,.int .i64 b],.int .i64 m] w (PartPost C q gs cg N a b m s code w)) :
    Calls Tryz.prog 32 #[.pointer (some ⟨q,0,none⟩),.agg #[.int .i64 l,.int .i64 r],.int .i64 m] w (PartPost C q gs cg N l r m s code w):=by
  have hcl:=hG.n2.2
  have hwl:C.ws.length=C.cs.length + 1:=hG.n1
  have hp:PR C q gs cg N w l r s code (w.alloc (.cells #[.int .i64 l,.int .i64 r] 103)):=pr_init h
  have b0:=hp.b0
  have b1:=hp.b1
  have e1:IntKind.i64.wrap ((l:Int) + 1)=(l:Int) + 1:=IntWalk.i64_in _ (by omega)
  have t1:((r:Int) == (l:Int) + 1)=false:=by simp;omega
  have HP:=Lib.hid hp
  have HG:=Lib.hid hG
  have HR:=Lib.hid hR
  have HWL:=Lib.hid hwl
  have HIH:=Lib.hid hIH
  have HV:=Lib.hid hv
  have HRS:=Lib.hid hrs
  have HC:=Lib.hid hc
  clear hp h hG hR hwl hIH hv hrs hc
  go_enter Tryz.func32,Tryz.ntmps32
  go_wp2_with fail
  clear b0 b1
  go_region_held3 (fun w'=>PR C q gs cg N w l r s code w'∧w'.cell? ⟨q,0,none⟩=some (.pointer (some ⟨C.p,0,none⟩))∧w'.cell? ⟨C.p,0,none⟩=some (.slice (some ⟨C.g1,0,none⟩) C.ws.length C.c1)∧w'.cell? ⟨w.heap.size,0,none⟩=some (.int .i64 l)∧w'.cell? ⟨w.heap.size,1,none⟩=some (.int .i64 r))
    (first | exact (HP.out.call (Oth.refl _ _).drew).S2 | exact ((HP.out.call (Oth.refl _ _).drew).step k1 k2).S2)
    (first | (go_at_call 82;(with_reducible refine (best_wrt HG.out HR.out (HP.out.call (Oth.refl _ _).drew).wt hl hr hm HV.out).mono ?_);rintro e w' ⟨i,k,hk,hkr,hatt,rfl,k1,k2⟩))
  rename_i hh
  obtain ⟨hp1,q0,p0,b0,b1⟩:=hh
  have HP1:=Lib.hid hp1
  have HATT:=Lib.hid hatt
  have hwk:C.ws.getD k 0≤m:=by
    have h1:=ned_step C l r i
    rw [← hk.out] at h1
    have h2:=hatt.1
    unfold stp at h1;omega
  obtain ⟨wk,hW⟩:∃ a,a=C.ws.getD k 0:=⟨_,rfl⟩
  rw [← hW] at hwk
  have cw:=HP1.out.wk (k:=k) (by rw [HWL.out];omega)
  rw [← hW] at cw
  obtain ⟨d,hd⟩:∃ d,d=m - wk:=⟨_,rfl⟩
  have hcap:=HG.out.cap
  have e8:IntKind.i64.wrap ((m:Int) - wk)=d:=by rw [show (m:Int) - wk=d by omega];exact IntWalk.i64_in _ (by omega)
  have HW:=Lib.hid hW
  have HD:=Lib.hid hd
  clear hp1 k1 k2 hatt hW hd hcap
  go_wp2_with fail
  go_loopw [7] (fun x wr=>∃ j id:Nat,Hid (id=l + 1 + j)∧j≤i + 1∧x = .int .i64 id∧PR C q gs cg N w l r (max s (l + j)) (code ++ fwd l s j) wr) (fun x _=>k + 1 - (intOf x).toNat)
  case atStart=>exact ⟨0,l + 1,Lib.hid rfl,by omega,by go_num,by rw [Nat.add_zero,Nat.max_eq_left hls];simpa [fwd] using HP1.out⟩
  case round=>
    obtain ⟨j,id,hid,hj,rfl,hpr⟩:=hrel
    have hid':=hid.out
    have hk':=hk.out
    have hc':=HC.out
    have hfl:=fwd_length l s j
    have hsq:=sq_room (i + 1) (r - k) (by omega) (by omega)
    rw [show i + 1 + (r - k)=r - l by omega] at hsq
    have hlen0:(code ++ fwd l s j).length≤900000:=by rw [List.length_append];omega
    have HPR:=Lib.hid hpr
    by_cases hlt:j < i + 1
    · have t2:(id:Int)≤k:=by omega
      have e2:IntKind.i64.wrap ((id:Int) - 1)=(id:Int) - 1:=IntWalk.i64_in _ (by omega)
      have e3:IntKind.i64.wrap ((id:Int) + 1)=(id:Int) + 1:=IntWalk.i64_in _ (by omega)
      have hb1:1≤id∧id≤C.cs.length∧id≤max s (l + j) + 1∧max (max s (l + j)) id=max s (l + (j + 1))∧id=l + j + 1:=by omega
      obtain ⟨hb1,hb2,hb3,hb4,hb5⟩:=hb1
      have HB4:=Lib.hid hb4
      have HB5:=Lib.hid hb5
      clear hid' hk' hc' hfl hsq hpr hb4 hb5
      by_cases hz:j=0
      · have t3:((id:Int) - 1 == (l:Int))=true:=by have:=HB5.out;simp;omega
        have t4:((id:Int) - 1 != (l:Int))=false:=by have:=HB5.out;simp;omega
        go_wp2_with ((with_reducible refine (compute_any (id:=id) HPR.out.wt (by omega) hb1 hb2 hb3).mono ?_);rintro e w2 ⟨rfl,k1,k2⟩;have HP2:=Lib.hid (HPR.out.step k1 k2);have c0:=HP2.out.b0;clear k1 k2)
        go_roundw
        case rel=>exact ⟨j + 1,id + 1,Lib.hid (by have:=HB5.out;omega),by omega,by go_num,by
          have h9:=HP2.out
          rw [HB4.out,HB5.out] at h9
          rw [fwd,if_pos hz,← List.append_assoc];exact h9⟩
        case measure=>simp [intOf];omega
      · have t3:((id:Int) - 1 == (l:Int))=false:=by have:=HB5.out;simp;omega
        have t4:((id:Int) - 1 != (l:Int))=true:=by have:=HB5.out;simp;omega
        have hadd:∀ w2,PR C q gs cg N w l r (max (max s (l + j)) id) (code ++ fwd l s j ++ [cmp (max s (l + j)) id]) w2→Calls Tryz.prog 81 #[.pointer (some ⟨q,0,none⟩),.int .i64 3,.int .i64 ((id:Int) - 1)] w2 fun e w'=>e = .returned (.tuple #[])∧PR C q gs cg N w l r (max s (l + (j + 1))) (code ++ fwd l s (j + 1)) w':=by
          intro w2 hp
          refine (add_at (k:=3) (id:=l + j) hp.wt (by rw [List.length_append];simp only [List.length_singleton];omega) (by omega) (by have:=HB5.out;omega)).mono ?_
          rintro e w' ⟨rfl,k1,k2⟩
          have h9:=hp.step k1 k2
          rw [HB4.out,HB5.out] at h9
          refine ⟨rfl,?_⟩
          rw [fwd,if_neg hz]
          simpa [List.append_assoc] using h9
        have HADD:=Lib.hid hadd
        clear hadd
        go_wp2_with (first | ((with_reducible refine (compute_any (id:=id) HPR.out.wt (by omega) hb1 hb2 hb3).mono ?_);rintro e w2 ⟨rfl,k1,k2⟩;have HP2:=Lib.hid (HPR.out.step k1 k2);have c0:=HP2.out.b0;clear k1 k2) | ((with_reducible refine (HADD.out _ HP2.out).mono ?_);rintro e w3 ⟨rfl,k1⟩))
        go_roundw
        case rel=>exact ⟨j + 1,id + 1,Lib.hid (by have:=HB5.out;omega),by omega,by go_num,k1⟩
        case measure=>simp [intOf];omega
    · obtain rfl:j=i + 1:=by omega
      have t2:¬ (id:Int)≤k:=by omega
      have hsk:max s (l + (i + 1))=max s k:=by omega
      rw [hsk] at HPR hpr
      have hat:=HATT.out.2
      rw [← hk',← HW.out,← HD.out] at hat
      have hkp:kp C.ws k=wk:=by rw [HW.out];unfold kp;rw [if_neg (by omega)]
      have hvv:=HV.out
      have hdd:=HD.out
      have hws:=HWL.out
      have hkw:k < C.ws.length:=by omega
      have t5:(k:Int) < C.ws.length:=by omega
      have hrs:=HRS.out
      have H1:Hid (∀ w',Wrt C q gs cg (fun k=>N k∨k=w.heap.size) (max s k) (code ++ fwd l s (i + 1)) w'→Calls Tryz.prog 32 #[.pointer (some ⟨q,0,none⟩),.agg #[.int .i64 k,.int .i64 r],.int .i64 d] w' (PartPost C q gs cg (fun k=>N k∨k=w.heap.size) k r d (max s k) (code ++ fwd l s (i + 1)) w')):=
        fun w' hw=>HIH.out k r d _ _ _ w' hkr hr (by omega) (by rw [hkp];omega) (by omega) (by omega) (fun h=>by have:=hrs h;omega) hw (by rw [List.length_append];omega)
      have H2:Hid (∀ w' s1 code1,k≤s1→code1.length≤code.length + 2 * (i + 1) + 8 * ((r - k) * (r - k)) + 1→Wrt C q gs cg (fun k=>N k∨k=w.heap.size) s1 code1 w'→Calls Tryz.prog 32 #[.pointer (some ⟨q,0,none⟩),.agg #[.int .i64 l,.int .i64 k],.int .i64 m] w' (PartPost C q gs cg (fun k=>N k∨k=w.heap.size) l k m s1 code1 w')):=
        fun w' s1 code1 h1 h2 hw=>HIH.out l k m _ _ _ w' (by omega) (by omega) (by omega) hm (by omega) (by omega) (fun h=>h1) hw (by rw [show k - l=i + 1 by omega];omega)
      have HFIN:Hid (∀ s1 s2 a b w',Wr C k r d (max s k) s1 a→Wr C l k m s1 s2 b→a.length≤8 * ((r - k) * (r - k))→b.length≤8 * ((k - l) * (k - l))→PR C q gs cg N w l r s2 (code ++ fwd l s (i + 1) ++ a ++ [(3,k)] ++ b) w'→PartPost C q gs cg N l r m s code w (.returned (.tuple #[])) w'):=by
        intro s1 s2 a b w' h1 h2 h3 h4 hp
        have h5:Wr C l r m s s2 (fwd l s (i + 1) ++ (a ++ ((3,l + 1 + i) :: b))):=by
          refine .split (by omega) HATT.out.1 HATT.out.2 ?_ ?_ (s1:=s1)
          · rw [← hk',← HW.out,← HD.out];exact h1
          · rw [← hk'];exact h2
        refine hp.post ?_ h5 ?_
        · rw [← hk'];simp
        · rw [← hk']
          simp only [List.length_append,List.length_cons]
          rw [show k - l=i + 1 by omega] at h4
          omega
      have HK:=Lib.hid (And.intro hid' (And.intro hk' (And.intro hc' (And.intro hfl hsq))))
      have hlen1:(code ++ fwd l s (i + 1)).length≤code.length + 2 * (i + 1):=by rw [List.length_append];omega
      have hroom:code.length + 2 * (i + 1) + 8 * ((r - k) * (r - k)) + 1≤900000:=by omega
      obtain ⟨_,c0,cp,_,c1,cw'⟩:=hpr.S3 hkw HW.out
      clear hid' hk' hc' hfl hsq hpr hsk hat hvv hdd hws hrs hkp hlen0 cw p0 q0 b0 b1
      go_wp2_with fail
      clear c0 cp c1 cw'
      go_region_held3 (fun w'=>w'.cell? ⟨q,0,none⟩=some (.pointer (some ⟨C.p,0,none⟩))∧w'.cell? ⟨C.p,0,none⟩=some (.slice (some ⟨C.g1,0,none⟩) C.ws.length C.c1)∧w'.cell? ⟨w.heap.size,0,none⟩=some (.int .i64 l)∧w'.cell? ⟨w.heap.size,1,none⟩=some (.int .i64 r)∧w'.cell? ⟨C.g1,k,none⟩=some (.int .i64 (wk:Nat)))
        (first | exact ((HPR.out.call (Oth.refl _ _).drew).S3 hkw HW.out).2 | exact (((HPR.out.call (Oth.refl _ _).drew).step k1 k2).S3 hkw HW.out).2)
        (first | (go_at_call 32;(with_reducible refine (H1.out _ (HPR.out.call (Oth.refl _ _).drew).wt).mono ?_);rintro e w' ⟨s1,a,rfl,wr1,ln1,k1,k2⟩))
      rename_i hh
      have HP3:=Lib.hid ((HPR.out.call (Oth.refl _ _).drew).step k1 k2)
      have ms:=wr1.mono
      have HW1:=Lib.hid wr1
      have HL1:=Lib.hid ln1
      have d0:=HP3.out.b0
      have hl1:(code ++ fwd l s (i + 1) ++ a).length≤code.length + 2 * (i + 1) + 8 * ((r - k) * (r - k)):=by rw [List.length_append];omega
      clear hh k1 k2 wr1 ln1
      go_wp2_with ((with_reducible refine (add_at (k:=3) (id:=k) HP3.out.wt (by omega) (by omega) (by omega)).mono ?_);rintro e w2 ⟨rfl,k1,k2⟩;have HP4:=Lib.hid (HP3.out.step k1 k2);have d1:=HP4.out.b0;clear k1 k2)
      refine (H2.out _ s1 _ (by omega) (by simp only [List.length_append,List.length_singleton] at hl1 ⊢;omega) HP4.out.wt).mono ?_
      rintro e w3 ⟨s2,b,rfl,wr2,ln2,k3,k4⟩
      have HP5:=Lib.hid (HP4.out.step k3 k4)
      have HF:=Lib.hid (HFIN.out s1 s2 a b _ HW1.out wr2 HL1.out ln2 HP5.out)
      clear wr2 ln2 k3 k4
      go_wp2_with fail
      go_end0
      exact HF.out
theorem part_any (hG:Good C) (hR:Rec C):∀ (D a b m:Nat) (N:Nat→Prop) (s:Nat) (code:List (Nat × Nat)) (w:World),b - a=D→a < b→b≤C.cs.length→m < C.cap + 1 - kp C.ws a→vl C a b m < nn→a≤s→(b < C.cs.length→b≤s)→Wrt C q gs cg N s code w→code.length + 8 * ((b - a) * (b - a))≤900000 →
      Calls Tryz.prog 32 #[.pointer (some ⟨q,0,none⟩),.agg #[.int .i64 a,.int .i64 b],.int .i64 m] w (PartPost C q gs cg N a b m s code w):=by
  intro D
  induction D using Nat.strongRecOn with
  | _ D ih=>
    intro a b m N s code w hD h1 h2 h3 h4 h5 h6 h7 h8
    by_cases h:b=a + 1
    · subst h
      have:=part_one (m:=m) hG h7 h2 h5 (by omega)
      rw [Int.natCast_add];exact this
    · exact part_many hG hR h7 (by omega) h2 h3 h4 h5 h6 h8 (fun a' b' m' N' s' code' w' g1 g2 g3 g4 g5 g6 g7 g8 g9=>ih (b' - a') (by omega) a' b' m' N' s' code' w' rfl g1 g2 g4 g5 g6 g7 g8 g9)
end
end Go.Proofs.YtnpdcjdmbkcpbaaGreat.Ins
