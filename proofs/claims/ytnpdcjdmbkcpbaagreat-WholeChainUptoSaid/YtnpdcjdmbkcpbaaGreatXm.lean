/- The walks of slices.Clone at one number and of check.New over contracts of price.Of, Order and Loss. The walk of check.Run over contracts of price.Of, Order and Loss. No condition. -/
import Derived.Test.YtnpdcjdmbkcpbaaGreatXj
import Derived.Test.YtnpdcjdmbkcpbaaGreatXl
import Derived.Maps.AppendAt
import Derived.Laws.MakeOwn
import Derived.WalkSpells
import Derived.Test.YtnpdcjdmbkcpbaaGreatXk
import Derived.Laws.ResultCell
set_option linter.unusedVariables false
set_option linter.unusedSimpArgs false
namespace Go.Proofs.YtnpdcjdmbkcpbaaGreat.Ins
open Go.RowKit
def PriC (D:NetD) (o:Nat→Nat) (ws cs:List Nat):Prop:=∀ w,D.R w→Calls Tryz.prog 39 #[D.val] w fun e w'=>∃ gw gc T,e = .returned (.tuple #[.agg #[.slice (some ⟨gw,0,none⟩) (D.n + 1) (D.n + 1),.slice (some ⟨gc,0,none⟩) (D.n + 1) (D.n + 1),.int .i64 T],.int .i64 0])∧Oth [] w w'∧w.heap.size≤gw∧w.heap.size≤gc∧gw < w'.heap.size∧gc < w'.heap.size ∧
  (∀ p,p≤D.n→w'.cell? ⟨gw,o p,none⟩=some (.int .i64 (ws.getD p 0:Nat)))∧(∀ p,p < D.n→w'.cell? ⟨gc,o (p + 1),none⟩=some (.int .i64 (cs.getD p 0:Nat)))
section
variable {D:NetD} {o π:Nat→Nat} {w:World}
set_option maxRecDepth 100000 in
set_option maxHeartbeats 4000000 in
theorem clone_one {g off c:Nat} {x:Int} (h:w.cell? ⟨g,off,none⟩=some (.int .i64 x)) :
    Calls Tryz.prog 42 #[.slice (some ⟨g,off,none⟩) 1 c] w fun e w'=>∃ g' c',e = .returned (.slice (some ⟨g',0,none⟩) 1 c')∧w'.cell? ⟨g',0,none⟩=some (.int .i64 x)∧w.heap.size≤g'∧g' < w'.heap.size∧Oth [] w w':=by
  obtain ⟨i0,hi,hz0,hz1,hz2⟩:=info_parts' info3q
  have hown:(w.alloc (.cells #[] 3)).ownsRow w.heap.size 3 1 (.slice (some ⟨w.heap.size,0,none⟩) 0 0) 0 []:=⟨rfl,.inr ⟨w.heap.size,0,#[],rfl,Nat.le_refl _,heap_alloc_new _ _,Nat.le_refl _,by unfold maxLen;omega,rfl,rfl⟩⟩
  have heq:∀ w,(binOp .eql 22 (.slice (some ⟨g,off,none⟩) 1 c) (.slice none 0 0)).run Tryz.prog w = .ok (.bool false) w:=fun w=>by
    have:=Lib.run_eql_slice_nil (P:=Tryz.prog) w 22 3 (some ⟨g,off,none⟩) 1 c 0 0 Tryz.underlying22
    simpa using this
  have HH:=Lib.hid h
  clear h
  go_enter Tryz.func42,Tryz.ntmps42
  go_wp2_with (at_builtin;refine wpList_append_own_at _ rfl _ _ 22 rfl w.heap.size 3 i0 _ 1 8 Tryz.underlying22 hi hz0 hz1 hz2 rfl (by decide) _ _ _ rfl hown ⟨g,off,none⟩ 1 c [.int .i64 x] rfl ?c0 ?c1 ?c2 ?c3 ?c4 ?c5 ?_)
  case c0=>rfl
  case c1=>
    intro j u hu
    rw [Addr.add_lit]
    match j,hu with
    | 0,hu=>cases hu;exact ((Oth.refl [] w).alloc _).cell HH.out (by simp)
  case c2=>intro u hu;simp at hu;subst hu;rfl
  case c3=>unfold maxLen;omega
  case c4=>omega
  case c5=>simp
  intro v' w1 hown1 hgrow1 _ _
  have hb1:Oth [] w w1:=((Oth.refl _ w).alloc _).grown hgrow1 (fun k hk=>by simp [Value.ownBlock] at hk;exact .inr (by omega))
  obtain ⟨g',cap',rfl,hg',hR⟩:=row_of_owns hown1 (by omega)
  have hc:=hR.cell (j:=0) rfl
  have hlt:=hR.lt
  have HO:=Lib.hid (And.intro hc (And.intro hg' (And.intro hlt hb1)))
  clear hown1 hgrow1 hR hc hg' hlt hb1
  go_wp2
  go_ret
  exact ⟨g',cap',rfl,HO.out.1,HO.out.2.1,HO.out.2.2.1,HO.out.2.2.2⟩
theorem info22s:(Tryz.prog.info? 22).map (fun i=>(i.zero,i.size,i.bytes))=some (some (.slice none 0 0),1,24):=by kernel_rfl
theorem rowV_set {e:TypeId} {g n c:Nat} {V:Nat→Value} {w:World} (h:Row e 1 g n c ((List.range n).map V) w) (i:Nat) (x:Value):Row e 1 g n c ((List.range n).map fun j=>if j=i then x else V j) (w.setCell ⟨g,i,none⟩ x):=by
  have h2:=Row.set h i x
  have e:((List.range n).map V).set i x=(List.range n).map fun j=>if j=i then x else V j:=by
    apply List.ext_getElem
    · simp
    · intro k h1 h2
      simp only [List.getElem_set,List.getElem_map,List.getElem_range]
      by_cases e:i=k
      · subst e;simp
      · rw [if_neg e,if_neg (fun x=>e x.symm)]
  rw [← e];exact h2
def newL (D:NetD) (o π:Nat→Nat) (ws cs:List Nat) (cap q gp gs gg gw gc gi go:Nat):SLy:=⟨q,gp,D.n + 1,gs,D.n + 1,gg,D.n + 1,gw,D.n + 1,gc,D.n + 1,gi,D.n + 1,go,D.n,cap,ws,cs,o,π⟩
theorem heap4' (w:World) (X A B C:Obj):((((w.alloc X).alloc A).alloc B).alloc C).heap[w.heap.size]?=some X∧((((w.alloc X).alloc A).alloc B).alloc C).heap[w.heap.size + 1]?=some A∧((((w.alloc X).alloc A).alloc B).alloc C).heap[w.heap.size + 2]?=some B∧((((w.alloc X).alloc A).alloc B).alloc C).heap[w.heap.size + 3]?=some C∧Oth [] w ((((w.alloc X).alloc A).alloc B).alloc C):=by
  have oA:Oth [] (w.alloc X) ((((w.alloc X).alloc A).alloc B).alloc C):=(((Oth.refl _ _).alloc _).alloc _).alloc _
  have oB:Oth [] ((w.alloc X).alloc A) ((((w.alloc X).alloc A).alloc B).alloc C):=((Oth.refl _ _).alloc _).alloc _
  have oC:Oth [] (((w.alloc X).alloc A).alloc B) ((((w.alloc X).alloc A).alloc B).alloc C):=(Oth.refl _ _).alloc _
  have h1:=heap_alloc_new (w.alloc X) A
  have h2:=heap_alloc_new ((w.alloc X).alloc A) B
  have h3:=heap_alloc_new (((w.alloc X).alloc A).alloc B) C
  simp only [World.size_alloc] at h1 h2 h3
  exact ⟨oA.heap (heap_alloc_new w X) (by simp),oB.heap h1 (by simp),oC.heap h2 (by simp),h3,((((Oth.refl _ _).alloc _).alloc _).alloc _).alloc _⟩
theorem madeCells_zero (n:Nat):(madeCells #[Value.bool false] (n + 1))[0]?=some (.bool false):=by
  rw [← Array.getElem?_toList,toList_madeCells_one];rfl
theorem bls_first {g n:Nat} {w:World} (h:w.heap[g]?=some (.cells ((madeCells #[.bool false] (n + 1)).setIfInBounds 0 (.bool true)) 4 (0,0))) (hm:n + 1≤maxLen):Bls g (fun i=>decide (i=0)) (n + 1) (n + 1) w:=by
  have e:((madeCells #[Value.bool false] (n + 1)).setIfInBounds 0 (.bool true)).toList=(List.range (n + 1)).map fun i=>.bool (decide (i=0)):=by
    rw [Array.toList_setIfInBounds,toList_madeCells_one]
    apply List.ext_getElem
    · simp
    · intro k h1 h2
      simp only [List.getElem_set,List.getElem_replicate,List.getElem_map,List.getElem_range]
      by_cases e:0=k
      · subst e;simp
      · rw [if_neg e,decide_eq_false (fun x=>e x.symm)]
  have h2:w.heap[g]?=some (.cells ((List.range (n + 1)).map fun i=>Value.bool (decide (i=0))).toArray 4 (0,0)):=by
    rw [← e];exact h
  exact row_of_list h2 (by simp) hm
def newX (D:NetD) (o:Nat→Nat) (cap gw gc gi go q:Nat):Obj:=.cells #[.slice (some ⟨gw,0,none⟩) (D.n + 1) (D.n + 1),.slice (some ⟨gc,0,none⟩) (D.n + 1) (D.n + 1),.slice (some ⟨gi,0,none⟩) (D.n + 1) (D.n + 1),.slice (some ⟨go,0,none⟩) D.n D.n,.int .i64 (o D.n:Nat),.int .i64 cap,
  .slice (some ⟨q + 1,0,none⟩) (D.n + 1) (D.n + 1),.slice (some ⟨q + 1 + 1,0,none⟩) (D.n + 1) (D.n + 1),.slice (some ⟨q + 1 + 1 + 1,0,none⟩) (D.n + 1) (D.n + 1),.bool false,.bool false,.int .i64 0,.int .i64 0,.int .i64 0] 124
theorem new_done {w3 wr:World} {ws cs:List Nat} {cap gw gc gi go:Nat} {V:Nat→Value} (hpm:Perm D.n o π) (hn:1≤D.n∧D.n≤64) (hlc:cs.length=D.n)
    (hgo:∀ p,p < D.n→w3.cell? ⟨go,p,none⟩=some (.int .i64 (o (p + 1):Nat))) (hgw:∀ p,p≤D.n→w3.cell? ⟨gw,o p,none⟩=some (.int .i64 (ws.getD p 0:Nat))) (hgc:∀ p,p < D.n→w3.cell? ⟨gc,o (p + 1),none⟩=some (.int .i64 (cs.getD p 0:Nat)))
    (ho:Oth [] w wr) (ho3:Oth [gi] w3 wr) (hsz:w.heap.size≤w3.heap.size) (hgi:gi < wr.heap.size) (hrow:Row 22 1 gi (D.n + 1) (D.n + 1) ((List.range (D.n + 1)).map V) wr)
    (hV:∀ i,1≤i→i≤D.n→∃ g c,V i = .slice (some ⟨g,0,none⟩) 1 c∧wr.cell? ⟨g,0,none⟩=some (.int .i64 (o (π i - 1):Nat))∧w3.heap.size < g) (hgi3:gi=w3.heap.size:=by rfl) :
    Stt (newL D o π ws cs cap wr.heap.size (wr.heap.size + 1) (wr.heap.size + 2) (wr.heap.size + 3) gw gc gi go) (WS.zero D.n) ((((wr.alloc (newX D o cap gw gc gi go wr.heap.size)).alloc (.cells ((madeCells #[.bool false] (D.n + 1)).setIfInBounds 0 (.bool true)) 4)).alloc (.cells (madeCells #[.bool false] (D.n + 1)) 4)).alloc (.cells (madeCells #[.bool false] (D.n + 1)) 4)) ∧
    Oth [] w ((((wr.alloc (newX D o cap gw gc gi go wr.heap.size)).alloc (.cells ((madeCells #[.bool false] (D.n + 1)).setIfInBounds 0 (.bool true)) 4)).alloc (.cells (madeCells #[.bool false] (D.n + 1)) 4)).alloc (.cells (madeCells #[.bool false] (D.n + 1)) 4)) ∧
    (∀ k,k∈(newL D o π ws cs cap wr.heap.size (wr.heap.size + 1) (wr.heap.size + 2) (wr.heap.size + 3) gw gc gi go).W→w.heap.size≤k) ∧
    (∀ p,p < D.n→((((wr.alloc (newX D o cap gw gc gi go wr.heap.size)).alloc (.cells ((madeCells #[.bool false] (D.n + 1)).setIfInBounds 0 (.bool true)) 4)).alloc (.cells (madeCells #[.bool false] (D.n + 1)) 4)).alloc (.cells (madeCells #[.bool false] (D.n + 1)) 4)).cell? ⟨gc,o (p + 1),none⟩=some (.int .i64 (cs.getD p 0:Nat))):=by
  obtain ⟨h0,h1,h2,h3,h4⟩:=heap4' wr (newX D o cap gw gc gi go wr.heap.size) (.cells ((madeCells #[.bool false] (D.n + 1)).setIfInBounds 0 (.bool true)) 4) (.cells (madeCells #[.bool false] (D.n + 1)) 4) (.cells (madeCells #[.bool false] (D.n + 1)) 4)
  generalize (((wr.alloc (newX D o cap gw gc gi go wr.heap.size)).alloc (.cells ((madeCells #[.bool false] (D.n + 1)).setIfInBounds 0 (.bool true)) 4)).alloc (.cells (madeCells #[.bool false] (D.n + 1)) 4)).alloc (.cells (madeCells #[.bool false] (D.n + 1)) 4)=W at h0 h1 h2 h3 h4 ⊢
  have oF:=h4
  have g1:=World.block_lt_of_cell? _ _ (hgo 0 (by omega))
  have g2:=World.block_lt_of_cell? _ _ (hgw 0 (by omega))
  have g3:=World.block_lt_of_cell? _ _ (hgc 0 (by omega))
  simp only at g1 g2 g3
  have hs3:=ho3.size
  have b1:=bls_first h1 (by unfold maxLen;omega)
  have b2:=bls_row h2 (by unfold maxLen;omega) (f:=fun _=>false) (fun _ _=>rfl)
  have b3:=bls_row h3 (by unfold maxLen;omega) (f:=fun _=>false) (fun _ _=>rfl)
  have hLn:(newL D o π ws cs cap wr.heap.size (wr.heap.size + 1) (wr.heap.size + 2) (wr.heap.size + 3) gw gc gi go).n=D.n:=hlc
  have hcel:∀ {a v},w3.cell? a=some v→a.block≠gi→W.cell? a=some v:=fun h hne=>oF.cell (ho3.cell h (by simpa using hne)) (by simp)
  have hmW:∀ k,k∈(newL D o π ws cs cap wr.heap.size (wr.heap.size + 1) (wr.heap.size + 2) (wr.heap.size + 3) gw gc gi go).W→wr.heap.size≤k:=by
    intro k hk
    simp only [SLy.W,newL,List.mem_cons,List.mem_nil_iff,or_false] at hk
    omega
  have hWn:∀ k,k < wr.heap.size→k∉(newL D o π ws cs cap wr.heap.size (wr.heap.size + 1) (wr.heap.size + 2) (wr.heap.size + 3) gw gc gi go).W:=fun k hk e=>by have:=hmW k e;omega
  refine ⟨⟨?_,?_,?_,?_,⟨?_,?_,?_,?_,⟨hWn _ ?_,hWn _ ?_,hWn _ ?_,hWn _ ?_⟩⟩,⟨?_,?_,?_⟩,⟨?_,?_⟩,?_,?_,?_⟩,?_,?_,?_⟩
  · show W.heap[wr.heap.size]?=_
    rw [h0]
    unfold newX scells
    rw [hLn]
    simp [newL,WS.zero]
  · rw [hLn]
    refine b1.ext fun i hi=>?_
    show decide (i=0)=decide (π i=0)
    by_cases e:i=0
    · rw [e,hpm.p0]
    · have:=hpm.ppos (p:=i) (by omega) (by omega)
      exact decide_eq_decide.2 (by omega)
  · rw [hLn];exact b2
  · rw [hLn];exact b3
  · rw [hLn];exact fun p hp=>hcel (hgw p hp) (by show gw≠gi;omega)
  · rw [hLn];exact fun p hp=>hcel (hgc p hp) (by show gc≠gi;omega)
  · rw [hLn]
    intro p hp
    have h5:=hpm.op (p + 1) (by omega)
    have h6:=hpm.opos (p:=p + 1) (by omega) (by omega)
    obtain ⟨g,c,v1,v2,v3⟩:=hV (o (p + 1)) h6 h5.1
    have hgl:=World.block_lt_of_cell? _ _ v2
    refine ⟨g,c,?_,?_,hWn _ hgl⟩
    · have h7:=hrow.cell (j:=o (p + 1)) (x:=V (o (p + 1))) (by rw [List.getElem?_map,List.getElem?_range (by omega)];rfl)
      rw [v1] at h7
      exact oF.cell h7 (by simp)
    · rw [h5.2,show p + 1 - 1=p by omega] at v2
      exact oF.cell v2 (by simp)
  · rw [hLn];exact fun p hp=>hcel (hgo p hp) (by show go≠gi;omega)
  · show gw < wr.heap.size;omega
  · show gc < wr.heap.size;omega
  · show gi < wr.heap.size;exact hgi
  · show go < wr.heap.size;omega
  · show wr.heap.size≠wr.heap.size + 1;omega
  · show wr.heap.size≠wr.heap.size + 2;omega
  · show wr.heap.size≠wr.heap.size + 3;omega
  · show wr.heap.size + 1≠wr.heap.size + 2;omega
  · show wr.heap.size + 1≠wr.heap.size + 3;omega
  · show wr.heap.size + 2≠wr.heap.size + 3;omega
  · rw [hLn];exact hpm
  · rw [hLn];exact hn
  · exact ho.trans oF (Fr.nil _ _)
  · exact fun k hk=>Nat.le_trans ho.size (hmW k hk)
  · exact fun p hp=>hcel (hgc p hp) (by show gc≠gi;omega)
set_option maxRecDepth 100000 in
set_option maxHeartbeats 4000000 in
theorem new_any {ws cs:List Nat} {cap:Nat} (hc:Chn D o π) (hO:OrdC D o) (hL:LosC D o) (hPr:PriC D o ws cs) (hlc:cs.length=D.n) (hr:D.R w) :
    Calls Tryz.prog 15 #[D.val,.int .i64 cap] w fun e w'=>∃ L,e = .returned (.tuple #[.pointer (some ⟨L.q,0,none⟩),.int .i64 0])∧(L.cw=D.n + 1∧L.cc=D.n + 1)∧L.ws=ws∧L.cs=cs∧L.cap=cap∧L.o=o∧L.π=π∧Stt L (WS.zero D.n) w'∧Oth [] w w'∧(∀ k,k∈L.W→w.heap.size≤k)∧(∀ p,p < D.n→w'.cell? ⟨L.gc,o (p + 1),none⟩=some (.int .i64 (cs.getD p 0:Nat))):=by
  obtain ⟨gN,oN,hb,hnd⟩:=hc.nodes hr
  have hn:=hc.n1
  have hpm:=Lib.hid hc.pm
  have HR:=Lib.hid hr
  have HC:=Lib.hid hc
  have hval:D.val = .agg #[.slice D.i.b D.i.n D.i.c,.slice (some ⟨gN,oN,none⟩) D.n D.c]:=by unfold NetD.val;rw [hb];rfl
  have NO:Hid (∀ w',Oth [] w w'→Calls Tryz.prog 40 #[D.val] w' fun e w2=>∃ g,e = .returned (.tuple #[.slice (some ⟨g,0,none⟩) D.n D.n,.int .i64 0])∧Oth [] w' w2∧w'.heap.size≤g∧g < w2.heap.size∧∀ p,p < D.n→w2.cell? ⟨g,p,none⟩=some (.int .i64 (o (p + 1):Nat))):=fun w' ho=>hO w' (hr.oth ho)
  have NL:Hid (∀ w',Oth [] w w'→Calls Tryz.prog 41 #[D.val] w' fun e w2=>e = .returned (.tuple #[.int .i64 (o D.n:Nat),.int .i64 0])∧Oth [] w' w2):=fun w' ho=>hL w' (hr.oth ho)
  have NP:Hid (∀ w',Oth [] w w'→Calls Tryz.prog 39 #[D.val] w' fun e w2=>∃ gw gc T,e = .returned (.tuple #[.agg #[.slice (some ⟨gw,0,none⟩) (D.n + 1) (D.n + 1),.slice (some ⟨gc,0,none⟩) (D.n + 1) (D.n + 1),.int .i64 T],.int .i64 0])∧Oth [] w' w2∧w'.heap.size≤gw∧w'.heap.size≤gc∧gw < w2.heap.size∧gc < w2.heap.size ∧
    (∀ p,p≤D.n→w2.cell? ⟨gw,o p,none⟩=some (.int .i64 (ws.getD p 0:Nat)))∧(∀ p,p < D.n→w2.cell? ⟨gc,o (p + 1),none⟩=some (.int .i64 (cs.getD p 0:Nat)))):=fun w' ho=>hPr w' (hr.oth ho)
  rw [hval] at NO NL NP ⊢
  have HBX:Hid (∀ w',Oth [] (w.alloc (.cells #[.slice D.i.b D.i.n D.i.c,.slice (some ⟨gN,oN,none⟩) D.n D.c] 26)) w'→Oth [] w w'∧w'.cell? ⟨w.heap.size,0,none⟩=some (.slice D.i.b D.i.n D.i.c)∧w'.cell? ⟨w.heap.size,1,none⟩=some (.slice (some ⟨gN,oN,none⟩) D.n D.c)):=fun w' ho=>net_box ho
  have HB:=Lib.hid hb
  have e1:IntKind.i64.wrap ((D.n:Int) + 1)=(D.n:Int) + 1:=IntWalk.i64_in _ (by omega)
  have hm1:∀ w',_:=fun w'=>run_make_row' (P:=Tryz.prog) 121 22 (.slice none 0 0) 24 Tryz.underlying121 info22s rfl .i64 .i64 (D.n + 1) (by omega) (by omega) w'
  simp only [Int.natCast_add,Int.natCast_one] at hm1
  clear hr hnd hb hval hO hL hPr hc
  go_enter Tryz.func15,Tryz.ntmps15
  go_wp2_with (first
    | (go_at_call 39;(with_reducible refine (NP.out _ ((Oth.refl [] w).alloc _)).mono ?_);rintro e w1 ⟨gw,gc,T,rfl,ho1,hw1,hw2,hw3,hw4,hgw,hgc⟩;obtain ⟨p0,p1,p2⟩:=HBX.out _ ho1;replace ho1:=Lib.hid ho1;replace hgw:=Lib.hid hgw;replace hgc:=Lib.hid hgc;replace p0:=Lib.hid p0;have l1:=World.block_lt_of_cell? _ _ p1)
    | (go_at_call 40;(with_reducible refine (NO.out _ (p0.out.alloc _)).mono ?_);rintro e w2 ⟨go,rfl,ho2,hg1,hg2,hgo⟩;replace hgo:=Lib.hid hgo;have hb2:=Lib.hid ((ho1.out.alloc (.cells #[.slice (some ⟨gw,0,none⟩) (D.n + 1) (D.n + 1),.slice (some ⟨gc,0,none⟩) (D.n + 1) (D.n + 1),.int .i64 T] 115)).trans ho2 (Fr.nil _ _));clear p1 p2 l1;obtain ⟨q0,p1,p2⟩:=HBX.out _ hb2.out;replace q0:=Lib.hid q0;have l1:=World.block_lt_of_cell? _ _ p1;have hp6:=ho2.heap (heap_alloc_new w1 _) (by simp);replace hp6:=Lib.hid hp6;replace ho2:=Lib.hid ho2)
    | (go_at_call 41;(with_reducible refine (NL.out _ q0.out).mono ?_);rintro e w3 ⟨rfl,ho3⟩;have hb3:=Lib.hid (hb2.out.trans ho3 (Fr.nil _ _));clear p1 p2 l1;obtain ⟨r0,p1,p2⟩:=HBX.out _ hb3.out;replace r0:=Lib.hid r0;have l1:=World.block_lt_of_cell? _ _ p1;replace hp6:=Lib.hid (ho3.heap hp6.out (by simp));replace ho3:=Lib.hid ho3))
  have HGO:Hid (∀ p,p < D.n→w3.cell? ⟨go,p,none⟩=some (.int .i64 (o (p + 1):Nat))):=fun p hp=>ho3.out.cell (hgo.out p hp) (by simp)
  have HGW:Hid (∀ p,p≤D.n→w3.cell? ⟨gw,o p,none⟩=some (.int .i64 (ws.getD p 0:Nat))):=fun p hp=>(((Oth.refl [] w1).alloc _).trans (ho2.out.trans ho3.out (Fr.nil _ _)) (Fr.nil _ _)).cell (hgw.out p hp) (by simp)
  have HGC:Hid (∀ p,p < D.n→w3.cell? ⟨gc,o (p + 1),none⟩=some (.int .i64 (cs.getD p 0:Nat))):=fun p hp=>(((Oth.refl [] w1).alloc _).trans (ho2.out.trans ho3.out (Fr.nil _ _)) (Fr.nil _ _)).cell (hgc.out p hp) (by simp)
  have HRW:Hid (Row 22 1 w3.heap.size (D.n + 1) (D.n + 1) ((List.range (D.n + 1)).map fun _=>.slice none 0 0) (w3.alloc (.cells (madeCells #[.slice none 0 0] (D.n + 1)) 22))):=by
    have e:(List.range (D.n + 1)).map (fun _=>Value.slice none 0 0)=List.replicate (D.n + 1) (.slice none 0 0):=by
      rw [List.eq_replicate_iff]
      exact ⟨by simp,fun b hb=>by obtain ⟨i,-,rfl⟩:=List.mem_map.1 hb;rfl⟩
    have h2:(w3.alloc (.cells (madeCells #[.slice none 0 0] (D.n + 1)) 22)).heap[w3.heap.size]?=some (.cells (List.replicate (D.n + 1) (Value.slice none 0 0)).toArray 22 (0,0)):=by
      rw [← toList_madeCells_one];exact heap_alloc_new _ _
    have h3:=row_of_list (n:=D.n + 1) h2 (by simp) (by unfold maxLen;omega)
    rw [← e] at h3
    exact h3
  have hsz:w.heap.size≤w3.heap.size:=r0.out.size
  have P2:=Lib.hid p2
  have hl26:w.heap.size < w3.heap.size:=World.block_lt_of_cell? _ _ p2
  clear hm1 hgo hgw hgc ho2 ho3 hb2 q0 p1 p2 l1 NO NL NP
  go_loopw [46] (fun x wr=>∃ m:Nat,m≤D.n∧x = .int .i64 m∧Oth [] w wr∧Oth [w3.heap.size] w3 wr∧∃ V:Nat→Value,Row 22 1 w3.heap.size (D.n + 1) (D.n + 1) ((List.range (D.n + 1)).map V) wr∧∀ i,1≤i→i≤m→∃ g c,V i = .slice (some ⟨g,0,none⟩) 1 c∧wr.cell? ⟨g,0,none⟩=some (.int .i64 (o (π i - 1):Nat))∧w3.heap.size < g) (fun x _=>D.n - (intOf x).toNat)
  case atStart=>exact ⟨0,by omega,rfl,r0.out.alloc _,(Oth.refl _ _).alloc _,_,HRW.out,fun i h1 h2=>by omega⟩
  case round=>
    obtain ⟨m,hm,rfl,ho,ho3,V,hrow,hV⟩:=hrel
    have q3:=ho3.cell P2.out (by simp;omega)
    have q4:=World.block_lt_of_cell? _ _ q3
    by_cases hlt:m < D.n
    · have t1:(m:Int) < D.n:=by omega
      have e2:IntKind.i64.wrap ((m:Int) + 1)=(m:Int) + 1:=IntWalk.i64_in _ (by omega)
      have t2:(m:Int) + 1 < (D.n:Int) + 1:=by omega
      have hpo:=hpm.out.po (m + 1) (by omega)
      have hpp:=hpm.out.ppos (p:=m + 1) (by omega) (by omega)
      obtain ⟨d,k1,k2⟩:=HC.out.ins (π (m + 1) - 1) (by omega)
      rw [show π (m + 1) - 1 + 1=π (m + 1) by omega,hpo.2,show m + 1 - 1=m by omega] at k1
      obtain ⟨g0,o0,j1,j2,j3⟩:=(HR.out.oth ho).at_ m d k1
      rw [HB.out] at j1
      simp only [Option.some.injEq,Addr.mk.injEq] at j1
      obtain ⟨rfl,rfl,-⟩:=j1
      have hl:=j3.ins.len
      rw [k2] at hl
      obtain ⟨g1,o1,b1,b2⟩:=j3.ins.at_ 0 (o (π (m + 1) - 1):Int) (by rw [k2];rfl)
      rw [Nat.add_zero] at b2
      have c0:=j2 0 _ rfl
      have c1:=j2 1 _ rfl
      have c2:=j2 2 _ rfl
      have c3:=j2 3 _ rfl
      have c4:=j2 4 _ rfl
      have c5:=j2 5 _ rfl
      have c6:=j2 6 _ rfl
      have c7:=j2 7 _ rfl
      have c8:=j2 8 _ rfl
      have c9:=j2 9 _ rfl
      rw [Nat.add_zero] at c0
      rw [b1,hl] at c8
      have l2:=World.block_lt_of_cell? _ _ c0
      have NC:Hid (∀ w',Oth [] wr w'→Calls Tryz.prog 42 #[.slice (some ⟨g1,o1,none⟩) 1 d.ci] w' fun e w2=>∃ g' c',e = .returned (.slice (some ⟨g',0,none⟩) 1 c')∧w2.cell? ⟨g',0,none⟩=some (.int .i64 (o (π (m + 1) - 1):Nat))∧w'.heap.size≤g'∧g' < w2.heap.size∧Oth [] w' w2):=fun w' ho=>clone_one (ho.cell b2 (by simp))
      have HK:=Lib.hid (And.intro ho (And.intro ho3 (And.intro hrow hV)))
      generalize hcc:(List.range (D.n + 1)).map V=xs at hrow
      clear j2 j3 k1 k2 hl b1 b2 ho ho3 hV hcc hrow
      go_wp2_with (go_at_call 42;(with_reducible refine (NC.out _ ((Oth.refl [] wr).alloc _)).mono ?_);rintro e w4 ⟨g',c',rfl,hc',hg1',hg2',ho4⟩;have hoW4:=((Oth.refl [] wr).alloc _).trans ho4 (Fr.nil _ _);have hrow4:=HK.out.2.2.1.oth hoW4 (by simp);have b1:=hrow4.cell (j:=m + 1) (x:=V (m + 1)) (by rw [List.getElem?_map,List.getElem?_range (by omega)];rfl);have b2:=hrow4.free (m + 1);have b3:=hrow4.lt;replace hoW4:=Lib.hid hoW4;replace hrow4:=Lib.hid hrow4;replace hc':=Lib.hid hc';clear ho4)
      go_roundw
      case rel=>
        have hs4:=hoW4.out.size
        have hl3:=HK.out.2.2.1.lt
        rw [World.size_alloc] at hg1'
        have oS:Oth [w3.heap.size] w4 (w4.setCell ⟨w3.heap.size,m + 1,none⟩ (.slice (some ⟨g',0,none⟩) 1 c')):=(Oth.refl _ _).setCell (.inl (by simp)) _
        refine ⟨m + 1,by omega,by go_num,(HK.out.1.trans hoW4.out (Fr.nil _ _)).setCell (.inr hsz) _,(HK.out.2.1.trans hoW4.out (Fr.nil _ _)).setCell (.inl (by simp)) _,_,rowV_set hrow4.out (m + 1) _,fun i h1 h2=>?_⟩
        by_cases e:i=m + 1
        · subst e
          exact ⟨g',c',if_pos rfl,oS.cell hc'.out (by simp;omega),by omega⟩
        · obtain ⟨g,c,u1,u2,u3⟩:=HK.out.2.2.2 i h1 (by omega)
          exact ⟨g,c,by rw [if_neg e];exact u1,oS.cell (hoW4.out.cell u2 (by simp)) (by simp;omega),u3⟩
      case measure=>simp [intOf];omega
    · obtain rfl:m=D.n:=by omega
      have t1:¬ (D.n:Int) < (D.n:Int):=by omega
      have hp9:=ho3.heap hp6.out (by have:=lt_of_block hp6.out;simp;omega)
      have p61:wr.cell? ⟨w1.heap.size,0,none⟩=some (.slice (some ⟨gw,0,none⟩) (D.n + 1) (D.n + 1)):=by rw [World.cell?,hp9];rfl
      have p62:wr.cell? ⟨w1.heap.size,1,none⟩=some (.slice (some ⟨gc,0,none⟩) (D.n + 1) (D.n + 1)):=by rw [World.cell?,hp9];rfl
      have l6:=lt_of_block hp9
      have hm2:∀ w',_:=fun w'=>run_make_row' (P:=Tryz.prog) 104 4 (.bool false) 1 Tryz.underlying104 info4 rfl .i64 .i64 (D.n + 1) (by omega) (by omega) w'
      simp only [Int.natCast_add,Int.natCast_one] at hm2
      have HK:=Lib.hid (And.intro ho (And.intro ho3 (And.intro hrow hV)))
      have hgp0:∀ A C E:Obj,((((wr.alloc A).alloc (.cells (madeCells #[.bool false] (D.n + 1)) 4)).alloc C).alloc E).cell? ⟨wr.heap.size + 1,0,none⟩=some (.bool false):=fun A C E=>by
        rw [World.cell?,(heap4' wr A _ C E).2.1];exact madeCells_zero _
      have hgp1:∀ A C E:Obj,((((wr.alloc A).alloc (.cells (madeCells #[.bool false] (D.n + 1)) 4)).alloc C).alloc E).frozen? ⟨wr.heap.size + 1,0,none⟩=false:=fun A C E=>by
        rw [World.frozen?,(heap4' wr A _ C E).2.1];rfl
      have HZ:=Lib.hid (new_done (cap:=cap) (gi:=w3.heap.size) hpm.out hn hlc HGO.out HGW.out HGC.out HK.out.1 HK.out.2.1 hsz HK.out.2.2.1.lt HK.out.2.2.1 HK.out.2.2.2)
      clear ho ho3 hrow hV hp9
      go_wp2_with fail
      go_ret2
      obtain ⟨z1,z2,z3,z4⟩:=HZ.out
      exact ⟨newL D o π ws cs cap wr.heap.size (wr.heap.size + 1) (wr.heap.size + 2) (wr.heap.size + 3) gw gc w3.heap.size go,rfl,⟨rfl,rfl⟩,rfl,rfl,rfl,rfl,rfl,z1,z2,z3,z4⟩
end
end Go.Proofs.YtnpdcjdmbkcpbaaGreat.Ins
namespace Go.Proofs.YtnpdcjdmbkcpbaaGreat.Ins
open Go.RowKit
theorem res_cell_tmp {P:Program} {fn:Func} {p u:Tmp} {ty:TypeId} (h:fn.results = #[.cell p ty,.tmp u]) (tmps:Array Value) (w:World) (g:Nat) (t:TypeId) (cs:Array Value) (fr:Nat × Nat) (d:TypeDesc)
    (hp:tmps.getD p undef = .pointer (some ⟨g,0,none⟩)) (hg:w.heap[g]?=some (.cells cs t fr))
    (hu:P.underlying ty=some d) (hd:(match d with | .struct _ | .array _ _=>true | _=>false)=true) (hi:(P.info? ty).map (·.size)=some cs.size) :
    (results fn tmps).run P w = .ok (.tuple #[.agg cs,tmps.getD u undef]) w:=by
  have hp':tmps[p]?.getD undef = .pointer (some ⟨g,0,none⟩):=by simpa using hp
  rw [results_cell_tmp h]
  simp [hp',asAddr,run_loadVar_row w g t ty cs fr d hg hu hd hi,Result.andThen]
theorem wrun_app {ws cs:List Nat} {n cap:Nat}:∀ (a b:List (Nat × Nat)) (s s1:WS),wrun ws cs n cap s a=some s1→wrun ws cs n cap s (a ++ b)=wrun ws cs n cap s1 b
  | [],b,s,s1,h=>by simp only [wrun,Option.some.injEq] at h;subst h;rfl
  | (k,id) :: a,b,s,s1,h=>by
    simp only [List.cons_append,wrun] at h ⊢
    split at h
    · rename_i h1;rw [if_pos h1];exact wrun_app a b _ _ h
    · simp at h
theorem take_at {α:Type} {l:List α} {m:Nat} {x:α} (h:l[m]?=some x):l.take (m + 1)=l.take m ++ [x]:=by
  rw [List.take_add_one,h];rfl
theorem drop_at {α:Type} {l:List α} {m:Nat} {x:α} (h:l[m]?=some x):l.take m ++ x :: l.drop (m + 1)=l:=by
  have h1:=(List.getElem?_eq_some_iff.1 h)
  obtain ⟨h2,h3⟩:=h1
  rw [← h3,← List.drop_eq_getElem_cons h2,List.take_append_drop]
theorem wrun_next {ws cs:List Nat} {n cap m k p:Nat} {code:List (Nat × Nat)} {s σ:WS} (h:wrun ws cs n cap s (code.take m)=some σ) (hm:code[m]?=some (k,p)) (hr:wright n k p) (hc:(wlegal n σ k p && decide (σ.words + wmore ws n k p≤cap))=true) :
    wrun ws cs n cap s (code.take (m + 1))=some (wdo ws cs n σ k p):=by
  rw [take_at hm,wrun_app _ _ _ _ h,wrun,if_pos (by rw [(wright_iff _ _ _).2 hr,Bool.true_and];exact hc)];rfl
theorem wrun_stop {ws cs:List Nat} {n cap m k p:Nat} {code:List (Nat × Nat)} {s σ:WS} (h:wrun ws cs n cap s (code.take m)=some σ) (hm:code[m]?=some (k,p)) (hc:(wlegal n σ k p && decide (σ.words + wmore ws n k p≤cap))=false) :
    wrun ws cs n cap s code=none:=by
  rw [← drop_at hm,wrun_app _ _ _ _ h,wrun,if_neg]
  intro h2
  simp only [Bool.and_eq_true,decide_eq_true_eq] at h2
  rw [h2.1.2] at hc
  simp at hc;omega
theorem wdo_words (ws cs:List Nat) (n:Nat) (s:WS) (k id:Nat):(wdo ws cs n s k id).words≤s.words + wmore ws n k id:=by
  unfold wdo
  split
  · exact Nat.le_refl _
  · split
    · exact Nat.sub_le _ _
    · split
      · exact Nat.le_refl _
      · split
        · exact Nat.le_refl _
        · exact Nat.sub_le _ _
theorem cl_kcost {n:Nat} {o π:Nat→Nat} (hP:Perm n o π) (cs:List Nat):∀ code:List (Nat × Nat),(∀ k p,(k,p)∈code→wright n k p)→smI (cl (fun i=>cs.getD (π i - 1) 0) (rawc o code))=(kcost cs code:Nat)
  | [],_=>rfl
  | (k,p) :: t,h=>by
    have ih:=cl_kcost hP cs t (fun k p hm=>h k p (.tail _ hm))
    have hr:=h k p (.head _)
    rw [show rawc o ((k,p) :: t)=(k,o p) :: rawc o t from rfl]
    simp only [cl,kcost]
    by_cases hk:k=1∨k=2
    · have hp:p≤n:=by rcases hr with ⟨h,_⟩ | ⟨_,h⟩ <;> omega
      rw [if_pos hk,if_pos hk,smI,ih,(hP.op p hp).2];simp
    · rw [if_neg hk,if_neg hk,ih];simp
def ErrS (e:Ending):Prop:=∃ k:Int,k≠0∧e = .returned (.tuple #[.agg #[.int .i64 0,.int .i64 0,.int .i64 0,.int .i64 0],.int .i64 k])
def RunR (ws cs:List Nat) (n cap:Nat) (code:List (Nat × Nat)) (e:Ending):Prop:=
  match wrun ws cs n cap (WS.zero n) code with
  | none=>ErrS e
  | some s=>if (s.em && decide (s.last=0) && decide (kcost cs code≤1099511627776))=true then ∃ x y:Int,e = .returned (.tuple #[.agg #[.int .i64 s.peak,.int .i64 (kcost cs code:Nat),.int .i64 x,.int .i64 y],.int .i64 0]) else ErrS e
theorem four_set {w:World} {b:Nat} {a0 a1 a2 a3 x0 x1 x2 x3:Value} {t:TypeId} (h:w.heap[b]?=some (.cells #[a0,a1,a2,a3] t (0,0))) :
    ((((w.setCell ⟨b,0,none⟩ x0).setCell ⟨b,1,none⟩ x1).setCell ⟨b,2,none⟩ x2).setCell ⟨b,3,none⟩ x3).heap[b]?=some (.cells #[x0,x1,x2,x3] t (0,0)):=by
  simp [World.setCell,Array.getElem?_modify,h]
theorem four_oth {S:List Nat} {a w:World} {b:Nat} {x0 x1 x2 x3:Value} (h:Oth S a w) (hb:a.heap.size≤b):Oth S a ((((w.setCell ⟨b,0,none⟩ x0).setCell ⟨b,1,none⟩ x1).setCell ⟨b,2,none⟩ x2).setCell ⟨b,3,none⟩ x3):=
  (((h.setCell (.inr hb) _).setCell (.inr hb) _).setCell (.inr hb) _).setCell (.inr hb) _
theorem four_at {w:World} {b:Nat} {x0 x1 x2 x3:Value} {t:TypeId} (h:w.heap[b]?=some (.cells #[x0,x1,x2,x3] t (0,0))) :
    w.cell? ⟨b,0,none⟩=some x0∧w.cell? ⟨b,1,none⟩=some x1∧w.cell? ⟨b,2,none⟩=some x2∧w.cell? ⟨b,3,none⟩=some x3∧(∀ j,w.frozen? ⟨b,j,none⟩=false)∧b < w.heap.size:=by
  refine ⟨?_,?_,?_,?_,fun j=>?_,lt_of_block h⟩
  any_goals (rw [World.cell?,h];rfl)
  rw [World.frozen?,h];rfl
theorem words_tail {L:SLy} {σ:WS} {w:World} (h:Stt L σ w) (hw:∀ p,p≤L.n→L.ws.getD p 0≤65536):∃ l,RI (some ⟨L.gw,1,none⟩) L.n L.n l w:=by
  have hn:=h.n1
  refine ⟨(List.range L.n).map fun i=>((L.ws.getD (L.π (i + 1)) 0:Nat):Int),by simp,⟨Nat.le_refl _,by unfold maxLen;omega⟩,fun k hk=>?_,fun i k hi=>?_⟩
  · obtain ⟨i,h1,rfl⟩:=List.mem_map.1 hk
    have h2:=h.pm.po (i + 1) (by have:=List.mem_range.1 h1;omega)
    have:=hw _ h2.1
    omega
  · rw [List.getElem?_map] at hi
    have hil:i < L.n:=by
      rcases Nat.lt_or_ge i L.n with h1 | h1
      · exact h1
      · rw [List.getElem?_eq_none (by simpa using h1)] at hi;simp at hi
    rw [List.getElem?_range hil] at hi
    simp only [Option.map_some,Option.some.injEq] at hi
    subst hi
    have h2:=h.pm.po (i + 1) (by omega)
    have h3:=h.rd.ws _ h2.1
    rw [h2.2,Nat.add_comm i 1] at h3
    exact ⟨L.gw,1,rfl,by rw [Nat.add_comm i 1];exact h3⟩
section
variable {D:NetD} {o π:Nat→Nat} {w:World}
set_option maxRecDepth 100000 in
set_option maxHeartbeats 8000000 in
theorem run_any {ws cs:List Nat} {cap g c:Nat} {code:List (Nat × Nat)} (hc:Chn D o π) (hO:OrdC D o) (hL:LosC D o) (hPr:PriC D o ws cs) (hlc:cs.length=D.n) (hr:D.R w)
    (hcode:Row 63 2 g code.length c (cds (rawc o code)) w) (hcl:code.length≤65536) (hcr:∀ k p,(k,p)∈code→wright D.n k p) (hcap:cap≤4096) (hwb:∀ p,p≤D.n→ws.getD p 0≤65536) (hcb:∀ p,p < D.n→cs.getD p 0≤1099511627776) :
    Calls Tryz.prog 26 #[D.val,.slice (some ⟨g,0,none⟩) code.length c,.int .i64 cap] w fun e w'=>RunR ws cs D.n cap code e∧Oth [] w w':=by
  obtain ⟨gN,oN,hb,hnd⟩:=hc.nodes hr
  have hn:=hc.n1
  have hpm:=Lib.hid hc.pm
  have hval:D.val = .agg #[.slice D.i.b D.i.n D.i.c,.slice (some ⟨gN,oN,none⟩) D.n D.c]:=by unfold NetD.val;rw [hb];rfl
  have NN:Hid (∀ w',Oth [] w w'→Calls Tryz.prog 15 #[D.val,.int .i64 cap] w' fun e w2=>∃ L,e = .returned (.tuple #[.pointer (some ⟨L.q,0,none⟩),.int .i64 0])∧(L.cw=D.n + 1∧L.cc=D.n + 1)∧L.ws=ws∧L.cs=cs∧L.cap=cap∧L.o=o∧L.π=π∧Stt L (WS.zero D.n) w2∧Oth [] w' w2∧(∀ k,k∈L.W→w'.heap.size≤k)∧(∀ p,p < D.n→w2.cell? ⟨L.gc,o (p + 1),none⟩=some (.int .i64 (cs.getD p 0:Nat)))):=fun w' ho=>new_any hc hO hL hPr hlc (hr.oth ho)
  rw [hval] at NN ⊢
  have HBX:Hid (∀ w',Oth [] ((w.alloc (.cells #[.slice D.i.b D.i.n D.i.c,.slice (some ⟨gN,oN,none⟩) D.n D.c] 26)).alloc (.cells #[.int .i64 0,.int .i64 0,.int .i64 0,.int .i64 0] 30)) w'→Oth [] w w'):=fun w' ho=>(((Oth.refl _ _).alloc _).alloc _).trans ho (Fr.nil _ _)
  have HB30:Hid (((w.alloc (.cells #[.slice D.i.b D.i.n D.i.c,.slice (some ⟨gN,oN,none⟩) D.n D.c] 26)).alloc (.cells #[.int .i64 0,.int .i64 0,.int .i64 0,.int .i64 0] 30)).heap[w.heap.size + 1]?=some (.cells #[.int .i64 0,.int .i64 0,.int .i64 0,.int .i64 0] 30 (0,0))):=by
    have h9:=heap_alloc_new (w.alloc (.cells #[.slice D.i.b D.i.n D.i.c,.slice (some ⟨gN,oN,none⟩) D.n D.c] 26)) (.cells #[.int .i64 0,.int .i64 0,.int .i64 0,.int .i64 0] 30)
    rw [World.size_alloc] at h9;exact h9
  have HCR:Hid (∀ k id,(k,id)∈rawc o code→wright D.n k id):=fun k id hm=>by
    obtain ⟨x,h1,h2⟩:=List.mem_map.1 hm
    cases h2
    have h3:=hcr x.1 x.2 h1
    rcases h3 with ⟨h4,h5⟩ | ⟨h4,h5,h6⟩
    · exact .inl ⟨h4,by rw [h5];exact hc.pm.o0⟩
    · exact .inr ⟨h4,hc.pm.opos h5 h6,(hc.pm.op _ h6).1⟩
  have hrl:(rawc o code).length=code.length:=rawc_length o code
  have hglt:=hcode.lt
  have HCODE:=Lib.hid hcode
  have HWB:=Lib.hid hwb
  have HCB:=Lib.hid hcb
  have HC0:=Lib.hid hcr
  have HKC:=Lib.hid (cl_kcost hc.pm cs code hcr)
  clear hc hO hL hPr hr hb hnd hval hcode hwb hcb hcr
  have NK:Hid (∀ w',Oth [] w w'→Calls Tryz.prog 34 #[.slice (some ⟨g,0,none⟩) code.length c] w' fun e w2=>e = .returned (.int .i64 0)∧Oth [] w' w2):=fun w' ho=>by
    have h9:=ccheck_any (n:=D.n) (code:=rawc o code) (g:=g) (c:=c) (w:=w') (by rw [hrl];exact HCODE.out.oth ho (by simp)) (by omega) (by omega) HCR.out
    rwa [hrl] at h9
  obtain ⟨len,hlen⟩:∃ len,len=code.length:=⟨_,rfl⟩
  have HLEN:=Lib.hid hlen
  rw [← hlen] at NK hcl ⊢
  clear hlen hrl
  go_enter Tryz.func26,Tryz.ntmps26
  go_wp2_with (first | (go_at_call 34;(with_reducible refine (NK.out _ (HBX.out _ ho1.out)).mono ?_);rintro e w2 ⟨rfl,ho2⟩;replace ho2:=Lib.hid ho2) | (go_at_call 15;(with_reducible refine (NN.out _ (((Oth.refl [] w).alloc _).alloc _)).mono ?_);rintro e w1 ⟨L,rfl,q0,q1,q2,q3,q4,q5,hs1,ho1,hW,hgc⟩;replace hs1:=Lib.hid hs1;replace ho1:=Lib.hid ho1;replace hgc:=Lib.hid hgc))
  obtain rfl:=q1
  obtain rfl:=q2
  obtain rfl:=q3
  obtain rfl:=q4
  obtain rfl:=q5
  have hLn:L.n=D.n:=hlc
  have HS2:=Lib.hid (hs1.out.oth ho2.out)
  have hW2:Hid (∀ k,k∈L.W→w.heap.size + 2≤k):=fun k hk=>by
    have h9:=hW k hk
    simp only [World.size_alloc] at h9
    omega
  have HB2:Hid (w2.heap[w.heap.size + 1]?=some (.cells #[.int .i64 0,.int .i64 0,.int .i64 0,.int .i64 0] 30 (0,0))):=(ho1.out.trans ho2.out (Fr.nil _ _)).heap HB30.out (by simp)
  have HO2:Hid (Oth [] w w2):=HBX.out _ (ho1.out.trans ho2.out (Fr.nil _ _))
  have HGC2:Hid (∀ p,p < D.n→w2.cell? ⟨L.gc,L.o (p + 1),none⟩=some (.int .i64 (L.cs.getD p 0:Nat))):=fun p hp=>ho2.out.cell (hgc.out p hp) (by simp)
  have HWN:Hid (∀ k,k < w.heap.size + 2→k∉L.W):=fun k hk e=>by have:=hW2.out k e;omega
  clear hs1 ho1 ho2 hgc hW NN NK HB30 HBX
  go_loopw [34] (fun x wr=>∃ (m:Nat) (σ:WS),m≤len∧x = .int .i64 m∧Stt L σ wr∧WI L.ws L.n σ∧Oth L.W w2 wr∧wrun L.ws L.cs L.n L.cap (WS.zero L.n) (code.take m)=some σ∧σ.words≤L.cap∧σ.peak≤L.cap) (fun x _=>len - (intOf x).toNat)
  case atStart=>exact ⟨0,WS.zero L.n,by omega,rfl,by rw [hLn];exact HS2.out,WI.zero _ (by omega),Oth.refl _ _,rfl,Nat.zero_le _,Nat.zero_le _⟩
  case round=>
    obtain ⟨m,σ,hm,rfl,hs,hi,ho,hrun,hwo,hpk⟩:=hrel
    by_cases hlt:m < len
    · have t1:(m:Int) < len:=by omega
      obtain ⟨k,id,h1,h2,h3⟩:=cds_at (rawc L.o code) m (by rw [rawc_length,← HLEN.out];exact hlt)
      have hcm:∃ p,code[m]?=some (k,p)∧id=L.o p:=by
        unfold rawc at h1
        rw [List.getElem?_map] at h1
        cases hq:code[m]? with
        | none=>rw [hq] at h1;simp at h1
        | some x=>
          rw [hq] at h1
          simp only [Option.map_some,Option.some.injEq,Prod.mk.injEq] at h1
          exact ⟨x.2,by rw [← h1.1],h1.2.symm⟩
      obtain ⟨p,hp1,rfl⟩:=hcm
      have hwr:wright L.n k p:=by rw [hLn];exact HC0.out k p (List.mem_of_getElem? hp1)
      have c0:=ho.cell (HO2.out.cell (HCODE.out.cell h2) (by simp)) (HWN.out _ (by show g < _;omega))
      have c1:=ho.cell (HO2.out.cell (HCODE.out.cell h3) (by simp)) (HWN.out _ (by show g < _;omega))
      have c2:=World.block_lt_of_cell? _ _ c0
      have e1:IntKind.i64.wrap ((m:Int) + 1)=(m:Int) + 1:=IntWalk.i64_in _ (by omega)
      have ND:Hid (∀ w',Oth [] wr w'→Calls Tryz.prog 16 #[.pointer (some ⟨L.q,0,none⟩),.agg #[.int .i64 k,.int .i64 (L.o p:Nat)]] w' (Do2Post L σ k p w')):=fun w' ho=>do2_any (hs.oth ho) hi (by rw [hLn];exact HWB.out) hwr hcap (by omega) (by omega)
      have hbr:=ho.heap HB2.out (HWN.out _ (by omega))
      have HH:=Lib.hid (And.intro hs (And.intro hi (And.intro ho (And.intro hrun (And.intro hwo (And.intro hpk (And.intro hp1 (And.intro hwr hbr))))))))
      unfold Do2Post at ND
      by_cases hcond:(wlegal L.n σ k p && decide (σ.words + wmore L.ws L.n k p≤L.cap))=true
      · simp only [hcond,if_true] at ND
        have HCO:=Lib.hid hcond
        clear hs hi ho hrun hwo hpk h1 h2 h3 hp1 hcond hwr hbr
        generalize hid9:L.o p=id at *
        go_wp2_with (go_at_call 16;(with_reducible refine (ND.out _ ((Oth.refl [] wr).alloc _)).mono ?_);rintro e w3 ⟨rfl,hs3,ho3⟩;replace hs3:=Lib.hid hs3;replace ho3:=Lib.hid ho3)
        go_roundw
        case rel=>
          obtain ⟨u1,u2,u3,u4,u5,u6,u7,u8,u9⟩:=HH.out
          have hcc:=HCO.out
          simp only [Bool.and_eq_true,decide_eq_true_eq] at hcc
          refine ⟨m + 1,wdo L.ws L.cs L.n σ k p,by omega,by go_num,hs3.out,u2.step u8 hcc.1,?_,wrun_next u4 u7 u8 HCO.out,?_,?_⟩
          · exact (u3.alloc _).trans ho3.out (fun k hk=>.inl hk)
          · have:=wdo_words L.ws L.cs L.n σ k p;omega
          · rw [wdo_peek];omega
        case measure=>simp [intOf];omega
      · have hcf:(wlegal L.n σ k p && decide (σ.words + wmore L.ws L.n k p≤L.cap))=false:=by simpa using hcond
        simp only [hcf,Bool.false_eq_true,if_false] at ND
        have HCO:=Lib.hid hcf
        clear hs hi ho hrun hwo hpk h1 h2 h3 hp1 hcond hwr hcf
        have hbl:=lt_of_block hbr
        generalize hid9:L.o p=id at *
        go_wp2_with fail
        go_at_call 16
        (with_reducible refine (ND.out _ ((Oth.refl [] wr).alloc _)).mono ?_)
        rintro e w3 ⟨⟨x,hx,rfl⟩,ho3⟩
        have hx':(x != 0)=true:=by simp [hx]
        have hb3:=(((Oth.refl [] wr).alloc _).trans ho3 (Fr.nil _ _)).heap hbr (by simp)
        have hb4:=lt_of_block hb3
        obtain ⟨z0,z1,z2,z3,z4,z5⟩:=four_at hb3
        replace ho3:=Lib.hid ho3
        replace hb3:=Lib.hid hb3
        clear hbr hbl
        go_wp2_with fail
        refine bodyPost_ret (res_cell_tmp rfl _ _ (w.heap.size + 1) 30 #[.int .i64 0,.int .i64 0,.int .i64 0,.int .i64 0] (0,0) _ rfl (four_set hb3.out) Tryz.underlying30 rfl (by kernel_rfl)) rfl ⟨?_,?_⟩
        · obtain ⟨u1,u2,u3,u4,u5,u6,u7,u8,u9⟩:=HH.out
          have h9:=wrun_stop u4 u7 HCO.out
          rw [hLn] at h9
          unfold RunR
          rw [h9]
          exact ⟨x,hx,rfl⟩
        · have h9:=HO2.out.trans HH.out.2.2.1 (fun k hk=>.inr (by have:=hW2.out k hk;omega))
          exact four_oth ((h9.alloc _).trans ho3.out (Fr.nil _ _)) (by omega)
    · obtain rfl:m=len:=by omega
      have t1:¬ (m:Int) < m:=by omega
      have htk:code.take m=code:=by rw [HLEN.out,List.take_length]
      rw [htk] at hrun
      have hbr:=ho.heap HB2.out (HWN.out _ (by omega))
      have HOW:Hid (Oth [] w wr):=HO2.out.trans ho (fun k hk=>.inr (by have:=hW2.out k hk;omega))
      have NW:Hid (∀ w',Oth [] wr w'→Calls Tryz.prog 20 #[.pointer (some ⟨L.q,0,none⟩)] w' fun e w2=>e = .returned (.bool (σ.em && decide (σ.last=0)))∧Oth [] w' w2):=fun w' ho=>whole_any (hs.oth ho) hi.ln
      have hrun':=hrun
      rw [hLn] at hrun'
      have HRUN:=Lib.hid hrun'
      obtain ⟨bw,hbw⟩:∃ bw,bw=(σ.em && decide (σ.last=0)):=⟨_,rfl⟩
      rw [← hbw] at NW
      have HBW:=Lib.hid hbw
      obtain ⟨z0,z1,z2,z3,z4,z5⟩:=four_at hbr
      have HBR:=Lib.hid hbr
      have HS:=Lib.hid (And.intro hs hi)
      clear hs hi ho hrun hrun' hbr hbw htk hwo hpk
      cases bw
      · go_wp2_with (go_at_call 20;(with_reducible refine (NW.out _ (Oth.refl _ _)).mono ?_);rintro e w3 ⟨rfl,ho3⟩;have hb3:=ho3.heap HBR.out (by simp);clear z0 z1 z2 z3 z4 z5;obtain ⟨z0,z1,z2,z3,z4,z5⟩:=four_at hb3;replace hb3:=Lib.hid hb3;replace ho3:=Lib.hid ho3)
        refine bodyPost_ret (res_cell_tmp rfl _ _ (w.heap.size + 1) 30 #[.int .i64 0,.int .i64 0,.int .i64 0,.int .i64 0] (0,0) _ rfl (four_set hb3.out) Tryz.underlying30 rfl (by kernel_rfl)) rfl ⟨?_,?_⟩
        · unfold RunR
          rw [HRUN.out]
          simp only
          rw [← HBW.out,if_neg (by simp)]
          exact ⟨28,by decide,rfl⟩
        · exact four_oth (HOW.out.trans ho3.out (Fr.nil _ _)) (by omega)
      · have hrl:(rawc L.o code).length=m:=by rw [rawc_length,← HLEN.out]
        have NC:Hid (∀ w',Oth [] wr w'→Calls Tryz.prog 68 #[.slice (some ⟨g,0,none⟩) m c,.slice (some ⟨L.gc,0,none⟩) (L.n + 1) L.cc] w' fun e w2=>IntE (kcost L.cs code:Nat) (decide (((kcost L.cs code:Nat):Int)≤1099511627776)) e∧Oth [] w' w2):=fun w' ho=>by
          have hw':=HS.out.1.oth ho
          have h9:=ccost_any (w:=w') (g:=g) (c:=c) (gc:=L.gc) (cc:=L.cc) (n:=L.n) (raw:=rawc L.o code) (f:=fun i=>L.cs.getD (L.π i - 1) 0) (by rw [hrl,← hrl];exact HCODE.out.oth (HOW.out.trans ho (Fr.nil _ _)) (by simp) |> fun h=>by rwa [← rawc_length L.o code] at h) (by omega) (by omega) (by rw [hLn];exact HCR.out)
            (fun i h1 h2=>by
              have h3:=hw'.pm.po i h2
              have h4:=hw'.pm.ppos h1 h2
              have h5:=hw'.rd.cs (L.π i - 1) (by omega)
              rw [show L.π i - 1 + 1=L.π i by omega,h3.2] at h5
              exact h5)
            (fun i h1 h2=>by
              have h3:=hw'.pm.po i h2
              have h4:=hw'.pm.ppos h1 h2
              exact HCB.out _ (by omega))
          rw [HKC.out,hrl] at h9
          exact h9
        have NCT:Hid (∀ w',Oth [] wr w'→Calls Tryz.prog 70 #[.slice (some ⟨g,0,none⟩) m c,.int .i64 2] w' fun e w2=>(∃ x:Int,e = .returned (.int .i64 x))∧Oth [] w' w2):=fun w' ho=>by
          have h9:=ccount_any (w:=w') (g:=g) (c:=c) (code:=rawc L.o code) (HCODE.out.oth (HOW.out.trans ho (Fr.nil _ _)) (by simp) |> fun h=>by rwa [← rawc_length L.o code] at h) (by omega) 2
          rw [hrl] at h9
          exact h9
        have NM:Hid (∀ w',Oth [] wr w'→Calls Tryz.prog 69 #[.slice (some ⟨L.gw,1,none⟩) L.n L.n] w' fun e w2=>(∃ x:Int,e = .returned (.int .i64 x))∧Oth [] w' w2):=fun w' ho=>by
          obtain ⟨l,hl⟩:=words_tail (HS.out.1.oth ho) (by rw [hLn];exact HWB.out)
          exact smax_any hl
        have HQ:Hid (∀ w',Oth [] wr w'→w'.cell? ⟨L.q,0,none⟩=some (.slice (some ⟨L.gw,0,none⟩) (L.n + 1) (L.n + 1))∧w'.cell? ⟨L.q,1,none⟩=some (.slice (some ⟨L.gc,0,none⟩) (L.n + 1) L.cc)∧w'.cell? ⟨L.q,13,none⟩=some (.int .i64 σ.peak)∧L.q < w'.heap.size):=fun w' ho=>by
          obtain ⟨a0,a1,a2,a3,a4,a5,a6,a7,a8,a9,a10,a11,a12,a13,hq,fz⟩:=(HS.out.1.oth ho).at_
          rw [q0.1,← hLn] at a0
          exact ⟨a0,a1,a13,hq⟩
        obtain ⟨kc,hkc⟩:∃ kc:Nat,kc=kcost L.cs code:=⟨_,rfl⟩
        have HKC9:=Lib.hid hkc
        rw [← hkc] at NC
        clear hkc hrl
        unfold IntE at NC
        have hnn:1≤L.n∧L.n≤64:=by omega
        have t5:(1:Int)≤(L.n:Int) + 1:=by omega
        have t6:¬ L.n=0:=by omega
        have t7:(0:Int)≤(L.n:Int):=by omega
        replace hLn:=Lib.hid hLn
        replace q0:=Lib.hid q0
        replace hlc:=Lib.hid hlc
        by_cases hb:((kc:Nat):Int)≤1099511627776
        · rw [decide_eq_true hb] at NC
          simp only [if_true] at NC
          have HB9:=Lib.hid hb
          clear hb
          go_wp2_with (first
            | (go_at_call 20;(with_reducible refine (NW.out _ (Oth.refl _ _)).mono ?_);rintro e w3 ⟨rfl,ho3⟩;obtain ⟨a0,a1,a13,hq⟩:=HQ.out _ ho3;replace ho3:=Lib.hid ho3)
            | (go_at_call 68;(with_reducible refine (NC.out _ ho3.out).mono ?_);rintro e w4 ⟨rfl,ho4⟩;replace ho3:=Lib.hid (ho3.out.trans ho4 (Fr.nil _ _));clear a0 a1 a13 hq ho4;obtain ⟨a0,a1,a13,hq⟩:=HQ.out _ ho3.out))
          have KEEP:Hid (∀ w',Oth [] w4 w'→Oth [] w4 w'∧w'.cell? ⟨L.q,0,none⟩=some (.slice (some ⟨L.gw,0,none⟩) (L.n + 1) (L.n + 1))∧w'.cell? ⟨L.q,13,none⟩=some (.int .i64 σ.peak)):=fun w' ho=>⟨ho,(HQ.out _ (ho3.out.trans ho (Fr.nil _ _))).1,(HQ.out _ (ho3.out.trans ho (Fr.nil _ _))).2.2.1⟩
          first | (go_region_held3 (fun w'=>Oth [] w4 w'∧w'.cell? ⟨L.q,0,none⟩=some (.slice (some ⟨L.gw,0,none⟩) (L.n + 1) (L.n + 1))∧w'.cell? ⟨L.q,13,none⟩=some (.int .i64 σ.peak)) (first | exact KEEP.out _ (Oth.refl _ _).drew | exact KEEP.out _ ((Oth.refl _ _).drew.trans ho9 (Fr.nil _ _))) (first | (go_at_call 69;(with_reducible refine (NM.out _ (ho3.out.trans (Oth.refl _ _).drew (Fr.nil _ _))).mono ?_);rintro e w' ⟨⟨x9,rfl⟩,ho9⟩))) | fail
          rename_i w5 hh
          have hb3:=(ho3.out.trans hh.1 (Fr.nil _ _)).heap HBR.out (by simp)
          have ho5:=Lib.hid (ho3.out.trans hh.1 (Fr.nil _ _))
          clear z0 z1 z2 z3 z4 z5 a0 a1 a13 hq
          obtain ⟨a0,a1,a13,hq⟩:=HQ.out _ ho5.out
          obtain ⟨z0,z1,z2,z3,z4,z5⟩:=four_at hb3
          replace hb3:=Lib.hid hb3
          clear hh
          go_wp2_with fail
          all_goals
            go_region_with (go_at_call 70;(with_reducible refine (NCT.out _ (ho5.out.drew)).mono ?_);rintro e w9 ⟨⟨x,rfl⟩,ho9⟩;have hb9:=(ho5.out.drew.trans ho9 (Fr.nil _ _)).heap HBR.out (by simp);replace ho9:=Lib.hid ho9;have y0:=hb9;replace hb9:=Lib.hid hb9;obtain ⟨y0,y1,y2,y3,y4,y5⟩:=four_at y0;obtain ⟨s0,s1,s13,sq⟩:=HQ.out _ (ho5.out.drew.trans ho9.out (Fr.nil _ _)))
          all_goals
            go_wp2_with fail
          all_goals
            refine bodyPost_ret (res_cell_tmp rfl _ _ (w.heap.size + 1) 30 #[.int .i64 σ.peak,.int .i64 kc,.int .i64 _,.int .i64 _] (0,0) _ rfl (four_set hb9.out) Tryz.underlying30 rfl (by kernel_rfl)) rfl ⟨?_,?_⟩
            · unfold RunR
              rw [HRUN.out]
              simp only
              rw [← HBW.out,← HKC9.out,if_pos (by have:=HB9.out;simp;omega)]
              exact ⟨_,_,rfl⟩
            · exact four_oth (HOW.out.trans (ho5.out.drew.trans ho9.out (Fr.nil _ _)) (Fr.nil _ _)) (by omega)
        · rw [decide_eq_false hb] at NC
          simp only [Bool.false_eq_true,if_false] at NC
          have hgt:1099511627776 < ((kc:Nat):Int):=by omega
          have HB9:=Lib.hid hgt
          clear hb hgt
          go_wp2_with (go_at_call 20;(with_reducible refine (NW.out _ (Oth.refl _ _)).mono ?_);rintro e w3 ⟨rfl,ho3⟩;obtain ⟨a0,a1,a13,hq⟩:=HQ.out _ ho3;replace ho3:=Lib.hid ho3)
          go_at_call 68
          (with_reducible refine (NC.out _ ho3.out).mono ?_)
          rintro e w4 ⟨⟨x,hx,rfl⟩,ho4⟩
          have hx':(x != 0)=true:=by simp [hx]
          have hb3:=(ho3.out.trans ho4 (Fr.nil _ _)).heap HBR.out (by simp)
          clear z0 z1 z2 z3 z4 z5 a0 a1 a13 hq
          obtain ⟨z0,z1,z2,z3,z4,z5⟩:=four_at hb3
          replace hb3:=Lib.hid hb3
          replace ho4:=Lib.hid ho4
          go_wp2_with fail
          refine bodyPost_ret (res_cell_tmp rfl _ _ (w.heap.size + 1) 30 #[.int .i64 0,.int .i64 0,.int .i64 0,.int .i64 0] (0,0) _ rfl (four_set hb3.out) Tryz.underlying30 rfl (by kernel_rfl)) rfl ⟨?_,?_⟩
          · unfold RunR
            rw [HRUN.out]
            simp only
            rw [← HBW.out,← HKC9.out,decide_eq_false (by have:=HB9.out;omega),if_neg (by simp)]
            exact ⟨x,hx,rfl⟩
          · exact four_oth ((HOW.out.trans ho3.out (Fr.nil _ _)).trans ho4.out (Fr.nil _ _)) (by omega)
end
end Go.Proofs.YtnpdcjdmbkcpbaaGreat.Ins
