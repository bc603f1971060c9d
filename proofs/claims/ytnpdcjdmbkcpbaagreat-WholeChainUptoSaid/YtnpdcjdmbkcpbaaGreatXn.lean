/- The walk of roots.begin over contracts of Order and Loss. The walk of roots.Lower over contracts of Order and Loss. What lowering writes is right; the walk of chain.Plan where there is no way; the walk of roots.Cost. The walk of price.Chain over contracts of price.Of, Chain and Order. No condition. -/
import Derived.Test.YtnpdcjdmbkcpbaaGreatXj
import Derived.Test.YtnpdcjdmbkcpbaaGreatXm
set_option linter.unusedVariables false
set_option linter.unusedSimpArgs false
namespace Go.Proofs.YtnpdcjdmbkcpbaaGreat.Ins
open Go.RowKit
theorem heap4 (w:World) (X A B C:Obj):((((w.alloc X).alloc A).alloc B).alloc C).heap[w.heap.size]?=some X∧((((w.alloc X).alloc A).alloc B).alloc C).heap[w.heap.size + 1]?=some A∧((((w.alloc X).alloc A).alloc B).alloc C).heap[w.heap.size + 2]?=some B∧((((w.alloc X).alloc A).alloc B).alloc C).heap[w.heap.size + 3]?=some C∧Oth [] w ((((w.alloc X).alloc A).alloc B).alloc C):=by
  have oA:Oth [] (w.alloc X) ((((w.alloc X).alloc A).alloc B).alloc C):=(((Oth.refl _ _).alloc _).alloc _).alloc _
  have oB:Oth [] ((w.alloc X).alloc A) ((((w.alloc X).alloc A).alloc B).alloc C):=((Oth.refl _ _).alloc _).alloc _
  have oC:Oth [] (((w.alloc X).alloc A).alloc B) ((((w.alloc X).alloc A).alloc B).alloc C):=(Oth.refl _ _).alloc _
  have h1:=heap_alloc_new (w.alloc X) A
  have h2:=heap_alloc_new ((w.alloc X).alloc A) B
  have h3:=heap_alloc_new (((w.alloc X).alloc A).alloc B) C
  simp only [World.size_alloc] at h1 h2 h3
  exact ⟨oA.heap (heap_alloc_new w X) (by simp),oB.heap h1 (by simp),oC.heap h2 (by simp),h3,((((Oth.refl _ _).alloc _).alloc _).alloc _).alloc _⟩
theorem cutW {α:Type} {Q:α→World→Prop} {a:α} {W:World} (R:World→Prop) (h1:R W) (h2:∀ W',R W'→Q a W'):Q a W:=h2 W h1
structure BegX (inn nod ord las los:Value) (n:Nat) (w3:World) (gf gk gp:Nat) (W:World):Prop where
  hb:W.heap[w3.heap.size]?=some (.cells #[inn,nod,ord,las,.slice (some ⟨gf,0,none⟩) (n + 1) (n + 1),los,.slice (some ⟨gk,0,none⟩) (n + 1) (n + 1),.slice (some ⟨gp,0,none⟩) (n + 1) (n + 1),.slice none 0 0] 153 (0,0))
  hf:W.heap[gf]?=some (.cells (madeCells #[.int .i64 0] (n + 1)) 3 (0,0))
  hk:W.heap[gk]?=some (.cells (madeCells #[.bool false] (n + 1)) 4 (0,0))
  hp:W.heap[gp]?=some (.cells (madeCells #[.bool false] (n + 1)) 4 (0,0))
  ho:Oth [] w3 W
  hd:(w3.heap.size < gf∧w3.heap.size < gk∧w3.heap.size < gp)∧gf≠gk∧gf≠gp∧gk≠gp
section
variable {D:NetD} {o π:Nat→Nat} {w:World}
def begL (D:NetD) (o π:Nat→Nat) (q gk gp go gl gf gN oN:Nat):LLy:=⟨q,gk,D.n + 1,gp,D.n + 1,go,D.n,gl,D.n + 1,gf,D.n + 1,gN,oN,D.c,D.n,.slice D.i.b D.i.n D.i.c,o,π⟩
theorem beg_done {w3 W wr:World} {gf gk gp go gl gN oN:Nat} (hpm:Perm D.n o π) (hn:1≤D.n∧D.n≤64)
    (HB:BegX (.slice D.i.b D.i.n D.i.c) (.slice (some ⟨gN,oN,none⟩) D.n D.c) (.slice (some ⟨go,0,none⟩) D.n D.n) (.slice (some ⟨gl,0,none⟩) (D.n + 1) (D.n + 1)) (.int .i64 (o D.n:Nat)) D.n w3 gf gk gp W)
    (HND:∀ p,p < D.n→∃ gi oi ci,w.cell? ⟨gN,oN + (o (p + 1) - 1) * 10 + 8,none⟩=some (.slice (some ⟨gi,oi,none⟩) 1 ci)∧w.cell? ⟨gi,oi,none⟩=some (.int .i64 (o p:Nat)))
    (hw3:Oth [] w w3) (hgo:∀ p,p < D.n→w3.cell? ⟨go,p,none⟩=some (.int .i64 (o (p + 1):Nat))) (hgl:∀ p,p≤D.n→w3.cell? ⟨gl,o p,none⟩=some (.int .i64 (usr D.n p:Nat)))
    (ho3:Oth [] w3 wr) (ho:Oth [gf] W wr) (hrow:Nms gf (fun i=>if 0≤π i∧π i < D.n then ((π i:Nat):Int) + 1 else 0) (D.n + 1) (D.n + 1) wr) :
    ∃ N,(∀ k,k < w.heap.size→N k)∧LW (begL D o π w3.heap.size gk gp go gl gf gN oN) N w (fun _=>false) LS.start (wr.setCell ⟨gp,0,none⟩ (.bool true)):=by
  obtain ⟨⟨d1,d2,d3⟩,d4,d5,d6⟩:=HB.hd
  have g1:=World.block_lt_of_cell? _ _ (hgo 0 (by omega))
  have g2:=World.block_lt_of_cell? _ _ (hgl 0 (by omega))
  simp only at g1 g2
  have hs3:=hw3.size
  have hsr:=ho3.size
  have q1:=ho.heap HB.hb (by simp;omega)
  have q2:=ho.heap HB.hk (by simp;omega)
  have q3:=ho.heap HB.hp (by simp;omega)
  have l1:=lt_of_block q1
  have l2:=lt_of_block q2
  have l3:=lt_of_block q3
  have oF:Oth [] w3 (wr.setCell ⟨gp,0,none⟩ (.bool true)):=ho3.setCell (.inr (by show w3.heap.size≤gp;omega)) _
  have oG:Oth [gp] wr (wr.setCell ⟨gp,0,none⟩ (.bool true)):=(Oth.refl _ _).setCell (.inl (by simp)) _
  have oW:Oth [] w (wr.setCell ⟨gp,0,none⟩ (.bool true)):=hw3.trans oF (Fr.nil _ _)
  have bp:=bls_row q3 (by unfold maxLen;omega) (f:=fun _=>false) (fun _ _=>rfl)
  have bk:=bls_row q2 (by unfold maxLen;omega) (f:=fun _=>false) (fun _ _=>rfl)
  refine ⟨fun k=>k < w.heap.size∨k=go∨k=gl∨k=gf,fun k hk=>.inl hk,⟨.slice none 0 0,?_,⟨rfl,.inl ⟨rfl,rfl⟩⟩,fun g hg=>by cases hg⟩,?_,?_,?_,⟨?_,?_,?_,?_,?_,?_⟩,⟨?_,?_,?_⟩,oW,hpm,hn⟩
  · exact oG.heap q1 (show w3.heap.size∉[gp] by simp;omega)
  · refine (bp.set 0 true).ext fun i hi=>?_
    show on (fun _=>false) 0 true i=decide (π i=0)
    unfold on
    by_cases e:i=0
    · rw [if_pos e,e,hpm.p0];rfl
    · rw [if_neg e]
      have:=hpm.ppos (p:=i) (by omega) (by show i≤D.n;have:i < D.n + 1:=hi;omega)
      exact (decide_eq_false (by omega)).symm
  · exact bk.oth oG (show gk∉[gp] by simp;omega)
  · refine ⟨fun p hp=>oF.cell (hgo p hp) (by simp),fun p hp=>oF.cell (hgl p hp) (by simp),fun p hp=>?_,fun p hp=>?_,⟨.inr (.inl rfl),.inr (.inr (.inl rfl)),.inr (.inr (.inr rfl)),.inl ?_⟩,?_⟩
    · have h1:=hpm.op p hp
      have h2:=hrow.at_ (i:=o p) (by omega)
      rw [h1.2] at h2
      have h3:=oG.cell h2 (by simp;omega)
      show _=some (Value.int .i64 ((usr D.n p:Nat):Int))
      rw [show (begL D o π w3.heap.size gk gp go gl gf gN oN).gf=gf from rfl,show (begL D o π w3.heap.size gk gp go gl gf gN oN).o=o from rfl,h3]
      unfold usr
      by_cases h4:p < D.n
      · rw [if_pos ⟨by omega,h4⟩,if_pos h4];simp
      · rw [if_neg (fun h=>h4 h.2),if_neg h4];rfl
    · obtain ⟨gi,oi,ci,k1,k2⟩:=HND p hp
      exact ⟨gi,oi,ci,oW.cell k1 (by simp),oW.cell k2 (by simp),.inl (World.block_lt_of_cell? _ _ k2)⟩
    · obtain ⟨gi,oi,ci,k1,k2⟩:=HND 0 (by omega)
      exact World.block_lt_of_cell? _ _ k1
    · have h9:=oW.size
      have h8:=oF.size
      have h7:=hrow.lt
      have h6:=oG.size
      rintro k (e | e | e | e) <;> omega
  · show w3.heap.size≠gp;omega
  · show w3.heap.size≠gk;omega
  · show gp≠gk;omega
  · show ¬ (w3.heap.size < w.heap.size∨w3.heap.size=go∨w3.heap.size=gl∨w3.heap.size=gf);omega
  · show ¬ (gp < w.heap.size∨gp=go∨gp=gl∨gp=gf);omega
  · show ¬ (gk < w.heap.size∨gk=go∨gk=gl∨gk=gf);omega
  · exact hs3
  · show w.heap.size≤gp;omega
  · show w.heap.size≤gk;omega
set_option maxRecDepth 100000 in
set_option maxHeartbeats 4000000 in
theorem begin_any (hc:Chn D o π) (hO:OrdC D o) (hL:LosC D o) (hr:D.R w) :
    Calls Tryz.prog 62 #[D.val] w fun e w'=>∃ L N,e = .returned (.tuple #[.pointer (some ⟨L.q,0,none⟩),.int .i64 0])∧L.n=D.n∧L.o=o∧L.π=π∧(∀ k,k < w.heap.size→N k)∧LW L N w (fun _=>false) LS.start w':=by
  obtain ⟨gN,oN,hb,hnd⟩:=hc.nodes hr
  have hn:=hc.n1
  have hpm:=Lib.hid hc.pm
  have HR:=Lib.hid hr
  have HND:Hid (∀ w',Oth [] w w'→∀ p,p < D.n→∃ gi oi ci,w'.cell? ⟨gN,oN + (o (p + 1) - 1) * 10 + 8,none⟩=some (.slice (some ⟨gi,oi,none⟩) 1 ci)∧w'.cell? ⟨gi,oi,none⟩=some (.int .i64 (o p:Nat))):=by
    intro w' ho p hp
    obtain ⟨gi,oi,ci,h1,h2⟩:=hnd p hp
    exact ⟨gi,oi,ci,ho.cell h1 (by simp),ho.cell h2 (by simp)⟩
  have hval:D.val = .agg #[.slice D.i.b D.i.n D.i.c,.slice (some ⟨gN,oN,none⟩) D.n D.c]:=by unfold NetD.val;rw [hb];rfl
  have NO:Hid (∀ w',Oth [] w w'→Calls Tryz.prog 40 #[D.val] w' fun e w2=>∃ g,e = .returned (.tuple #[.slice (some ⟨g,0,none⟩) D.n D.n,.int .i64 0])∧Oth [] w' w2∧w'.heap.size≤g∧g < w2.heap.size∧∀ p,p < D.n→w2.cell? ⟨g,p,none⟩=some (.int .i64 (o (p + 1):Nat))):=fun w' ho=>hO w' (hr.oth ho)
  have NL:Hid (∀ w',Oth [] w w'→Calls Tryz.prog 41 #[D.val] w' fun e w2=>e = .returned (.tuple #[.int .i64 (o D.n:Nat),.int .i64 0])∧Oth [] w' w2):=fun w' ho=>hL w' (hr.oth ho)
  have NP:Hid (∀ w',Oth [] w w'→Calls Tryz.prog 113 #[D.val] w' fun e w2=>∃ g,e = .returned (.tuple #[.slice (some ⟨g,0,none⟩) (D.n + 1) (D.n + 1),.int .i64 0])∧Oth [] w' w2∧w'.heap.size≤g∧g < w2.heap.size∧∀ p,p≤D.n→w2.cell? ⟨g,o p,none⟩=some (.int .i64 (usr D.n p:Nat))):=fun w' ho=>last_any hc hO (hr.oth ho)
  rw [hval] at NO NL NP ⊢
  have HBX:Hid (∀ w',Oth [] (w.alloc (.cells #[.slice D.i.b D.i.n D.i.c,.slice (some ⟨gN,oN,none⟩) D.n D.c] 26)) w'→Oth [] w w'∧w'.cell? ⟨w.heap.size,0,none⟩=some (.slice D.i.b D.i.n D.i.c)∧w'.cell? ⟨w.heap.size,1,none⟩=some (.slice (some ⟨gN,oN,none⟩) D.n D.c)):=fun w' ho=>net_box ho
  have e1:IntKind.i64.wrap ((D.n:Int) + 1)=(D.n:Int) + 1:=IntWalk.i64_in _ (by omega)
  clear hr hnd hb hval hO hc hL
  have hm1:∀ w',_:=fun w'=>run_make_row' (P:=Tryz.prog) 22 3 (.int .i64 0) 8 Tryz.underlying22 info3 rfl .i64 .i64 (D.n + 1) (by omega) (by omega) w'
  have hm2:∀ w',_:=fun w'=>run_make_row' (P:=Tryz.prog) 104 4 (.bool false) 1 Tryz.underlying104 info4 rfl .i64 .i64 (D.n + 1) (by omega) (by omega) w'
  simp only [Int.natCast_add,Int.natCast_one] at hm1 hm2
  go_enter Tryz.func62,Tryz.ntmps62
  go_wp2_with (first
    | (go_at_call 40;(with_reducible refine (NO.out _ ((Oth.refl [] w).alloc _)).mono ?_);rintro e w1 ⟨go,rfl,ho1,hg1,hg2,hgo⟩;obtain ⟨p0,p1,p2⟩:=HBX.out _ ho1;replace ho1:=Lib.hid ho1;replace hgo:=Lib.hid hgo;replace p0:=Lib.hid p0)
    | (go_at_call 113;(with_reducible refine (NP.out _ p0.out).mono ?_);rintro e w2 ⟨gl,rfl,ho2,hl1,hl2,hgl⟩;replace ho1:=Lib.hid (ho1.out.trans ho2 (Fr.nil _ _));clear p0 p1 p2;obtain ⟨p0,p1,p2⟩:=HBX.out _ ho1.out;replace hgl:=Lib.hid hgl;replace p0:=Lib.hid p0;replace ho2:=Lib.hid ho2)
    | (go_at_call 41;(with_reducible refine (NL.out _ p0.out).mono ?_);rintro e w3 ⟨rfl,ho3⟩;replace ho1:=Lib.hid (ho1.out.trans ho3 (Fr.nil _ _));clear p0 p1 p2;obtain ⟨p0,p1,p2⟩:=HBX.out _ ho1.out;have l1:=World.block_lt_of_cell? _ _ p1;replace p0:=Lib.hid p0;replace ho3:=Lib.hid ho3))
  have HGO:Hid (∀ p,p < D.n→w3.cell? ⟨go,p,none⟩=some (.int .i64 (o (p + 1):Nat))):=fun p hp=>(ho2.out.trans ho3.out (Fr.nil _ _)).cell (hgo.out p hp) (by simp)
  have HGL:Hid (∀ p,p≤D.n→w3.cell? ⟨gl,o p,none⟩=some (.int .i64 (usr D.n p:Nat))):=fun p hp=>ho3.out.cell (hgl.out p hp) (by simp)
  have P2:=Lib.hid p2
  clear hgo hgl ho2 ho3 p1
  go_region
  all_goals refine cutW (fun W=>∃ gf gk gp,BegX (.slice D.i.b D.i.n D.i.c) (.slice (some ⟨gN,oN,none⟩) D.n D.c) (.slice (some ⟨go,0,none⟩) D.n D.n) (.slice (some ⟨gl,0,none⟩) (D.n + 1) (D.n + 1)) (.int .i64 (o D.n:Nat)) D.n w3 gf gk gp W) ?_ ?_
  all_goals first
    | exact ⟨w3.heap.size + 1,w3.heap.size + 2,w3.heap.size + 3,(heap4 w3 _ _ _ _).1,(heap4 w3 _ _ _ _).2.1,(heap4 w3 _ _ _ _).2.2.1,(heap4 w3 _ _ _ _).2.2.2.1,(heap4 w3 _ _ _ _).2.2.2.2,⟨⟨by omega,by omega,by omega⟩,by omega,by omega,by omega⟩⟩
    | exact ⟨w3.heap.size + 1,w3.heap.size + 3,w3.heap.size + 2,(heap4 w3 _ _ _ _).1,(heap4 w3 _ _ _ _).2.1,(heap4 w3 _ _ _ _).2.2.2.1,(heap4 w3 _ _ _ _).2.2.1,(heap4 w3 _ _ _ _).2.2.2.2,⟨⟨by omega,by omega,by omega⟩,by omega,by omega,by omega⟩⟩
    | exact ⟨w3.heap.size + 2,w3.heap.size + 1,w3.heap.size + 3,(heap4 w3 _ _ _ _).1,(heap4 w3 _ _ _ _).2.2.1,(heap4 w3 _ _ _ _).2.1,(heap4 w3 _ _ _ _).2.2.2.1,(heap4 w3 _ _ _ _).2.2.2.2,⟨⟨by omega,by omega,by omega⟩,by omega,by omega,by omega⟩⟩
    | exact ⟨w3.heap.size + 2,w3.heap.size + 3,w3.heap.size + 1,(heap4 w3 _ _ _ _).1,(heap4 w3 _ _ _ _).2.2.1,(heap4 w3 _ _ _ _).2.2.2.1,(heap4 w3 _ _ _ _).2.1,(heap4 w3 _ _ _ _).2.2.2.2,⟨⟨by omega,by omega,by omega⟩,by omega,by omega,by omega⟩⟩
    | exact ⟨w3.heap.size + 3,w3.heap.size + 1,w3.heap.size + 2,(heap4 w3 _ _ _ _).1,(heap4 w3 _ _ _ _).2.2.2.1,(heap4 w3 _ _ _ _).2.1,(heap4 w3 _ _ _ _).2.2.1,(heap4 w3 _ _ _ _).2.2.2.2,⟨⟨by omega,by omega,by omega⟩,by omega,by omega,by omega⟩⟩
    | exact ⟨w3.heap.size + 3,w3.heap.size + 2,w3.heap.size + 1,(heap4 w3 _ _ _ _).1,(heap4 w3 _ _ _ _).2.2.2.1,(heap4 w3 _ _ _ _).2.2.1,(heap4 w3 _ _ _ _).2.1,(heap4 w3 _ _ _ _).2.2.2.2,⟨⟨by omega,by omega,by omega⟩,by omega,by omega,by omega⟩⟩
    | exact ⟨w3.heap.size + 1,w3.heap.size + 2,w3.heap.size + 3,(heap4 w3 _ _ _ _).1,(heap4 w3 _ _ _ _).2.1,(heap4 w3 _ _ _ _).2.2.1,(heap4 w3 _ _ _ _).2.2.2.1,(heap4 w3 _ _ _ _).2.2.2.2.drew,⟨⟨by omega,by omega,by omega⟩,by omega,by omega,by omega⟩⟩
    | exact ⟨w3.heap.size + 1,w3.heap.size + 3,w3.heap.size + 2,(heap4 w3 _ _ _ _).1,(heap4 w3 _ _ _ _).2.1,(heap4 w3 _ _ _ _).2.2.2.1,(heap4 w3 _ _ _ _).2.2.1,(heap4 w3 _ _ _ _).2.2.2.2.drew,⟨⟨by omega,by omega,by omega⟩,by omega,by omega,by omega⟩⟩
    | exact ⟨w3.heap.size + 2,w3.heap.size + 1,w3.heap.size + 3,(heap4 w3 _ _ _ _).1,(heap4 w3 _ _ _ _).2.2.1,(heap4 w3 _ _ _ _).2.1,(heap4 w3 _ _ _ _).2.2.2.1,(heap4 w3 _ _ _ _).2.2.2.2.drew,⟨⟨by omega,by omega,by omega⟩,by omega,by omega,by omega⟩⟩
    | exact ⟨w3.heap.size + 2,w3.heap.size + 3,w3.heap.size + 1,(heap4 w3 _ _ _ _).1,(heap4 w3 _ _ _ _).2.2.1,(heap4 w3 _ _ _ _).2.2.2.1,(heap4 w3 _ _ _ _).2.1,(heap4 w3 _ _ _ _).2.2.2.2.drew,⟨⟨by omega,by omega,by omega⟩,by omega,by omega,by omega⟩⟩
    | exact ⟨w3.heap.size + 3,w3.heap.size + 1,w3.heap.size + 2,(heap4 w3 _ _ _ _).1,(heap4 w3 _ _ _ _).2.2.2.1,(heap4 w3 _ _ _ _).2.1,(heap4 w3 _ _ _ _).2.2.1,(heap4 w3 _ _ _ _).2.2.2.2.drew,⟨⟨by omega,by omega,by omega⟩,by omega,by omega,by omega⟩⟩
    | exact ⟨w3.heap.size + 3,w3.heap.size + 2,w3.heap.size + 1,(heap4 w3 _ _ _ _).1,(heap4 w3 _ _ _ _).2.2.2.1,(heap4 w3 _ _ _ _).2.2.1,(heap4 w3 _ _ _ _).2.1,(heap4 w3 _ _ _ _).2.2.2.2.drew,⟨⟨by omega,by omega,by omega⟩,by omega,by omega,by omega⟩⟩
    | skip
  all_goals
    rintro W ⟨gf,gk,gp,HB⟩
    have hq1:=lt_of_block HB.hb
    have b1:W.cell? ⟨w3.heap.size,4,none⟩=some (.slice (some ⟨gf,0,none⟩) (D.n + 1) (D.n + 1)):=by rw [World.cell?,HB.hb];rfl
    have b2:W.cell? ⟨w3.heap.size,7,none⟩=some (.slice (some ⟨gp,0,none⟩) (D.n + 1) (D.n + 1)):=by rw [World.cell?,HB.hb];rfl
    have HF:Hid (Nms gf (fun i=>if D.n≤π i∧π i < D.n then ((π i:Nat):Int) + 1 else 0) (D.n + 1) (D.n + 1) W):=(nms_zero HB.hf (by unfold maxLen;omega)).ext (fun i _=>by rw [if_neg (by omega)])
    have hQ4:Hid (∀ w',Oth [gf] W w'→w'.cell? ⟨w3.heap.size,4,none⟩=some (.slice (some ⟨gf,0,none⟩) (D.n + 1) (D.n + 1))∧w'.cell? ⟨w3.heap.size,7,none⟩=some (.slice (some ⟨gp,0,none⟩) (D.n + 1) (D.n + 1))∧w'.cell? ⟨gp,0,none⟩=some (.bool false)∧w'.frozen? ⟨gp,0,none⟩=false):=fun w' ho=>by
      have hd:=HB.hd
      have c3:=(bls_row HB.hp (by unfold maxLen;omega) (f:=fun _=>false) (fun _ _=>rfl)).oth ho (by simp;omega)
      exact ⟨ho.cell b1 (by simp;omega),ho.cell b2 (by simp;omega),c3.at_ (i:=0) (by omega),c3.free 0⟩
    have hgf3:Hid (w3.heap.size < gf):=HB.hd.1.1
    have HO3:=Lib.hid HB.ho
    replace HB:=Lib.hid HB
    clear b1 b2 hq1
    go_wp2_with fail
    go_loopw [10] (fun x wr=>∃ m:Nat,m≤D.n∧x = .int .i64 m∧Oth [] w3 wr∧Oth [gf] W wr∧Nms gf (fun i=>if m≤π i∧π i < D.n then ((π i:Nat):Int) + 1 else 0) (D.n + 1) (D.n + 1) wr) (fun x _=>(intOf x).toNat)
    case atStart=>exact ⟨D.n,by omega,rfl,HO3.out,Oth.refl _ _,HF.out⟩
    case round=>
      obtain ⟨m,hm,rfl,ho3,ho,hrow⟩:=hrel
      obtain ⟨c1,c2,c3,c4⟩:=hQ4.out wr ho
      have c5:=World.block_lt_of_cell? _ _ c1
      have c6:=World.block_lt_of_cell? _ _ c3
      by_cases hm0:m=0
      · subst hm0
        have t1:¬ (1:Int)≤(0:Int):=by omega
        have HZ:=Lib.hid (beg_done hpm.out hn HB.out (HND.out w (Oth.refl _ _)) p0.out HGO.out HGL.out ho3 ho hrow)
        clear ho3 ho hrow c1
        go_wp2_with fail
        go_ret2
        obtain ⟨N,h1,h2⟩:=HZ.out
        refine ⟨begL D o π w3.heap.size gk gp go gl gf gN oN,?_⟩
        first | exact ⟨N,rfl,rfl,rfl,rfl,h1,h2⟩ | exact ⟨rfl,rfl,rfl,rfl,N,h1,h2⟩
      · obtain ⟨p,rfl⟩:∃ p,m=p + 1:=⟨m - 1,by omega⟩
        have t1:(1:Int)≤(p:Int) + 1:=by omega
        have t1':(0:Int)≤(p:Int):=by omega
        have t2:(p:Int) < D.n:=by omega
        have e0:(p:Int) + 1 - 1=(p:Int):=by omega
        have e2:IntKind.i64.wrap (p:Int)=(p:Int):=IntWalk.i64_in _ (by omega)
        have q1:=ho3.cell (HGO.out p (by omega)) (by simp)
        have q2:=World.block_lt_of_cell? _ _ q1
        have q3:=ho3.cell P2.out (by simp)
        have q4:=World.block_lt_of_cell? _ _ q3
        obtain ⟨gi,oi,ci,k1,k2⟩:=HND.out wr (p0.out.trans ho3 (Fr.nil _ _)) p (by omega)
        have l2:=World.block_lt_of_cell? _ _ k1
        have l3:=World.block_lt_of_cell? _ _ k2
        have om1:=hpm.out.op p (by omega)
        have om2:=hpm.out.op (p + 1) (by omega)
        have om3:=hpm.out.opos (p:=p + 1) (by omega) (by omega)
        have v1:=hrow.at_ (i:=o p) (by omega)
        have v2:=hrow.free (o p)
        have v3:=hrow.lt
        have HG:Hid (∀ i,i < D.n + 1→(if i=o p then (p:Int) + 1 else if p + 1≤π i∧π i < D.n then ((π i:Nat):Int) + 1 else 0)=if p≤π i∧π i < D.n then ((π i:Nat):Int) + 1 else 0):=by
          intro i hi
          have h1:=hpm.out.po i (by omega)
          by_cases e:i=o p
          · rw [if_pos e,e,om1.2,if_pos (by omega)]
          · have:π i≠p:=fun e2=>e (by rw [← e2,h1.2])
            rw [if_neg e]
            by_cases h2:p + 1≤π i∧π i < D.n
            · rw [if_pos h2,if_pos (by omega)]
            · rw [if_neg h2,if_neg (by omega)]
        have HK:=Lib.hid (And.intro ho3 (And.intro ho hrow))
        obtain ⟨om1,-⟩:=om1
        obtain ⟨om2,-⟩:=om2
        generalize (fun i=>if p + 1≤π i∧π i < D.n then ((π i:Nat):Int) + 1 else 0) (o p)=zz at v1
        generalize hom:o p=om at *
        generalize o (p + 1)=i at *
        obtain ⟨j,rfl⟩:∃ j,i=j + 1:=⟨i - 1,by omega⟩
        rw [show j + 1 - 1=j by omega] at k1
        rw [Int.natCast_add,Int.natCast_one] at q1
        have t3:(j:Int) < (D.n:Int):=by omega
        have e3:IntKind.i64.wrap (j:Int)=(j:Int):=IntWalk.i64_in _ (by omega)
        have e4:(j:Int) + 1 - 1=(j:Int):=by omega
        have t4:(om:Int) < (D.n:Int) + 1:=by omega
        clear ho3 ho hrow c2 c3 c4 c6
        go_wp2_with fail
        go_quiet (fail)
        go_wp2_with fail
        refine wp_loop_rounds 2 ?_
        rw [rounds_succ]
        go_wp2_with fail
        rw [rounds_succ]
        go_wp2_with fail
        go_roundw
        case rel=>
          refine ⟨p,by omega,by go_num,(HK.out.1.drewN _).setCell (.inr (Nat.le_of_lt hgf3.out)) _,(HK.out.2.1.drewN _).setCell (.inl (by simp)) _,?_⟩
          exact (Nms.set (w:=wr.drewN _) HK.out.2.2 om ((p:Int) + 1)).ext HG.out
        case measure=>simp [intOf]
end
end Go.Proofs.YtnpdcjdmbkcpbaaGreat.Ins
namespace Go.Proofs.YtnpdcjdmbkcpbaaGreat.Ins
open Go.RowKit
def Kf (o:Nat→Nat) (l:List Int):Nat→Bool:=fun p=>decide (1≤p) && l.any fun id=>decide (id=(o p:Int))
def okB (n:Nat) (l:List Int):Bool:=l.all fun id=>decide (1≤id) && decide (id≤(n:Int))
def LowR (o π:Nat→Nat) (n:Nat) (l:List Int) (w:World) (e:Ending) (w':World):Prop:=
  (okB n l=true∧∃ g c,e = .returned (.tuple #[.slice (some ⟨g,0,none⟩) (LS.low π (Kf o l) n).code.length c,.int .i64 0])∧Row 63 2 g (LS.low π (Kf o l) n).code.length c (cds (rawc o (LS.low π (Kf o l) n).code)) w'∧w.heap.size≤g) ∨
  (okB n l=false∧∃ k:Int,k≠0∧e = .returned (.tuple #[.slice none 0 0,.int .i64 k]))
section
variable {L:LLy} {N:Nat→Prop} {w0:World} {K:Nat→Bool} {s:LS} {w:World}
theorem LW.kext {K':Nat→Bool} (h:LW L N w0 K s w) (hk:∀ p,p≤L.n→K p=K' p):LW L N w0 K' s w:=
  ⟨h.v,h.pr,h.kp.ext (fun i hi=>hk _ (h.pm.po i (by omega)).1),h.rd,h.ne,h.lo,h.o,h.pm,h.n1⟩
theorem LW.kset (h:LW L N w0 K s w) {p:Nat} (hp:p≤L.n):LW L N w0 (on K p true) s (w.setCell ⟨L.gk,L.o p,none⟩ (.bool true)):=by
  have ho:Oth [L.gk] w (w.setCell ⟨L.gk,L.o p,none⟩ (.bool true)):=(Oth.refl _ _).setCell (.inl (by simp)) _
  obtain ⟨n1,n2,n3,n4,n5,n6⟩:=h.ne
  have hk:Kp N w (w.setCell ⟨L.gk,L.o p,none⟩ (.bool true)):=kp_oth ho h.rd.lt (by simpa using n6)
  obtain ⟨v,h1,h2,h3⟩:=h.v
  exact ⟨⟨v,ho.heap h1 (by simpa using n2),Row.own h2 ho (fun g hg=>by simpa using (h3 g hg).2.2.1),h3⟩,h.pr.oth ho (by simpa using n3),(h.kp.set (L.o p) true).ext (on_at2 h.pm hp K true),h.rd.kept hk,h.ne,h.lo,h.o.setCell (.inr h.lo.2.2) _,h.pm,h.n1⟩
end
theorem take_next {l:List Int} {m:Nat} (h:m < l.length):l.take (m + 1)=l.take m ++ [l.getD m 0]:=by
  rw [List.take_add_one,getD_some h];rfl
theorem Kf_next {n:Nat} {o π:Nat→Nat} (hP:Perm n o π) {l:List Int} {m i:Nat} (h:m < l.length) (hi:l.getD m 0=(i:Int)) (h1:1≤i) (h2:i≤n):∀ q,q≤n→on (Kf o (l.take m)) (π i) true q=Kf o (l.take (m + 1)) q:=by
  intro q hq
  have hp:=hP.po i h2
  have hp1:=hP.ppos h1 h2
  rw [take_next h,hi]
  unfold on Kf
  rw [List.any_append]
  by_cases e:q=π i
  · rw [if_pos e,e,hp.2]
    simp;omega
  · rw [if_neg e]
    have:¬ (i:Int)=(o q:Int):=fun e2=>by
      have e3:i=o q:=by omega
      have:=(hP.op q hq).2
      rw [← e3] at this;exact e this.symm
    simp [this]
theorem okB_next {n:Nat} {l:List Int} {m:Nat} (h:m < l.length) (h0:okB n (l.take m)=true) (h1:1≤l.getD m 0∧l.getD m 0≤(n:Int)):okB n (l.take (m + 1))=true:=by
  rw [take_next h]
  unfold okB at h0 ⊢
  rw [List.all_append,h0]
  simp only [List.all_cons,List.all_nil,Bool.and_true,Bool.true_and,Bool.and_eq_true,decide_eq_true_eq]
  exact h1
theorem okB_bad {n:Nat} {l:List Int} {m:Nat} (h:m < l.length) (h1:¬ (1≤l.getD m 0∧l.getD m 0≤(n:Int))):okB n l=false:=by
  cases e:okB n l with
  | false=>rfl
  | true=>
    unfold okB at e
    rw [List.all_eq_true] at e
    have h2:=e (l.getD m 0) (List.mem_of_getElem? (getD_some h))
    simp only [Bool.and_eq_true,decide_eq_true_eq] at h2
    exact absurd h2 h1
section
variable {D:NetD} {o π:Nat→Nat} {w:World}
theorem low_pos (π:Nat→Nat) (K:Nat→Bool) (n:Nat) (hP:Perm n o π) (hn:1≤n):0 < (LS.low π K n).code.length:=by
  obtain ⟨a,b,h,-⟩:=low_back (K:=K) hP hn [] 0 (by omega)
  rw [h,List.length_append,List.length_cons];omega
set_option maxRecDepth 100000 in
set_option maxHeartbeats 4000000 in
theorem lower_any {b:Option Addr} {nl cl:Nat} {l:List Int} (hc:Chn D o π) (hO:OrdC D o) (hL:LosC D o) (hr:D.R w) (hl:RI b nl cl l w) :
    Calls Tryz.prog 25 #[D.val,.slice b nl cl] w fun e w'=>LowR o π D.n l w e w'∧Oth [] w w':=by
  have hn:=hc.n1
  have HPM:=Lib.hid hc.pm
  have HL:=Lib.hid hl
  have hcap:nl≤9223372036854775807:=by have:=hl.cap;unfold maxLen at this;omega
  have HLN:Hid (nl=l.length):=hl.len
  obtain ⟨gN,oN,hb,hnd⟩:=hc.nodes hr
  have hval:D.val = .agg #[.slice D.i.b D.i.n D.i.c,.slice (some ⟨gN,oN,none⟩) D.n D.c]:=by unfold NetD.val;rw [hb];rfl
  have NB:Hid (∀ w',Oth [] w w'→Calls Tryz.prog 62 #[D.val] w' fun e w2=>∃ L N,e = .returned (.tuple #[.pointer (some ⟨L.q,0,none⟩),.int .i64 0])∧L.n=D.n∧L.o=o∧L.π=π∧(∀ k,k < w'.heap.size→N k)∧LW L N w' (fun _=>false) LS.start w2):=fun w' ho=>begin_any hc hO hL (hr.oth ho)
  rw [hval] at NB ⊢
  have HBX:Hid (∀ w',Oth [] (w.alloc (.cells #[.slice D.i.b D.i.n D.i.c,.slice (some ⟨gN,oN,none⟩) D.n D.c] 26)) w'→Oth [] w w'∧w'.cell? ⟨w.heap.size,0,none⟩=some (.slice D.i.b D.i.n D.i.c)∧w'.cell? ⟨w.heap.size,1,none⟩=some (.slice (some ⟨gN,oN,none⟩) D.n D.c)):=fun w' ho=>net_box ho
  have HLL:Hid (∀ L:LLy,L.n=D.n→L.o=o→L.π=π→∀ N w0 w',LW L N w0 (fun p=>Kf o l p) LS.start w'→okB D.n l=true→True):=fun _ _ _ _ _ _ _ _ _=>trivial
  obtain ⟨dn,hdn⟩:∃ dn,dn=D.n:=⟨_,rfl⟩
  rw [← hdn] at NB HBX hn HPM ⊢
  clear hc hO hL hr hl hb hnd hval HLL hdn
  go_enter Tryz.func25,Tryz.ntmps25
  go_wp2_with (go_at_call 62;(with_reducible refine (NB.out _ ((Oth.refl [] w).alloc _)).mono ?_);rintro e w1 ⟨L,N,rfl,e1,e2,e3,hN,h1⟩;obtain ⟨p0,p1,p2⟩:=HBX.out _ h1.o;replace hN:=Lib.hid hN;replace h1:=Lib.hid h1;replace p0:=Lib.hid p0)
  obtain rfl:=e1
  obtain rfl:=e2
  obtain rfl:=e3
  have HP1:=Lib.hid (And.intro p1 p2)
  clear p1 p2
  go_loopw [20] (fun x wr=>∃ m:Nat,m≤nl∧x = .int .i64 m∧LW L N (w.alloc (.cells #[.slice D.i.b D.i.n D.i.c,.slice (some ⟨gN,oN,none⟩) L.n D.c] 26)) (Kf L.o (l.take m)) LS.start wr∧okB L.n (l.take m)=true) (fun x _=>nl - (intOf x).toNat)
  case atStart=>exact ⟨0,by omega,rfl,h1.out.kext (fun p _=>by simp [Kf]),by simp [okB]⟩
  case round=>
    obtain ⟨m,hm,rfl,hw,hok⟩:=hrel
    have hoW:=((Oth.refl [] w).alloc (.cells #[.slice D.i.b D.i.n D.i.c,.slice (some ⟨gN,oN,none⟩) L.n D.c] 26)).trans hw.o (Fr.nil _ _)
    obtain ⟨-,p1,p2⟩:=HBX.out _ hw.o
    have l1:=World.block_lt_of_cell? _ _ p2
    by_cases hlt:m < nl
    · have t1:(m:Int) < nl:=by omega
      have hml:m < l.length:=by rw [← HLN.out];exact hlt
      obtain ⟨g,off,rfl,c1⟩:=(HL.out.oth hoW).at_ m (l.getD m 0) (getD_some hml)
      have c2:=World.block_lt_of_cell? _ _ c1
      obtain ⟨-,-,-,-,-,q6,-,q8,-⟩:=hw.at_
      have e1:IntKind.i64.wrap ((m:Int) + 1)=(m:Int) + 1:=IntWalk.i64_in _ (by omega)
      by_cases hx:1≤l.getD m 0∧l.getD m 0≤(L.n:Int)
      · obtain ⟨i,hi⟩:∃ i:Nat,l.getD m 0=i:=⟨(l.getD m 0).toNat,by omega⟩
        have hpo:=hw.pm.po i (by omega)
        have k1:=hw.kpAt hpo.1
        rw [hpo.2] at k1
        have k2:=hw.kp.free i
        have k3:=hw.kp.lt
        have HN9:=Lib.hid (hw.kset hpo.1)
        have HX9:Hid (∀ q,q≤L.n→on (Kf L.o (l.take m)) (L.π i) true q=Kf L.o (l.take (m + 1)) q):=Kf_next hw.pm hml hi (by omega) (by omega)
        have HK9:=Lib.hid (okB_next hml hok hx)
        rw [hpo.2] at HN9
        rw [hi] at c1
        have t2:¬ (i:Int) < 1:=by omega
        have t3:¬ (L.n:Int) < (i:Int):=by omega
        have t4:(i:Int) < (L.n:Int) + 1:=by omega
        generalize Kf L.o (l.take m) (L.π i)=zz at k1
        clear hw hok hx hpo hoW hi
        go_wp2_with fail
        go_roundw
        case rel=>exact ⟨m + 1,by omega,by go_num,HN9.out.kext HX9.out,HK9.out⟩
        case measure=>simp [intOf];omega
      · have HB9:=Lib.hid (okB_bad hml hx)
        have HO9:=Lib.hid hoW
        obtain ⟨x,hxx⟩:∃ x,x=l.getD m 0:=⟨_,rfl⟩
        rw [← hxx] at c1 hx
        have hq:x < 1∨(¬ x < 1∧(L.n:Int) < x):=by omega
        clear hw hok hx hoW hxx
        rcases hq with u | ⟨u,u2⟩
        all_goals
          go_wp2_with fail
          go_ret2
          exact ⟨.inr ⟨HB9.out,11,by decide,rfl⟩,HO9.out⟩
    · obtain rfl:m=nl:=by omega
      have t1:¬ (m:Int) < m:=by omega
      have htk:l.take m=l:=by rw [HLN.out,List.take_length]
      rw [htk] at hw hok
      have HOK:=Lib.hid hok
      have hnn:=hw.n1
      have hml:L.n * (L.n + 1)≤64 * 65:=Nat.mul_le_mul (by omega) (by omega)
      have hml2:L.n * (2 * L.n + 1)≤64 * 129:=Nat.mul_le_mul (by omega) (by omega)
      have hfl:=(fwd_code (π:=L.π) (K:=Kf L.o l) (n:=L.n) [] L.n).2
      have hbl:=(bwd_code (K:=Kf L.o l) hw.pm hnn.1 [] L.n (Nat.le_refl _)).2
      have hlp:=low_pos L.π (Kf L.o l) L.n hw.pm hnn.1
      have F1:=Lib.hid (forward_any hw)
      have F2:Hid (∀ w',LW L N (w.alloc (.cells #[.slice D.i.b D.i.n D.i.c,.slice (some ⟨gN,oN,none⟩) L.n D.c] 26)) (Kf L.o l) (LS.fwd L.π (Kf L.o l) L.n L.n) w'→Calls Tryz.prog 64 #[.pointer (some ⟨L.q,0,none⟩),.int .i64 4,.int .i64 0] w' fun e w2=>e = .returned (.tuple #[])∧LW L N (w.alloc (.cells #[.slice D.i.b D.i.n D.i.c,.slice (some ⟨gN,oN,none⟩) L.n D.c] 26)) (Kf L.o l) ((LS.fwd L.π (Kf L.o l) L.n L.n).add 4 0) w2∧Kp N w' w2):=fun w' hw'=>ladd_any (k:=4) (i:=0) hw' (by omega) hw'.pm.o0.symm
      have F3:Hid (∀ w',LW L N (w.alloc (.cells #[.slice D.i.b D.i.n D.i.c,.slice (some ⟨gN,oN,none⟩) L.n D.c] 26)) (Kf L.o l) ((LS.fwd L.π (Kf L.o l) L.n L.n).add 4 0) w'→Calls Tryz.prog 65 #[.pointer (some ⟨L.q,0,none⟩),.int .i64 (L.o L.n:Nat)] w' fun e w2=>e = .returned (.tuple #[])∧LW L N (w.alloc (.cells #[.slice D.i.b D.i.n D.i.c,.slice (some ⟨gN,oN,none⟩) L.n D.c] 26)) (Kf L.o l) (((LS.fwd L.π (Kf L.o l) L.n L.n).add 4 0).drop L.n) w2∧Kp N w' w2):=fun w' hw'=>ldrop_any hw' (by simp only [LS.add,List.length_append,List.length_cons,List.length_nil];omega) (Nat.le_refl _) rfl
      have F4:Hid (∀ w',LW L N (w.alloc (.cells #[.slice D.i.b D.i.n D.i.c,.slice (some ⟨gN,oN,none⟩) L.n D.c] 26)) (Kf L.o l) (((LS.fwd L.π (Kf L.o l) L.n L.n).add 4 0).drop L.n) w'→Calls Tryz.prog 64 #[.pointer (some ⟨L.q,0,none⟩),.int .i64 5,.int .i64 0] w' fun e w2=>e = .returned (.tuple #[])∧LW L N (w.alloc (.cells #[.slice D.i.b D.i.n D.i.c,.slice (some ⟨gN,oN,none⟩) L.n D.c] 26)) (Kf L.o l) (LS.mid L.π (Kf L.o l) L.n) w2∧Kp N w' w2):=fun w' hw'=>ladd_any (k:=5) (i:=0) hw' (by simp only [LS.add,LS.drop,List.length_append,List.length_cons,List.length_nil];omega) hw'.pm.o0.symm
      have F5:Hid (∀ w',LW L N (w.alloc (.cells #[.slice D.i.b D.i.n D.i.c,.slice (some ⟨gN,oN,none⟩) L.n D.c] 26)) (Kf L.o l) (LS.mid L.π (Kf L.o l) L.n) w'→Calls Tryz.prog 66 #[.pointer (some ⟨L.q,0,none⟩)] w' fun e w2=>e = .returned (.tuple #[])∧LW L N (w.alloc (.cells #[.slice D.i.b D.i.n D.i.c,.slice (some ⟨gN,oN,none⟩) L.n D.c] 26)) (Kf L.o l) (LS.low L.π (Kf L.o l) L.n) w2∧Kp N w' w2):=fun w' hw'=>backward_any hw'
      have F6:Hid (∀ w',LW L N (w.alloc (.cells #[.slice D.i.b D.i.n D.i.c,.slice (some ⟨gN,oN,none⟩) L.n D.c] 26)) (Kf L.o l) (LS.low L.π (Kf L.o l) L.n) w'→Calls Tryz.prog 67 #[.pointer (some ⟨L.q,0,none⟩)] w' fun e w2=>e = .returned (.bool false)∧w2=w'):=fun w' hw'=>many_any hw' (by rw [LS.low];omega)
      have F7:Hid (∀ w',LW L N (w.alloc (.cells #[.slice D.i.b D.i.n D.i.c,.slice (some ⟨gN,oN,none⟩) L.n D.c] 26)) (Kf L.o l) (LS.low L.π (Kf L.o l) L.n) w'→∃ g c,w'.cell? ⟨L.q,8,none⟩=some (.slice (some ⟨g,0,none⟩) (LS.low L.π (Kf L.o l) L.n).code.length c)∧Row 63 2 g (LS.low L.π (Kf L.o l) L.n).code.length c (cds (rawc L.o (LS.low L.π (Kf L.o l) L.n).code)) w'∧w.heap.size≤g):=fun w' hw'=>by
        obtain ⟨v,v1,v2,v3⟩:=hw'.v
        obtain ⟨g,c,rfl,-,hR⟩:=row_of_owns v2 hlp
        refine ⟨g,c,by rw [World.cell?,v1];rfl,hR,?_⟩
        have:=(v3 g rfl).2.2.2.2
        rw [World.size_alloc] at this;omega
      generalize hms:LS.fwd L.π (Kf L.o l) L.n L.n=S1 at F1 F2 F3 F4
      clear hw hok hfl hbl hml hml2 hlp hoW htk p1 p2 hnn hms
      go_wp2_with (first
        | (go_at_call 63;(with_reducible refine F1.out.mono ?_);rintro e w3 ⟨rfl,h3,k3⟩;replace h3:=Lib.hid h3;clear F1)
        | (go_at_call 64;(with_reducible refine (F2.out _ h3.out).mono ?_);rintro e w4 ⟨rfl,h4,k4⟩;have q5:=h4.at_.2.2.2.2.1;have q9:=h4.at_.2.2.2.2.2.2.2.1;replace h4:=Lib.hid h4;clear F2)
        | (go_at_call 65;(with_reducible refine (F3.out _ h4.out).mono ?_);rintro e w5 ⟨rfl,h5,k5⟩;replace h5:=Lib.hid h5;clear F3)
        | (go_at_call 64;(with_reducible refine (F4.out _ h5.out).mono ?_);rintro e w6 ⟨rfl,h6,k6⟩;replace h6:=Lib.hid h6)
        | (go_at_call 66;(with_reducible refine (F5.out _ h6.out).mono ?_);rintro e w7 ⟨rfl,h7,k7⟩;replace h7:=Lib.hid h7)
        | (go_at_call 67;(with_reducible refine (F6.out _ h7.out).mono ?_);rintro e w8 ⟨rfl,rfl⟩;obtain ⟨g9,c9,r1,r2,r3⟩:=F7.out _ h7.out;have r4:=World.block_lt_of_cell? _ _ r1;replace r2:=Lib.hid r2))
      go_ret2
      exact ⟨.inl ⟨HOK.out,g9,c9,rfl,r2.out,r3⟩,(HBX.out _ h7.out.o).1⟩
end
end Go.Proofs.YtnpdcjdmbkcpbaaGreat.Ins
namespace Go.Proofs.YtnpdcjdmbkcpbaaGreat.Ins
open Go.RowKit
def LS.rt (n:Nat) (s:LS):Prop:=∀ k p,(k,p)∈s.code→wright n k p
section
variable {n:Nat} {o π:Nat→Nat}
theorem LS.rt.app {s:LS} {n:Nat} (h:s.rt n) {pr:Nat→Bool} {k p:Nat} (hk:wright n k p):LS.rt n ⟨pr,s.code ++ [(k,p)]⟩:=by
  intro k' p' hm
  rcases List.mem_append.1 hm with h1 | h1
  · exact h _ _ h1
  · simp only [List.mem_singleton,Prod.mk.injEq] at h1
    rw [h1.1,h1.2];exact hk
theorem LS.rt.sweep {s:LS} (hP:Perm n o π) (h:s.rt n) {f:Nat→Bool}:∀ j,j≤n→(s.sweep π f j).rt n
  | 0,_=>h
  | j + 1,hj=>by
    rw [LS.sweep];split
    · exact (LS.rt.sweep hP h j (by omega)).app (.inr ⟨by simp,hP.ppos (by omega) hj,(hP.po _ hj).1⟩)
    · exact LS.rt.sweep hP h j (by omega)
theorem LS.rt.fetch {s:LS} (h:s.rt n):∀ q,q≤n→(s.fetch q).rt n
  | 0,_=>h
  | q + 1,hq=>by
    rw [LS.fetch];split
    · exact h
    · exact (LS.rt.fetch h q (by omega)).app (.inr ⟨by simp,by omega,hq⟩)
theorem LS.rt.fwd (hP:Perm n o π) {K:Nat→Bool}:∀ p,p≤n→(LS.fwd π K n p).rt n
  | 0,_=>fun k p hm=>by simp [LS.fwd,LS.start] at hm
  | p + 1,hp=>((LS.rt.fwd hP p (by omega)).app (.inr ⟨by simp,by omega,hp⟩)).sweep hP _ (Nat.le_refl _)
theorem LS.rt.bwd (hP:Perm n o π) (hn:1≤n) {K:Nat→Bool}:∀ j,j≤n→(LS.bwd π K n j).rt n
  | 0,_=>((((LS.rt.fwd hP n (Nat.le_refl _)).app (pr:=(LS.fwd π K n n).pr) (k:=4) (p:=0) (.inl ⟨by simp,rfl⟩)).app (pr:=_) (k:=3) (p:=n) (.inr ⟨by simp,hn,Nat.le_refl _⟩)).app (pr:=_) (k:=5) (p:=0) (.inl ⟨by simp,rfl⟩))
  | j + 1,hj=>by
    rw [LS.bwd]
    exact (((LS.rt.bwd hP hn j (by omega)).fetch (n - j - 1) (by omega)).app (pr:=_) (k:=6) (p:=n - j) (.inr ⟨by simp,by omega,by omega⟩)).sweep hP _ (Nat.le_refl _)
theorem low_right (hP:Perm n o π) (hn:1≤n) (K:Nat→Bool):∀ k p,(k,p)∈(LS.low π K n).code→wright n k p:=LS.rt.bwd hP hn n (Nat.le_refl _)
theorem low_len (hP:Perm n o π) (hn:1≤n) (h2:n≤64) (K:Nat→Bool):(LS.low π K n).code.length≤65536:=by
  have h:=(bwd_code (K:=K) hP hn [] n (Nat.le_refl _)).2
  have h3:n * (n + 1)≤64 * 65:=Nat.mul_le_mul h2 (by omega)
  have h4:n * (2 * n + 1)≤64 * 129:=Nat.mul_le_mul h2 (by omega)
  unfold LS.low;omega
end
theorem RunR.form {ws cs:List Nat} {n cap:Nat} {code:List (Nat × Nat)} {e:Ending} (h:RunR ws cs n cap code e):∃ a b x y k:Int,e = .returned (.tuple #[.agg #[.int .i64 a,.int .i64 b,.int .i64 x,.int .i64 y],.int .i64 k]):=by
  unfold RunR at h
  split at h
  · obtain ⟨k,-,rfl⟩:=h;exact ⟨0,0,0,0,k,rfl⟩
  · split at h
    · obtain ⟨x,y,rfl⟩:=h;exact ⟨_,_,x,y,0,rfl⟩
    · obtain ⟨k,-,rfl⟩:=h;exact ⟨0,0,0,0,k,rfl⟩
section
variable {w:World}
set_option maxRecDepth 100000 in
set_option maxHeartbeats 4000000 in
theorem plan_none {g1 c1 g2 c2':Nat} {ws cs:List Nat} {cap M:Nat} (hM:M=min cap (wsum ws cs.length)) (hf:Fine ws cs cap) (hc:cap≤4096) (hc1:ws.length≤c1) (hc2:c1≤maxLen) (h1:Ints g1 ws w) (h2:Ints g2 cs w)
    (hv:nn≤vl (par0 M ws cs) 0 cs.length M) :
    Calls Tryz.prog 12 #[.agg #[.slice (some ⟨g1,0,none⟩) ws.length c1,.slice (some ⟨g2,0,none⟩) cs.length c2'],.int .i64 cap] w fun e w'=>e = .returned (.tuple #[.slice none 0 0,.int .i64 26])∧Oth [] w w':=by
  have HCH:Hid (∀ w',Oth [] w w'→Calls Tryz.prog 29 #[.agg #[.slice (some ⟨g1,0,none⟩) ws.length c1,.slice (some ⟨g2,0,none⟩) cs.length c2'],.int .i64 cap] w' fun e w2=>e = .returned (.int .i64 0)∧Oth [] w' w2):=fun w' ho=>check_any hf hc (h1.oth ho (by simp)) (h2.oth ho (by simp))
  have HNS:Hid (∀ w',Oth [] w w'→Calls Tryz.prog 30 #[.agg #[.slice (some ⟨g1,0,none⟩) ws.length c1,.slice (some ⟨g2,0,none⟩) cs.length c2'],.int .i64 cap] w' (SolPost w' g1 c1 g2 c2' cap ws cs)):=fun w' ho=>newSolver_any hf hc hc1 hc2 (h1.oth ho (by simp)) (h2.oth ho (by simp))
  have HF:=Lib.hid hf
  have hMc:M≤cap:=by omega
  obtain ⟨U,hU⟩:∃ a,a=vl (par0 M ws cs) 0 cs.length M:=⟨_,rfl⟩
  rw [← hU] at hv
  have t2:(1152921504606846976:Int)≤(U:Int):=by unfold nn at hv;omega
  have T2:=Lib.hid t2
  clear t2
  have HU:=Lib.hid hU
  have HM:=Lib.hid hM
  clear hf h1 h2 hv hU hM
  go_enter Tryz.func12,Tryz.ntmps12
  go_wp2_with (first | (refine (HCH.out _ ((Oth.refl [] w).alloc _)).mono ?_;rintro e w' ⟨rfl,ho⟩;obtain ⟨k1,k2⟩:=cbox_at _ _ _ _ _ _ ho;have ho1:=cbox_oth ho;clear ho) | (refine (HNS.out _ ho1).mono ?_;rintro e w2 ⟨p,mb,rfl,ho2,hp,hmb,hs⟩;clear k1 k2;rw [← HM.out] at hs;have q1:w2.cell? ⟨p,2,none⟩=some (.int .i64 cs.length):=hs.sol.at_.2.2.1;have q2:w2.cell? ⟨p,3,none⟩=some (.int .i64 M):=hs.sol.at_.2.2.2.1;have hlp:=hs.old p (by simp);have HS:=Lib.hid hs;clear hs;have HO2:=Lib.hid ho2;have HO1:=Lib.hid ho1;clear ho1 ho2))
  have hmb2:w.heap.size≤mb:=by have:=HO1.out.size;omega
  have hml:=HS.out.old mb (by simp)
  have HL:Hid (LR (par p g1 c1 g2 c2' mb M ws cs) [p,g1,g2,mb] w (w2.alloc (.cells #[.int .i64 0,.int .i64 cs.length] 103))):=(LR.mk HS.out (HO1.out.trans HO2.out (Fr.nil _ _))).call ((Oth.refl _ _).alloc _)
  have hfd:=field97
  have t1:(M:Int) < (M:Int) + 1:=by omega
  have hb:=box1_keep (w:=w2) (a:=.int .i64 0) (b:=.int .i64 cs.length) (t1:=103) (S:=[]) (by simp) (Oth.refl _ _)
  have HB:=Lib.hid hb
  have HVA:Hid (∀ w',LR (par p g1 c1 g2 c2' mb M ws cs) [p,g1,g2,mb] w w'→Calls Tryz.prog 31 #[.pointer (some ⟨p,0,none⟩),.agg #[.int .i64 0,.int .i64 cs.length]] w' fun e w3=>
      ∃ g c:Nat,e = .returned (.agg #[.slice (some ⟨g,0,none⟩) (M + 1) c])∧LR (par p g1 c1 g2 c2' mb M ws cs) [p,g1,g2,mb] w w3∧w3.cell? ⟨g,M,none⟩=some (.int .i64 U)∧Oth [mb] w' w3):=by
    intro w' hl
    refine (values_all HF.out hMc w' hl.s).mono ?_
    rintro e w3 ⟨g,c,rfl,k1,k2,k3⟩
    exact ⟨g,c,rfl,hl.step hmb2 k1 k2,by rw [HU.out];exact k3,k2⟩
  have HVD:Hid (∀ w',LR (par p g1 c1 g2 c2' mb M ws cs) [p,g1,g2,mb] w w'→w'.cell? ⟨p,2,none⟩=some (.int .i64 cs.length)∧w'.cell? ⟨p,3,none⟩=some (.int .i64 M)):=fun w' h=>h.S.2
  have HVB:=HVA.out _ (HL.out.call (Oth.refl _ _).drew)
  have hCx:∃ C,Hid (C=par p g1 c1 g2 c2' mb M ws cs):=⟨_,Lib.hid rfl⟩
  obtain ⟨C,HCE⟩:=hCx
  rw [← HCE.out] at HVB HVD HL HVA
  have t2:((1152921504606846976:Int)≤(U:Int))=True:=by have:=T2.out;apply eq_true;omega
  clear hb
  go_cut [34] from 26 (fun x w'=>x = .bool true∧Oth [] w w')
  case first=>
    go_region_with (first | (go_at_call 31;refine HVB.mono ?_;rintro e w' ⟨g,c,rfl,k1,k2,k3⟩;obtain ⟨r1,r2⟩:=HVD.out _ k1;have hlg:=World.block_lt_of_cell? w' _ k2))
    all_goals
      go_wp2_with fail
      go_meet
      case rel=>exact ⟨rfl,k1.o⟩
  case rest=>
    obtain ⟨rfl,ho⟩:=hcut
    replace ho:=Lib.hid ho
    go_wp2_with fail
    go_ret2
    exact ⟨rfl,ho.out⟩
end
section
variable {D:NetD} {o π:Nat→Nat} {w:World}
def CostR (ws cs:List Nat) (n cap:Nat) (o π:Nat→Nat) (l:List Int) (e:Ending):Prop:=
  if okB n l=true then RunR ws cs n cap (LS.low π (Kf o l) n).code e else ErrS e
set_option maxRecDepth 100000 in
set_option maxHeartbeats 4000000 in
theorem cost_any {ws cs:List Nat} {cap nl cl:Nat} {b:Option Addr} {l:List Int} (hc:Chn D o π) (hO:OrdC D o) (hL:LosC D o) (hPr:PriC D o ws cs) (hlc:cs.length=D.n) (hr:D.R w)
    (hl:RI b nl cl l w) (hcap:cap≤4096) (hwb:∀ p,p≤D.n→ws.getD p 0≤65536) (hcb:∀ p,p < D.n→cs.getD p 0≤1099511627776) :
    Calls Tryz.prog 9 #[D.val,.slice b nl cl,.int .i64 cap] w fun e w'=>CostR ws cs D.n cap o π l e∧Oth [] w w':=by
  have hn:=hc.n1
  obtain ⟨gN,oN,hb,hnd⟩:=hc.nodes hr
  have hval:D.val = .agg #[.slice D.i.b D.i.n D.i.c,.slice (some ⟨gN,oN,none⟩) D.n D.c]:=by unfold NetD.val;rw [hb];rfl
  obtain ⟨code,hcode⟩:∃ code,code=(LS.low π (Kf o l) D.n).code:=⟨_,rfl⟩
  have NL:Hid (∀ w',Oth [] w w'→Calls Tryz.prog 25 #[D.val,.slice b nl cl] w' fun e w2=>LowR o π D.n l w' e w2∧Oth [] w' w2):=fun w' ho=>lower_any hc hO hL (hr.oth ho) (hl.oth ho)
  have NR:Hid (∀ w' g c,Oth [] w w'→Row 63 2 g code.length c (cds (rawc o code)) w'→Calls Tryz.prog 26 #[D.val,.slice (some ⟨g,0,none⟩) code.length c,.int .i64 cap] w' fun e w2=>(RunR ws cs D.n cap code e∧∃ a b x y k:Int,e = .returned (.tuple #[.agg #[.int .i64 a,.int .i64 b,.int .i64 x,.int .i64 y],.int .i64 k]))∧Oth [] w' w2):=fun w' g c ho hrow=>
    (run_any hc hO hL hPr hlc (hr.oth ho) hrow (by rw [hcode];exact low_len hc.pm hn.1 hn.2 _) (by rw [hcode];exact low_right hc.pm hn.1 _) hcap hwb hcb).mono fun e w2 h=>⟨⟨h.1,h.1.form⟩,h.2⟩
  unfold LowR at NL
  rw [← hcode] at NL
  unfold CostR
  rw [← hcode]
  rw [hval] at NL NR ⊢
  clear hc hO hL hPr hr hl hnd hb hval hcode hwb hcb hlc
  have HBX:Hid (∀ w',Oth [] ((w.alloc (.cells #[.slice D.i.b D.i.n D.i.c,.slice (some ⟨gN,oN,none⟩) D.n D.c] 26)).alloc (.cells #[.int .i64 0,.int .i64 0,.int .i64 0,.int .i64 0] 30)) w' →
      Oth [] w w'∧(w'.cell? ⟨w.heap.size,0,none⟩=some (.slice D.i.b D.i.n D.i.c)∧w'.cell? ⟨w.heap.size,1,none⟩=some (.slice (some ⟨gN,oN,none⟩) D.n D.c))∧w'.heap[w.heap.size + 1]?=some (.cells #[.int .i64 0,.int .i64 0,.int .i64 0,.int .i64 0] 30 (0,0))):=fun w' ho=>by
    have h9:=heap_alloc_new (w.alloc (.cells #[.slice D.i.b D.i.n D.i.c,.slice (some ⟨gN,oN,none⟩) D.n D.c] 26)) (.cells #[.int .i64 0,.int .i64 0,.int .i64 0,.int .i64 0] 30)
    rw [World.size_alloc] at h9
    have h8:=net_box ((Oth.refl [] (w.alloc (.cells #[.slice D.i.b D.i.n D.i.c,.slice (some ⟨gN,oN,none⟩) D.n D.c] 26))).alloc (.cells #[.int .i64 0,.int .i64 0,.int .i64 0,.int .i64 0] 30) |>.trans ho (Fr.nil _ _))
    exact ⟨h8.1,h8.2,ho.heap h9 (by simp)⟩
  by_cases hok:okB D.n l=true
  · have NL2:Hid (∀ w',Oth [] w w'→Calls Tryz.prog 25 #[.agg #[.slice D.i.b D.i.n D.i.c,.slice (some ⟨gN,oN,none⟩) D.n D.c],.slice b nl cl] w' fun e w2=>∃ g c,e = .returned (.tuple #[.slice (some ⟨g,0,none⟩) code.length c,.int .i64 0])∧Row 63 2 g code.length c (cds (rawc o code)) w2∧Oth [] w' w2):=fun w' ho=>(NL.out w' ho).mono (by
      rintro e w2 ⟨⟨-,g,c,rfl,k1,k2⟩ | ⟨k1,-⟩,k3⟩
      · exact ⟨g,c,rfl,k1,k3⟩
      · rw [hok] at k1;cases k1)
    simp only [if_pos hok]
    clear NL hok
    go_enter Tryz.func9,Tryz.ntmps9
    go_wp2_with (go_at_call 25;(with_reducible refine (NL2.out _ (HBX.out _ (Oth.refl _ _)).1).mono ?_);rintro e w1 ⟨g,c,rfl,hrow,ho1⟩;obtain ⟨q0,q1,q2⟩:=HBX.out _ ho1;obtain ⟨q1,q3⟩:=q1;have q4:=World.block_lt_of_cell? _ _ q1;replace q0:=Lib.hid q0;replace q2:=Lib.hid q2;replace ho1:=Lib.hid ho1;replace hrow:=Lib.hid hrow)
    go_at_call 26
    (with_reducible refine (NR.out _ _ _ q0.out hrow.out).mono ?_)
    rintro e w2 ⟨⟨hR,a,b,x,y,k,rfl⟩,ho2⟩
    replace hR:=Lib.hid hR
    have q5:=ho2.heap q2.out (by simp)
    obtain ⟨z0,z1,z2,z3,z4,z5⟩:=four_at q5
    replace q5:=Lib.hid q5
    replace ho2:=Lib.hid ho2
    go_wp2_with fail
    refine bodyPost_ret (res_cell_tmp rfl _ _ (w.heap.size + 1) 30 #[.int .i64 a,.int .i64 b,.int .i64 x,.int .i64 y] (0,0) _ rfl (four_set q5.out) Tryz.underlying30 rfl (by kernel_rfl)) rfl ⟨?_,?_⟩
    · exact hR.out
    · exact four_oth (q0.out.trans ho2.out (Fr.nil _ _)) (by omega)
  · have hok2:okB D.n l=false:=by simpa using hok
    have NL2:Hid (∀ w',Oth [] w w'→Calls Tryz.prog 25 #[.agg #[.slice D.i.b D.i.n D.i.c,.slice (some ⟨gN,oN,none⟩) D.n D.c],.slice b nl cl] w' fun e w2=>(∃ k:Int,k≠0∧e = .returned (.tuple #[.slice none 0 0,.int .i64 k]))∧Oth [] w' w2):=fun w' ho=>(NL.out w' ho).mono (by
      rintro e w2 ⟨⟨k1,-⟩ | ⟨-,k1⟩,k3⟩
      · exact absurd k1 hok
      · exact ⟨k1,k3⟩)
    simp only [if_neg hok]
    clear NL NR hok hok2
    go_enter Tryz.func9,Tryz.ntmps9
    go_wp2_with fail
    go_at_call 25
    (with_reducible refine (NL2.out _ (HBX.out _ (Oth.refl _ _)).1).mono ?_)
    rintro e w1 ⟨⟨x,hx,rfl⟩,ho1⟩
    have hx':(x != 0)=true:=by simp [hx]
    obtain ⟨q0,q1,q2⟩:=HBX.out _ ho1
    obtain ⟨z0,z1,z2,z3,z4,z5⟩:=four_at q2
    replace q0:=Lib.hid q0
    replace q2:=Lib.hid q2
    replace ho1:=Lib.hid ho1
    go_wp2_with fail
    refine bodyPost_ret (res_cell_tmp rfl _ _ (w.heap.size + 1) 30 #[.int .i64 0,.int .i64 0,.int .i64 0,.int .i64 0] (0,0) _ rfl (four_set q2.out) Tryz.underlying30 rfl (by kernel_rfl)) rfl ⟨?_,?_⟩
    · exact ⟨x,hx,rfl⟩
    · exact four_oth q0.out (by omega)
end
end Go.Proofs.YtnpdcjdmbkcpbaaGreat.Ins
namespace Go.Proofs.YtnpdcjdmbkcpbaaGreat.Ins
open Go.RowKit
def ChnC (D:NetD):Prop:=∀ w,D.R w→Calls Tryz.prog 7 #[D.val] w fun e w'=>e = .returned (.bool true)∧Oth [] w w'
theorem iv_take {l:List Nat} {m x:Nat} (h:l[m]?=some x):iv (l.take (m + 1))=iv (l.take m) ++ [.int .i64 (x:Int)]:=by
  rw [List.take_add_one,h];simp [iv]
theorem ints_row {g n c:Nat} {l:List Nat} {w:World} (h:Row 3 1 g n c (iv l) w):Ints g l w:=fun i x hx=>Row.cell h (by simp [iv,hx])
theorem owns_one (w:World) (x:Value):(w.alloc (.cells #[x] 3)).ownsRow 0 3 1 (.slice (some ⟨w.heap.size,0,none⟩) 1 1) 1 [x]:=
  ⟨rfl,.inr ⟨w.heap.size,1,#[x],rfl,Nat.zero_le _,heap_alloc_new _ _,Nat.le_refl _,by unfold maxLen;omega,rfl,rfl⟩⟩
theorem getN {l:List Nat} {i:Nat} (h:i < l.length):l[i]?=some (l.getD i 0):=by
  rw [List.getD_eq_getElem?_getD,List.getElem?_eq_getElem h];rfl
theorem own_lt {w:World} {B:Nat} {e:TypeId} {z n:Nat} {v:Value} {xs:List Value} (h:w.ownsRow B e z v n xs):∀ k,v.ownBlock=some k→k < w.heap.size:=by
  intro k hk
  obtain ⟨-,⟨rfl,-⟩ | ⟨b,c,cells,rfl,-,h2,-⟩⟩:=h
  · cases hk
  · simp [Value.ownBlock] at hk;subst hk;exact lt_of_block h2
theorem three_at {w:World} {b:Nat} {x0 x1 x2:Value} {t:TypeId} (h:w.heap[b]?=some (.cells #[x0,x1,x2] t (0,0))) :
    w.cell? ⟨b,0,none⟩=some x0∧w.cell? ⟨b,1,none⟩=some x1∧w.cell? ⟨b,2,none⟩=some x2∧b < w.heap.size:=by
  refine ⟨?_,?_,?_,lt_of_block h⟩
  any_goals (rw [World.cell?,h];rfl)
section
variable {D:NetD} {o π:Nat→Nat} {w:World}
set_option maxRecDepth 100000 in
set_option maxHeartbeats 4000000 in
theorem pchain_any {ws cs:List Nat} (hc:Chn D o π) (hO:OrdC D o) (hCh:ChnC D) (hPr:PriC D o ws cs) (hlw:ws.length=D.n + 1) (hlc:cs.length=D.n) (hr:D.R w) :
    Calls Tryz.prog 124 #[D.val] w fun e w'=>∃ g1 c1 g2 c2,e = .returned (.tuple #[.slice (some ⟨g1,0,none⟩) (D.n + 1) c1,.slice (some ⟨g2,0,none⟩) D.n c2,.int .i64 0])∧Row 3 1 g1 (D.n + 1) c1 (iv ws) w'∧Row 3 1 g2 D.n c2 (iv cs) w'∧Oth [] w w':=by
  have hn:=hc.n1
  have hpm:=Lib.hid hc.pm
  obtain ⟨gN,oN,hb,hnd⟩:=hc.nodes hr
  have hval:D.val = .agg #[.slice D.i.b D.i.n D.i.c,.slice (some ⟨gN,oN,none⟩) D.n D.c]:=by unfold NetD.val;rw [hb];rfl
  have NP:Hid (∀ w',Oth [] w w'→Calls Tryz.prog 39 #[D.val] w' fun e w2=>∃ gw gc T,e = .returned (.tuple #[.agg #[.slice (some ⟨gw,0,none⟩) (D.n + 1) (D.n + 1),.slice (some ⟨gc,0,none⟩) (D.n + 1) (D.n + 1),.int .i64 T],.int .i64 0])∧Oth [] w' w2∧w'.heap.size≤gw∧w'.heap.size≤gc∧gw < w2.heap.size∧gc < w2.heap.size ∧
    (∀ p,p≤D.n→w2.cell? ⟨gw,o p,none⟩=some (.int .i64 (ws.getD p 0:Nat)))∧(∀ p,p < D.n→w2.cell? ⟨gc,o (p + 1),none⟩=some (.int .i64 (cs.getD p 0:Nat)))):=fun w' ho=>hPr w' (hr.oth ho)
  have NH:Hid (∀ w',Oth [] w w'→Calls Tryz.prog 7 #[D.val] w' fun e w2=>e = .returned (.bool true)∧Oth [] w' w2):=fun w' ho=>hCh w' (hr.oth ho)
  have NO:Hid (∀ w',Oth [] w w'→Calls Tryz.prog 40 #[D.val] w' fun e w2=>∃ g,e = .returned (.tuple #[.slice (some ⟨g,0,none⟩) D.n D.n,.int .i64 0])∧Oth [] w' w2∧w'.heap.size≤g∧g < w2.heap.size∧∀ p,p < D.n→w2.cell? ⟨g,p,none⟩=some (.int .i64 (o (p + 1):Nat))):=fun w' ho=>hO w' (hr.oth ho)
  rw [hval] at NP NH NO ⊢
  have HBX:Hid (∀ w',Oth [] (w.alloc (.cells #[.slice D.i.b D.i.n D.i.c,.slice (some ⟨gN,oN,none⟩) D.n D.c] 26)) w'→Oth [] w w'∧w'.cell? ⟨w.heap.size,0,none⟩=some (.slice D.i.b D.i.n D.i.c)∧w'.cell? ⟨w.heap.size,1,none⟩=some (.slice (some ⟨gN,oN,none⟩) D.n D.c)):=fun w' ho=>net_box ho
  obtain ⟨i0,hi,hz0,hz1,hz2⟩:=info_parts' info3q
  have HLW:=Lib.hid hlw
  have HLC:=Lib.hid hlc
  clear hr hnd hb hval hO hPr hCh hc hlw hlc
  go_enter Tryz.func124,Tryz.ntmps124
  go_wp2_with (first
    | (go_at_call 39;(with_reducible refine (NP.out _ ((Oth.refl [] w).alloc _)).mono ?_);rintro e w1 ⟨gw,gc,T,rfl,ho1,hw1,hw2,hw3,hw4,hws,hcs⟩;obtain ⟨p0,p1,p2⟩:=HBX.out _ ho1;have l1:=World.block_lt_of_cell? _ _ p1;replace ho1:=Lib.hid ho1;replace hws:=Lib.hid hws;replace hcs:=Lib.hid hcs;replace p0:=Lib.hid p0)
    | (go_at_call 7;(with_reducible refine (NH.out _ (p0.out.alloc _)).mono ?_);rintro e w2 ⟨rfl,ho2⟩;have p3:=(((Oth.refl [] w1).alloc _).trans ho2 (Fr.nil _ _)).cell p1 (by simp);have p4:=(((Oth.refl [] w1).alloc _).trans ho2 (Fr.nil _ _)).cell p2 (by simp);have l2:=World.block_lt_of_cell? _ _ p3;replace ho2:=Lib.hid ho2)
    | (go_at_call 40;(with_reducible refine (NO.out _ ((p0.out.alloc _).trans ho2.out (Fr.nil _ _))).mono ?_);rintro e w3 ⟨gO,rfl,ho3,hg1,hg2,hgo⟩;replace hgo:=Lib.hid hgo;have HO3:Hid (Oth [] (w1.alloc (.cells #[.slice (some ⟨gw,0,none⟩) (D.n + 1) (D.n + 1),.slice (some ⟨gc,0,none⟩) (D.n + 1) (D.n + 1),.int .i64 T] 115)) w3):=ho2.out.trans ho3 (Fr.nil _ _);replace ho3:=Lib.hid ho3;obtain ⟨v0,v1,v2,v3⟩:=three_at (HO3.out.heap (heap_alloc_new w1 _) (by simp));have v4:=HO3.out.cell (((Oth.refl [] w1).alloc _).cell (hws.out 0 (by omega)) (by simp)) (by simp);rw [hpm.out.o0] at v4;generalize hw0:ws.getD 0 0=ws0 at v4;have v5:=World.block_lt_of_cell? _ _ v4;replace hw0:=Lib.hid hw0))
  have HO4:Hid (Oth [] w w3):=(p0.out.alloc _).trans HO3.out (Fr.nil _ _)
  have HW4:Hid (∀ p,p≤D.n→w3.cell? ⟨gw,o p,none⟩=some (.int .i64 (ws.getD p 0:Nat))):=fun p hp=>HO3.out.cell (((Oth.refl [] w1).alloc _).cell (hws.out p hp) (by simp)) (by simp)
  have HC4:Hid (∀ p,p < D.n→w3.cell? ⟨gc,o (p + 1),none⟩=some (.int .i64 (cs.getD p 0:Nat))):=fun p hp=>HO3.out.cell (((Oth.refl [] w1).alloc _).cell (hcs.out p hp) (by simp)) (by simp)
  have HV:=Lib.hid (And.intro v0 (And.intro v1 v3))
  have hsz:w.heap.size≤w3.heap.size:=HO4.out.size
  clear v0 v1 v2 v3 v4 v5 p1 p2 p3 p4 l1 l2 ho1 ho2 ho3 HO3 hws hcs NP NH NO HBX p0 hw1 hw2 hw3 hw4
  go_loopw [35,2,3] (fun x y z wr=>∃ m:Nat,m≤D.n∧x = .int .i64 m∧wr.ownsRow 0 3 1 y (m + 1) (iv (ws.take (m + 1)))∧wr.ownsRow 0 3 1 z m (iv (cs.take m))∧Oth [] w3 wr∧(∀ k,y.ownBlock=some k→w3.heap.size≤k)∧(∀ k,z.ownBlock=some k→w3.heap.size≤k)∧∀ k,y.ownBlock=some k→z.ownBlock=some k→False) (fun x _ _ _=>D.n - (intOf x).toNat)
  case atStart =>
    refine ⟨0,by omega,rfl,?_,⟨rfl,.inl ⟨rfl,rfl⟩⟩,(Oth.refl _ _).alloc _,fun k hk=>(by simp [Value.ownBlock] at hk;omega),fun k hk=>(by cases hk),fun k h1 h2=>(by cases h2)⟩
    have e1:iv (ws.take 1)=[.int .i64 (ws0:Int)]:=by
      have:=HLW.out
      match ws,this,hw0.out with
      | a :: t,_,h=>simp at h;subst h;rfl
    rw [e1]
    exact owns_one _ _
  case round=>
    obtain ⟨m,hm,rfl,hy,hz,ho,yy1,zz1,hyz⟩:=hrel
    by_cases hlt:m < D.n
    · have t1:(m:Int) < D.n:=by omega
      have om:=hpm.out.op (m + 1) (by omega)
      have om3:=hpm.out.opos (p:=m + 1) (by omega) (by omega)
      obtain ⟨om1,-⟩:=om
      have q1:=ho.cell (hgo.out m hlt) (by simp)
      have q2:=World.block_lt_of_cell? _ _ q1
      have q3:=ho.cell (HW4.out (m + 1) (by omega)) (by simp)
      have q4:=World.block_lt_of_cell? _ _ q3
      have HQ5:=HC4.out m hlt
      have hx:ws[m + 1]?=some (ws.getD (m + 1) 0):=getN (by rw [HLW.out];omega)
      have hy0:cs[m]?=some (cs.getD m 0):=getN (by rw [HLC.out];omega)
      have HX:=Lib.hid (iv_take hx)
      have HY:=Lib.hid (iv_take hy0)
      have e4:IntKind.i64.wrap ((m:Int) + 1)=(m:Int) + 1:=IntWalk.i64_in _ (by omega)
      generalize o (m + 1)=id at q1 q2 q3 q4 HQ5 om1 om3
      generalize ws.getD (m + 1) 0=x at q3 HX
      generalize cs.getD m 0=x2 at HQ5 HY
      have t2:(id:Int) < (D.n:Int) + 1:=by omega
      obtain ⟨v0,v1,v2⟩:=HV.out
      have v0:=ho.cell v0 (by simp)
      have v1:=ho.cell v1 (by simp)
      have v2:=Nat.lt_of_lt_of_le v2 ho.size
      have HO:=Lib.hid ho
      have HOWN:=Lib.hid (And.intro hy (And.intro hz (And.intro yy1 (And.intro zz1 hyz))))
      replace HQ5:=Lib.hid HQ5
      clear ho hy hz hx hy0 yy1 zz1 hyz
      go_wp2_with (at_builtin;refine wpList_append_own_at _ rfl _ _ 22 rfl 0 3 i0 _ 1 8 Tryz.underlying22 hi hz0 hz1 hz2 rfl (by decide) u2 (m + 1) (iv (ws.take (m + 1))) rfl (HOWN.out.1.alloc _) ⟨wr.heap.size,0,none⟩ 1 1 [.int .i64 x] rfl rfl ?a1 ?a2 ?a3 ?a4 ?a5 ?_)
      case a2=>first | rfl | (intro u hu;simp at hu;subst hu;rfl)
      case a3=>unfold maxLen;omega
      case a4=>omega
      intro v' w6 hown6 hgrow hx1 hx2
      have ho6:Oth [] w3 w6:=(HO.out.alloc _).grown hgrow (fun k hk=>.inr (HOWN.out.2.2.1 k hk))
      have HF6:Hid (w6.ownsRow 0 3 1 v' (m + 2) (iv (ws.take (m + 2)))∧w6.ownsRow 0 3 1 u3 m (iv (cs.take m))∧Oth [] w3 w6∧(∀ k,v'.ownBlock=some k→w3.heap.size≤k)∧(∀ k,u3.ownBlock=some k→w3.heap.size≤k)∧∀ k,v'.ownBlock=some k→u3.ownBlock=some k→False):=by
        obtain ⟨o1,o2,o3,o4,o5⟩:=HOWN.out
        refine ⟨by rw [HX.out];exact hown6,(o2.alloc _).kept hgrow ?_,ho6,fun k hk=>?_,o4,fun k hk hk2=>?_⟩
        · cases hq:u3.ownBlock with
          | none=>exact .inl rfl
          | some j=>exact .inr fun e=>o5 j e.symm hq
        · rcases hx2 with e | e
          · exact o3 k (by rw [← e];exact hk)
          · rw [e] at hk
            simp at hk
            subst hk
            have:=HO.out.size
            omega
        · rcases hx2 with e | e
          · exact o5 k (by rw [← e];exact hk) hk2
          · rw [e] at hk
            simp at hk
            subst hk
            have:=own_lt o2 _ hk2
            omega
      have r0:=ho6.cell HQ5.out (by simp)
      have r1:=World.block_lt_of_cell? _ _ r0
      have r2:=ho6.cell HV.out.2.1 (by simp)
      have r3:=World.block_lt_of_cell? _ _ r2
      clear hown6 hgrow hx1 hx2 v0 v1 v2 q1 q2 q3 q4
      go_wp2_with (at_builtin;refine wpList_append_own_at _ rfl _ _ 22 rfl 0 3 i0 _ 1 8 Tryz.underlying22 hi hz0 hz1 hz2 rfl (by decide) u3 m (iv (cs.take m)) rfl (HF6.out.2.1.alloc _) ⟨w6.heap.size,0,none⟩ 1 1 [.int .i64 x2] rfl rfl ?d1 ?d2 ?d3 ?d4 ?d5 ?_)
      case d2=>first | rfl | (intro u hu;simp at hu;subst hu;rfl)
      case d3=>unfold maxLen;omega
      case d4=>omega
      intro v9 w9 hown9 hgrow hx1 hx2
      have HF9:Hid (w9.ownsRow 0 3 1 v' (m + 2) (iv (ws.take (m + 2)))∧w9.ownsRow 0 3 1 v9 (m + 1) (iv (cs.take (m + 1)))∧Oth [] w3 w9∧(∀ k,v'.ownBlock=some k→w3.heap.size≤k)∧(∀ k,v9.ownBlock=some k→w3.heap.size≤k)∧∀ k,v'.ownBlock=some k→v9.ownBlock=some k→False):=by
        obtain ⟨o1,o2,o0,o3,o4,o5⟩:=HF6.out
        refine ⟨(o1.alloc _).kept hgrow ?_,by rw [HY.out];exact hown9,(o0.alloc _).grown hgrow (fun k hk=>.inr (o4 k hk)),o3,fun k hk=>?_,fun k hk2 hk=>?_⟩
        · cases hq:v'.ownBlock with
          | none=>exact .inl rfl
          | some j=>exact .inr fun e=>o5 j hq e.symm
        · rcases hx2 with e | e
          · exact o4 k (by rw [← e];exact hk)
          · rw [e] at hk
            simp at hk
            subst hk
            have:=o0.size
            omega
        · rcases hx2 with e | e
          · exact o5 k hk2 (by rw [← e];exact hk)
          · rw [e] at hk
            simp at hk
            subst hk
            have:=own_lt o1 _ hk2
            omega
      clear hown9 hgrow hx1 hx2 r0 r1 r2 r3 ho6
      go_wp2_with fail
      go_roundw
      case rel=>exact ⟨m + 1,by omega,by go_num,HF9.out.1,HF9.out.2.1,HF9.out.2.2.1,HF9.out.2.2.2.1,HF9.out.2.2.2.2.1,HF9.out.2.2.2.2.2⟩
      case measure=>simp [intOf];omega
    · obtain rfl:m=D.n:=by omega
      have t1:¬ (D.n:Int) < (D.n:Int):=by omega
      rw [← HLW.out,List.take_length,HLW.out] at hy
      rw [← HLC.out,List.take_length,HLC.out] at hz
      obtain ⟨g1,c1,rfl,-,k1⟩:=row_of_owns hy (by omega)
      obtain ⟨g2,c2,rfl,-,k2⟩:=row_of_owns hz (by omega)
      have HF:=Lib.hid (And.intro k1 (And.intro k2 (HO4.out.trans ho (Fr.nil _ _))))
      clear hy hz k1 k2 ho yy1 zz1 hyz
      go_wp2_with fail
      refine bodyPost_ret (results_tmp3 rfl _ _ _) rfl ?_
      exact ⟨g1,c1,g2,c2,rfl,HF.out⟩
end
end Go.Proofs.YtnpdcjdmbkcpbaaGreat.Ins
