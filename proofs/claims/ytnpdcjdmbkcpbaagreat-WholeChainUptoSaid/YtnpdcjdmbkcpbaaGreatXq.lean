/- The walks of greedy.lower and greedy.Make at the planner of chains. Plain: what Cost and Make tell of a chain, put together. The walk of net.look. No condition. -/
import Derived.Test.YtnpdcjdmbkcpbaaGreatXp
import Derived.Test.YtnpdcjdmbkcpbaaGreatXo
set_option linter.unusedVariables false
set_option linter.unusedSimpArgs false
namespace Go.Proofs.YtnpdcjdmbkcpbaaGreat.Ins
open Go.RowKit
def ChkC (D:NetD):Prop:=∀ w,D.R w→Calls Tryz.prog 27 #[D.val] w fun e w'=>e = .returned (.int .i64 0)∧Oth [] w w'
theorem ChR.form {o:Nat→Nat} {ws cs:List Nat} {cap:Nat} {w w':World} {e:Ending} (h:ChR o ws cs cap w e w'):∃ v k,e = .returned (.tuple #[v,.int .i64 k]):=by
  rcases h with ⟨-,rfl⟩ | ⟨-,g,c,code,rfl,-⟩
  · exact ⟨_,_,rfl⟩
  · exact ⟨_,_,rfl⟩
theorem ChR.old {o:Nat→Nat} {ws cs:List Nat} {cap:Nat} {w w1 w':World} {e:Ending} (h:ChR o ws cs cap w1 e w') (hs:w.heap.size≤w1.heap.size):ChR o ws cs cap w e w':=by
  rcases h with h | ⟨h1,g,c,code,h2,h3,h4,h5⟩
  · exact .inl h
  · exact .inr ⟨h1,g,c,code,h2,h3,h4,by omega⟩
section
variable {D:NetD} {o π:Nat→Nat} {w:World}
set_option maxRecDepth 100000 in
set_option maxHeartbeats 4000000 in
theorem lower4_any {ws cs:List Nat} {cap:Nat} (hc:Chn D o π) (hO:OrdC D o) (hCh:ChnC D) (hPr:PriC D o ws cs) (hlw:ws.length=D.n + 1) (hlc:cs.length=D.n) (hr:D.R w) (hf:Fine ws cs cap) (hcap:cap≤4096) :
    Calls Tryz.prog 28 #[D.val,.int .i64 4,.int .i64 cap] w fun e w'=>ChR o ws cs cap w e w'∧Oth [] w w':=by
  obtain ⟨gN,oN,hb,hnd⟩:=hc.nodes hr
  have hval:D.val = .agg #[.slice D.i.b D.i.n D.i.c,.slice (some ⟨gN,oN,none⟩) D.n D.c]:=by unfold NetD.val;rw [hb];rfl
  have NC:Hid (∀ w',Oth [] w w'→Calls Tryz.prog 74 #[D.val,.int .i64 cap] w' fun e w2=>(ChR o ws cs cap w e w2∧∃ v k,e = .returned (.tuple #[v,.int .i64 k]))∧Oth [] w' w2):=fun w' ho=>(chained_any hc hO hCh hPr hlw hlc (hr.oth ho) hf hcap).mono fun e w2 h=>⟨⟨h.1.old ho.size,h.1.form⟩,h.2⟩
  rw [hval] at NC ⊢
  have HBX:Hid (∀ w',Oth [] (w.alloc (.cells #[.slice D.i.b D.i.n D.i.c,.slice (some ⟨gN,oN,none⟩) D.n D.c] 26)) w'→Oth [] w w'):=fun w' ho=>(net_box ho).1
  clear hr hnd hb hval hO hPr hCh hc hlw hlc hf
  go_enter Tryz.func28,Tryz.ntmps28
  go_wp2_with (go_at_call 74;(with_reducible refine (NC.out _ ((Oth.refl [] w).alloc _)).mono ?_);rintro e w1 ⟨⟨hR,v,k,rfl⟩,ho1⟩;replace ho1:=Lib.hid ho1;replace hR:=Lib.hid hR)
  go_ret2
  exact ⟨hR.out,HBX.out _ ho1.out⟩
def MakR (ws cs:List Nat) (cap:Nat) (e:Ending):Prop:=
  (1099511627776 < vl (par0 (min cap (wsum ws cs.length)) ws cs) 0 cs.length (min cap (wsum ws cs.length))∧e = .returned (.tuple #[.agg #[.int .i64 0,.slice none 0 0,.int .i64 0,.int .i64 0,.int .i64 0,.int .i64 0],.int .i64 26])) ∨
  (vl (par0 (min cap (wsum ws cs.length)) ws cs) 0 cs.length (min cap (wsum ws cs.length))≤1099511627776∧∃ (sb:Option Addr) (sn sc pk:Nat) (x y:Int),pk≤cap∧e = .returned (.tuple #[.agg #[.int .i64 4,.slice sb sn sc,.int .i64 pk,.int .i64 (vl (par0 (min cap (wsum ws cs.length)) ws cs) 0 cs.length (min cap (wsum ws cs.length)):Nat),.int .i64 x,.int .i64 y],.int .i64 0]))
theorem six_set {w:World} {b:Nat} {a0 a1 a2 a3 a4 a5 x0 x1 x2 x3 x4 x5:Value} {t:TypeId} (h:w.heap[b]?=some (.cells #[a0,a1,a2,a3,a4,a5] t (0,0))) :
    ((((((w.setCell ⟨b,0,none⟩ x0).setCell ⟨b,1,none⟩ x1).setCell ⟨b,2,none⟩ x2).setCell ⟨b,3,none⟩ x3).setCell ⟨b,4,none⟩ x4).setCell ⟨b,5,none⟩ x5).heap[b]?=some (.cells #[x0,x1,x2,x3,x4,x5] t (0,0)):=by
  simp [World.setCell,Array.getElem?_modify,h]
theorem six_oth {S:List Nat} {a w:World} {b:Nat} {x0 x1 x2 x3 x4 x5:Value} (h:Oth S a w) (hb:a.heap.size≤b):Oth S a ((((((w.setCell ⟨b,0,none⟩ x0).setCell ⟨b,1,none⟩ x1).setCell ⟨b,2,none⟩ x2).setCell ⟨b,3,none⟩ x3).setCell ⟨b,4,none⟩ x4).setCell ⟨b,5,none⟩ x5):=
  (((((h.setCell (.inr hb) _).setCell (.inr hb) _).setCell (.inr hb) _).setCell (.inr hb) _).setCell (.inr hb) _).setCell (.inr hb) _
theorem six_at {w:World} {b:Nat} {x0 x1 x2 x3 x4 x5:Value} {t:TypeId} (h:w.heap[b]?=some (.cells #[x0,x1,x2,x3,x4,x5] t (0,0))) :
    w.cell? ⟨b,0,none⟩=some x0∧w.cell? ⟨b,1,none⟩=some x1∧w.cell? ⟨b,2,none⟩=some x2∧w.cell? ⟨b,3,none⟩=some x3∧w.cell? ⟨b,4,none⟩=some x4∧w.cell? ⟨b,5,none⟩=some x5∧(∀ j,w.frozen? ⟨b,j,none⟩=false)∧b < w.heap.size:=by
  refine ⟨?_,?_,?_,?_,?_,?_,fun j=>?_,lt_of_block h⟩
  any_goals (rw [World.cell?,h];rfl)
  rw [World.frozen?,h];rfl
theorem plan_run {ws cs:List Nat} {cap M:Nat} {code:List (Nat × Nat)} {e:Ending} (hp:PlanD ws cs cs.length cap M code) (h:RunR ws cs cs.length cap code e) :
    if vl (par0 M ws cs) 0 cs.length M≤1099511627776 then ∃ (pk:Nat) (x y:Int),pk≤cap∧e = .returned (.tuple #[.agg #[.int .i64 pk,.int .i64 (vl (par0 M ws cs) 0 cs.length M:Nat),.int .i64 x,.int .i64 y],.int .i64 0]) else ErrS e:=by
  obtain ⟨σ,r1,r2,r3,r4⟩:=hp.run
  have hk:=hp.cost
  unfold RunR at h
  rw [r1] at h
  simp only [r2,r3,decide_true,Bool.and_true,Bool.true_and,decide_eq_true_eq,hk] at h
  split
  · rename_i hv
    rw [if_pos hv] at h
    obtain ⟨x,y,rfl⟩:=h
    exact ⟨σ.peak,x,y,r4,rfl⟩
  · rename_i hv
    rw [if_neg hv] at h
    exact h
set_option maxRecDepth 100000 in
set_option maxHeartbeats 4000000 in
theorem make_any {ws cs:List Nat} {cap:Nat} (hc:Chn D o π) (hO:OrdC D o) (hL:LosC D o) (hCh:ChnC D) (hCk:ChkC D) (hPr:PriC D o ws cs) (hlw:ws.length=D.n + 1) (hlc:cs.length=D.n) (hr:D.R w) (hf:Fine ws cs cap) (hcap:cap≤4096) :
    Calls Tryz.prog 10 #[D.val,.int .i64 4,.int .i64 cap] w fun e w'=>MakR ws cs cap e∧Oth [] w w':=by
  obtain ⟨gN,oN,hb,hnd⟩:=hc.nodes hr
  have hval:D.val = .agg #[.slice D.i.b D.i.n D.i.c,.slice (some ⟨gN,oN,none⟩) D.n D.c]:=by unfold NetD.val;rw [hb];rfl
  have NK:Hid (∀ w',Oth [] w w'→Calls Tryz.prog 27 #[D.val] w' fun e w2=>e = .returned (.int .i64 0)∧Oth [] w' w2):=fun w' ho=>hCk _ (hr.oth ho)
  have NL:Hid (∀ w',Oth [] w w'→Calls Tryz.prog 28 #[D.val,.int .i64 4,.int .i64 cap] w' fun e w2=>ChR o ws cs cap w e w2∧Oth [] w' w2):=fun w' ho=>(lower4_any hc hO hCh hPr hlw hlc (hr.oth ho) hf hcap).mono fun e w2 h=>⟨h.1.old ho.size,h.2⟩
  have NR:Hid (∀ w' g c code,Oth [] w w'→Row 63 2 g (List.length code) c (cds (rawc o code)) w'→PlanD ws cs cs.length cap (min cap (wsum ws cs.length)) code→Calls Tryz.prog 26 #[D.val,.slice (some ⟨g,0,none⟩) code.length c,.int .i64 cap] w' fun e w2=>RunR ws cs cs.length cap code e∧Oth [] w' w2):=fun w' g c code ho hrow hp=>by
    have h9:=run_any (cap:=cap) hc hO hL hPr hlc (hr.oth ho) hrow hp.len.2 (by rw [← hlc];exact hp.right) hcap (fun p hp=>(hf.wb p (by omega)).2) (fun p hp=>hf.cb p (by omega))
    rw [hlc];exact h9
  rw [hval] at NK NL NR ⊢
  have HBX:Hid (∀ w',Oth [] ((w.alloc (.cells #[.slice D.i.b D.i.n D.i.c,.slice (some ⟨gN,oN,none⟩) D.n D.c] 26)).alloc (.cells #[.int .i64 0,.slice none 0 0,.int .i64 0,.int .i64 0,.int .i64 0,.int .i64 0] 37)) w' →
      Oth [] w w'∧(w'.cell? ⟨w.heap.size,0,none⟩=some (.slice D.i.b D.i.n D.i.c)∧w'.cell? ⟨w.heap.size,1,none⟩=some (.slice (some ⟨gN,oN,none⟩) D.n D.c))∧w'.heap[w.heap.size + 1]?=some (.cells #[.int .i64 0,.slice none 0 0,.int .i64 0,.int .i64 0,.int .i64 0,.int .i64 0] 37 (0,0))):=fun w' ho=>by
    have h9:=heap_alloc_new (w.alloc (.cells #[.slice D.i.b D.i.n D.i.c,.slice (some ⟨gN,oN,none⟩) D.n D.c] 26)) (.cells #[.int .i64 0,.slice none 0 0,.int .i64 0,.int .i64 0,.int .i64 0,.int .i64 0] 37)
    rw [World.size_alloc] at h9
    have h8:=net_box ((Oth.refl [] (w.alloc (.cells #[.slice D.i.b D.i.n D.i.c,.slice (some ⟨gN,oN,none⟩) D.n D.c] 26))).alloc (.cells #[.int .i64 0,.slice none 0 0,.int .i64 0,.int .i64 0,.int .i64 0,.int .i64 0] 37) |>.trans ho (Fr.nil _ _))
    exact ⟨h8.1,h8.2,ho.heap h9 (by simp)⟩
  obtain ⟨M,hM⟩:∃ M,M=min cap (wsum ws cs.length):=⟨_,rfl⟩
  unfold ChR at NL
  unfold MakR
  rw [← hM] at NL NR ⊢
  obtain ⟨V,hV⟩:∃ V,V=vl (par0 M ws cs) 0 cs.length M:=⟨_,rfl⟩
  have HV:=Lib.hid hV
  clear hr hnd hb hval hO hPr hCh hc hlw hlc hL hCk hf hM
  by_cases hv:nn≤V
  · have NL2:Hid (∀ w',Oth [] w w'→Calls Tryz.prog 28 #[.agg #[.slice D.i.b D.i.n D.i.c,.slice (some ⟨gN,oN,none⟩) D.n D.c],.int .i64 4,.int .i64 cap] w' fun e w2=>e = .returned (.tuple #[.slice none 0 0,.int .i64 26])∧Oth [] w' w2):=fun w' ho=>(NL.out w' ho).mono (by
      rintro e w2 ⟨⟨-,rfl⟩ | ⟨h,-⟩,h2⟩
      · exact ⟨rfl,h2⟩
      · omega)
    clear NL NR
    have hfin:1099511627776 < V:=by unfold nn at hv;omega
    simp only [← hV]
    replace hfin:=Lib.hid hfin
    clear hv hV
    go_enter Tryz.func10,Tryz.ntmps10
    go_wp2_with (first
      | (go_at_call 27;(with_reducible refine (NK.out _ (HBX.out _ (Oth.refl _ _)).1).mono ?_);rintro e w1 ⟨rfl,ho1⟩;obtain ⟨p0,⟨p1,p2⟩,p3⟩:=HBX.out _ ho1;have l1:=World.block_lt_of_cell? _ _ p1;replace ho1:=Lib.hid ho1;replace p0:=Lib.hid p0;replace p3:=Lib.hid p3)
      | (go_at_call 28;(with_reducible refine (NL2.out _ p0.out).mono ?_);rintro e w2 ⟨rfl,ho2⟩;have p5:=ho2.heap p3.out (by simp);obtain ⟨z0,z1,z2,z3,z4,z5,z6,z7⟩:=six_at p5;replace p5:=Lib.hid p5;replace ho2:=Lib.hid ho2))
    refine bodyPost_ret (res_cell_tmp rfl _ _ (w.heap.size + 1) 37 #[.int .i64 0,.slice none 0 0,.int .i64 0,.int .i64 0,.int .i64 0,.int .i64 0] (0,0) _ rfl (six_set p5.out) Tryz.underlying37 rfl (by kernel_rfl)) rfl ⟨?_,?_⟩
    · exact .inl ⟨hfin.out,rfl⟩
    · exact six_oth (p0.out.trans ho2.out (Fr.nil _ _)) (by omega)
  · have NL2:Hid (∀ w',Oth [] w w'→Calls Tryz.prog 28 #[.agg #[.slice D.i.b D.i.n D.i.c,.slice (some ⟨gN,oN,none⟩) D.n D.c],.int .i64 4,.int .i64 cap] w' fun e w2=>(∃ g c code,e = .returned (.tuple #[.slice (some ⟨g,0,none⟩) (List.length code) c,.int .i64 0])∧PlanD ws cs cs.length cap M code∧Row 63 2 g code.length c (cds (rawc o code)) w2)∧Oth [] w' w2):=fun w' ho=>(NL.out w' ho).mono (by
      rintro e w2 ⟨⟨h,-⟩ | ⟨-,g,c,code,k1,k2,k3,k4⟩,h2⟩
      · omega
      · exact ⟨⟨g,c,code,k1,k2,k3⟩,h2⟩)
    clear NL hv
    by_cases hv:V≤1099511627776
    · have NR2:Hid (∀ w' g c code,Oth [] w w'→Row 63 2 g (List.length code) c (cds (rawc o code)) w'→PlanD ws cs cs.length cap M code→Calls Tryz.prog 26 #[.agg #[.slice D.i.b D.i.n D.i.c,.slice (some ⟨gN,oN,none⟩) D.n D.c],.slice (some ⟨g,0,none⟩) code.length c,.int .i64 cap] w' fun e w2=>(∃ (pk:Nat) (x y:Int),pk≤cap∧e = .returned (.tuple #[.agg #[.int .i64 pk,.int .i64 (V:Nat),.int .i64 x,.int .i64 y],.int .i64 0]))∧Oth [] w' w2):=fun w' g c code h1 h2 h3=>(NR.out w' g c code h1 h2 h3).mono fun e w2 h=>⟨by
        have h9:=plan_run h3 h.1
        rw [← hV,if_pos hv] at h9
        exact h9,h.2⟩
      simp only [← hV]
      clear NR
      replace hv:=Lib.hid hv
      clear hV
      go_enter Tryz.func10,Tryz.ntmps10
      go_wp2_with (first
        | (go_at_call 27;(with_reducible refine (NK.out _ (HBX.out _ (Oth.refl _ _)).1).mono ?_);rintro e w1 ⟨rfl,ho1⟩;obtain ⟨p0,⟨p1,p2⟩,p3⟩:=HBX.out _ ho1;have l1:=World.block_lt_of_cell? _ _ p1;replace ho1:=Lib.hid ho1;replace p0:=Lib.hid p0;replace p3:=Lib.hid p3)
        | (go_at_call 28;(with_reducible refine (NL2.out _ p0.out).mono ?_);rintro e w2 ⟨⟨g,c,code,rfl,hPD,hrow⟩,ho2⟩;have p4:=ho2.cell p1 (by simp);have p5:=ho2.cell p2 (by simp);have l2:=World.block_lt_of_cell? _ _ p4;replace ho2:=Lib.hid ho2;replace hPD:=Lib.hid hPD;replace hrow:=Lib.hid hrow)
        | (go_at_call 26;(with_reducible refine (NR2.out _ _ _ _ (p0.out.trans ho2.out (Fr.nil _ _)) hrow.out hPD.out).mono ?_);rintro e w3 ⟨⟨pk,x,y,hpk,rfl⟩,ho3⟩;replace ho3:=Lib.hid ho3;have p6:=(((ho2.out.trans ho3.out (Fr.nil _ _)).alloc (.cells #[.int .i64 pk,.int .i64 V,.int .i64 x,.int .i64 y] 30))).heap p3.out (by simp);obtain ⟨z0,z1,z2,z3,z4,z5,z6,z7⟩:=six_at p6;replace p6:=Lib.hid p6))
      refine bodyPost_ret (res_cell_tmp rfl _ _ (w.heap.size + 1) 37 #[.int .i64 4,.slice (some ⟨g,0,none⟩) code.length c,.int .i64 pk,.int .i64 V,.int .i64 x,.int .i64 y] (0,0) _ rfl (six_set p6.out) Tryz.underlying37 rfl (by kernel_rfl)) rfl ⟨?_,?_⟩
      · exact .inr ⟨hv.out,_,_,_,pk,x,y,hpk,rfl⟩
      · exact six_oth (p0.out.trans ((ho2.out.trans ho3.out (Fr.nil _ _)).alloc _) (Fr.nil _ _)) (by omega)
    · have NR2:Hid (∀ w' g c code,Oth [] w w'→Row 63 2 g (List.length code) c (cds (rawc o code)) w'→PlanD ws cs cs.length cap M code→Calls Tryz.prog 26 #[.agg #[.slice D.i.b D.i.n D.i.c,.slice (some ⟨gN,oN,none⟩) D.n D.c],.slice (some ⟨g,0,none⟩) code.length c,.int .i64 cap] w' fun e w2=>(∃ k:Int,k≠0∧e = .returned (.tuple #[.agg #[.int .i64 0,.int .i64 0,.int .i64 0,.int .i64 0],.int .i64 k]))∧Oth [] w' w2):=fun w' g c code h1 h2 h3=>(NR.out w' g c code h1 h2 h3).mono fun e w2 h=>⟨by
        have h9:=plan_run h3 h.1
        rw [← hV,if_neg hv] at h9
        exact h9,h.2⟩
      simp only [← hV]
      clear NR
      replace hv:=Lib.hid hv
      clear hV
      go_enter Tryz.func10,Tryz.ntmps10
      go_wp2_with (first
        | (go_at_call 27;(with_reducible refine (NK.out _ (HBX.out _ (Oth.refl _ _)).1).mono ?_);rintro e w1 ⟨rfl,ho1⟩;obtain ⟨p0,⟨p1,p2⟩,p3⟩:=HBX.out _ ho1;have l1:=World.block_lt_of_cell? _ _ p1;replace ho1:=Lib.hid ho1;replace p0:=Lib.hid p0;replace p3:=Lib.hid p3)
        | (go_at_call 28;(with_reducible refine (NL2.out _ p0.out).mono ?_);rintro e w2 ⟨⟨g,c,code,rfl,hPD,hrow⟩,ho2⟩;have p4:=ho2.cell p1 (by simp);have p5:=ho2.cell p2 (by simp);have l2:=World.block_lt_of_cell? _ _ p4;replace ho2:=Lib.hid ho2;replace hPD:=Lib.hid hPD;replace hrow:=Lib.hid hrow))
      go_at_call 26
      (with_reducible refine (NR2.out _ _ _ _ (p0.out.trans ho2.out (Fr.nil _ _)) hrow.out hPD.out).mono ?_)
      rintro e w3 ⟨⟨k,hk,rfl⟩,ho3⟩
      have hx':(k != 0)=true:=by simp [hk]
      replace ho3:=Lib.hid ho3
      have HX:Hid (Oth [] w1 (w3.alloc (.cells #[.int .i64 0,.int .i64 0,.int .i64 0,.int .i64 0] 30))):=(ho2.out.trans ho3.out (Fr.nil _ _)).alloc _
      have p6:=HX.out.heap p3.out (by simp)
      obtain ⟨z0,z1,z2,z3,z4,z5,z6,z7⟩:=six_at p6
      replace p6:=Lib.hid p6
      go_wp2_with fail
      refine bodyPost_ret (res_cell_tmp rfl _ _ (w.heap.size + 1) 37 #[.int .i64 0,.slice none 0 0,.int .i64 0,.int .i64 0,.int .i64 0,.int .i64 0] (0,0) _ rfl (six_set p6.out) Tryz.underlying37 rfl (by kernel_rfl)) rfl ⟨?_,?_⟩
      · exact .inl ⟨by have:=hv.out;omega,rfl⟩
      · exact six_oth (p0.out.trans HX.out (Fr.nil _ _)) (by omega)
end
end Go.Proofs.YtnpdcjdmbkcpbaaGreat.Ins
namespace Go.Proofs.YtnpdcjdmbkcpbaaGreat.Ins
open Go.RowKit
def LawR (cap:Nat) (e1 e2:Ending):Prop:=
  (ErrS e1∧∃ v k,(k=0∨k=26)∧e2 = .returned (.tuple #[v,.int .i64 k])) ∨
  ∃ (pk c x y pl:Int) (sb:Option Addr) (sn sc:Nat) (pk2 c2 x2 y2:Int),e1 = .returned (.tuple #[.agg #[.int .i64 pk,.int .i64 c,.int .i64 x,.int .i64 y],.int .i64 0]) ∧
    e2 = .returned (.tuple #[.agg #[.int .i64 pl,.slice sb sn sc,.int .i64 pk2,.int .i64 c2,.int .i64 x2,.int .i64 y2],.int .i64 0])∧c2≤c∧pk2≤(cap:Int)
theorem MakR.err {ws cs:List Nat} {cap:Nat} {e:Ending} (h:MakR ws cs cap e):∃ v k,(k=0∨k=26)∧e = .returned (.tuple #[v,.int .i64 k]):=by
  rcases h with ⟨-,rfl⟩ | ⟨-,sb,sn,sc,pk,x,y,-,rfl⟩
  · exact ⟨_,26,.inr rfl,rfl⟩
  · exact ⟨_,0,.inl rfl,rfl⟩
theorem law_join {ws cs:List Nat} {cap n:Nat} {o π:Nat→Nat} {l:List Int} {e1 e2:Ending} (hf:Fine ws cs cap) (hn:cs.length=n) (hP:Perm n o π) (h1:CostR ws cs n cap o π l e1) (h2:MakR ws cs cap e2):LawR cap e1 e2:=by
  subst hn
  unfold CostR at h1
  split at h1
  · unfold RunR at h1
    cases hw:wrun ws cs cs.length cap (WS.zero cs.length) (LS.low π (Kf o l) cs.length).code with
    | none=>rw [hw] at h1;exact .inl ⟨h1,h2.err⟩
    | some s=>
      rw [hw] at h1
      simp only at h1
      split at h1
      · rename_i hh
        simp only [Bool.and_eq_true,decide_eq_true_eq] at hh
        obtain ⟨x,y,rfl⟩:=h1
        have hs:=wsum_sw ws cs.length (wsum ws) rfl (fun _=>rfl)
        have hL:=low_law (C:=par0 (min cap (wsum ws cs.length)) ws cs) (rec_full _) hf.n2.1 hP (Kf o l) (cap:=cap) (by show min cap (wsum ws cs.length)=min cap (sw ws 0 cs.length + sw ws 0 cs.length);rw [← hs]) hw
        have hL1:vl (par0 (min cap (wsum ws cs.length)) ws cs) 0 cs.length (min cap (wsum ws cs.length))≤s.cost:=hL.1
        have hL2:s.cost=kcost cs (LS.low π (Kf o l) cs.length).code:=hL.2
        rcases h2 with ⟨h3,-⟩ | ⟨h3,sb,sn,sc,pk,x2,y2,hpk,rfl⟩
        · omega
        · refine .inr ⟨_,_,_,_,_,_,_,_,_,_,_,_,rfl,rfl,?_,?_⟩
          · omega
          · omega
      · exact .inl ⟨h1,h2.err⟩
  · exact .inl ⟨h1,h2.err⟩
def cstN (D:NetD) (f:Nat→List Int) (i:Nat):Int:=match D.L[i]? with
  | none=>0
  | some d=>(d.op.cost (d.P.map Sh.l) (d.ins.map fun x=>f x.toNat)).getD 0
structure ChS (D:NetD) (o π:Nat→Nat) (f:Nat→List Int):Prop where
  c:Chn D o π
  f0:shB (f 0)=true
  sh:∀ p,p < D.n→∃ d,D.L[o (p + 1) - 1]?=some d∧d.ins=[(o p:Int)]∧d.op.shape (d.P.map Sh.l) [f (o p)]=some (f (o (p + 1)))
def wsF (D:NetD) (o:Nat→Nat) (f:Nat→List Int):List Nat:=(List.range (D.n + 1)).map fun p=>(prd (f (o p))).toNat
def csF (D:NetD) (o:Nat→Nat) (f:Nat→List Int):List Nat:=(List.range D.n).map fun p=>(cstN D f (o (p + 1) - 1)).toNat
theorem wsF_len (D:NetD) (o:Nat→Nat) (f:Nat→List Int):(wsF D o f).length=D.n + 1:=by simp [wsF]
theorem csF_len (D:NetD) (o:Nat→Nat) (f:Nat→List Int):(csF D o f).length=D.n:=by simp [csF]
theorem wsF_at {D:NetD} {o:Nat→Nat} {f:Nat→List Int} {p:Nat} (h:p≤D.n):(wsF D o f).getD p 0=(prd (f (o p))).toNat:=by
  rw [List.getD_eq_getElem?_getD,wsF,List.getElem?_map,List.getElem?_range (by omega)];rfl
theorem csF_at {D:NetD} {o:Nat→Nat} {f:Nat→List Int} {p:Nat} (h:p < D.n):(csF D o f).getD p 0=(cstN D f (o (p + 1) - 1)).toNat:=by
  rw [List.getD_eq_getElem?_getD,csF,List.getElem?_map,List.getElem?_range h];rfl
section
variable {D:NetD} {o π:Nat→Nat} {f:Nat→List Int}
theorem ChS.right (h:ChS D o π f) {i:Nat} (hi:i≤D.n):shB (f i)=true:=by
  have h1:=h.c.pm.po i hi
  by_cases e:π i=0
  · rw [← h1.2,e,h.c.pm.o0];exact h.f0
  · obtain ⟨d,-,-,h3⟩:=h.sh (π i - 1) (by omega)
    rw [show π i - 1 + 1=π i by omega,h1.2] at h3
    exact shape_right h3
theorem ChS.node (h:ChS D o π f) {i:Nat} (hi:i < D.n):∃ (d:ND) (j:Nat),D.L[i]?=some d∧d.ins=[(j:Int)]∧j≤D.n∧d.op.shape (d.P.map Sh.l) [f j]=some (f (i + 1)):=by
  have h1:=h.c.pm.po (i + 1) (by omega)
  have h2:=h.c.pm.ppos (p:=i + 1) (by omega) (by omega)
  obtain ⟨d,k1,k2,k3⟩:=h.sh (π (i + 1) - 1) (by omega)
  rw [show π (i + 1) - 1 + 1=π (i + 1) by omega,h1.2] at k1 k3
  exact ⟨d,_,k1,k2,(h.c.pm.op _ (by omega)).1,k3⟩
theorem ChS.cost (h:ChS D o π f) {i:Nat} (hi:i < D.n):∃ (d:ND) (j:Nat),D.L[i]?=some d∧d.ins=[(j:Int)]∧j≤D.n∧d.op.cost (d.P.map Sh.l) [f j]=some (cstN D f i):=by
  obtain ⟨d,j,h1,h2,h3,h4⟩:=h.node hi
  refine ⟨d,j,h1,h2,h3,?_⟩
  have e:cstN D f i=(d.op.cost (d.P.map Sh.l) [f j]).getD 0:=by
    unfold cstN
    rw [h1]
    simp only [h2,List.map_cons,List.map_nil,Int.toNat_natCast]
  rw [e]
  have:∃ k,d.op.cost (d.P.map Sh.l) [f j]=some k:=by
    unfold OpD.cost
    rw [h4]
    exact ⟨_,rfl⟩
  obtain ⟨k,hk⟩:=this
  rw [hk];rfl
theorem ChS.cb (h:ChS D o π f) {i:Nat} (hi:i < D.n):0≤cstN D f i∧cstN D f i≤4294967296:=by
  obtain ⟨d,j,-,-,-,h4⟩:=h.cost hi
  exact cost_bound h4
theorem ChS.fine (h:ChS D o π f) {cap:Nat} (hc:cap≤4096):Fine (wsF D o f) (csF D o f) cap:=by
  refine ⟨by rw [wsF_len,csF_len],by rw [csF_len];exact h.c.n1,fun i hi=>?_,fun i hi=>?_,by omega⟩
  · rw [wsF_len] at hi
    rw [wsF_at (by omega)]
    have h1:=h.c.pm.op i (by omega)
    have h2:=shB_prd (h.right h1.1)
    omega
  · rw [csF_len] at hi
    rw [csF_at hi]
    have h1:=h.c.pm.op (i + 1) (by omega)
    have h2:=h.c.pm.opos (p:=i + 1) (by omega) (by omega)
    have h3:=h.cb (i:=o (i + 1) - 1) (by omega)
    omega
end
theorem look_parts {D:NetD} {O:List Int} {f:Nat→List Int} {l:Nat} (h:D.look=some (O,f,l)) :
    (1≤D.n∧D.n≤512)∧shB D.i.l=true∧D.L.all (ND.ok D.n)=true∧O=D.ord∧O.length=D.n∧layF D O D.n=some f∧l=(lossF D.I (D.n + 1)).1∧shB (f l)=true:=by
  unfold NetD.look at h
  split at h
  · rename_i h1
    cases h2:layF D D.ord D.n with
    | none=>rw [h2] at h;cases h
    | some g=>
      rw [h2] at h
      simp only at h
      split at h
      · rename_i h3
        cases h
        exact ⟨h1.1,h1.2.1,h1.2.2.1,rfl,h1.2.2.2,h2,rfl,h3.2.2.1⟩
      · cases h
  · cases h
def NetD.chain (D:NetD):Bool:=match D.look with
  | none=>false
  | some (O,_,_)=>chainB D O D.n
theorem chain_all {D:NetD} (hn:D.n≤64) (hI:∀ d∈D.L,d.ins.length≤300) (hl:D.n=D.L.length) (h:D.chain=true) :
    ∃ O f,D.look=some (O,f,oF O D.n)∧O.length=D.n∧(∀ x∈O,1≤x∧x≤(D.n:Int))∧ChS D (oF O) (pF O) f:=by
  unfold NetD.chain at h
  cases h1:D.look with
  | none=>rw [h1] at h;cases h
  | some p=>
    obtain ⟨O,f,l⟩:=p
    rw [h1] at h
    simp only at h
    obtain ⟨k1,k2,k3,k4,k5,k6,k7,k8⟩:=look_parts h1
    have hm:∀ x∈O,1≤x∧x≤(D.n:Int):=by
      rw [k4]
      refine sortF_mem (b:=300) (fun l hl=>?_) (by omega)
      obtain ⟨d,hd,rfl⟩:=List.mem_map.1 hl
      exact hI d hd
    have hC:=chn_of hm k5 ⟨k1.1,hn⟩ h
    have hS:=chain_shape hm k5 ⟨k1.1,hn⟩ h k6
    refine ⟨O,f,?_,k5,hm,hC,by rw [hS.1];exact k2,hS.2⟩
    rw [k7,chain_loss hC hl]
end Go.Proofs.YtnpdcjdmbkcpbaaGreat.Ins
namespace Go.Proofs.YtnpdcjdmbkcpbaaGreat.Ins
open Go.RowKit
theorem three_set {w:World} {b:Nat} {a0 a1 a2 x0 x1 x2:Value} {t:TypeId} (h:w.heap[b]?=some (.cells #[a0,a1,a2] t (0,0))) :
    (((w.setCell ⟨b,0,none⟩ x0).setCell ⟨b,1,none⟩ x1).setCell ⟨b,2,none⟩ x2).heap[b]?=some (.cells #[x0,x1,x2] t (0,0)):=by
  simp [World.setCell,Array.getElem?_modify,h]
theorem three_oth {S:List Nat} {a w:World} {b:Nat} {x0 x1 x2:Value} (h:Oth S a w) (hb:a.heap.size≤b):Oth S a (((w.setCell ⟨b,0,none⟩ x0).setCell ⟨b,1,none⟩ x1).setCell ⟨b,2,none⟩ x2):=
  ((h.setCell (.inr hb) _).setCell (.inr hb) _).setCell (.inr hb) _
theorem three_cells {w:World} {b:Nat} {x0 x1 x2:Value} {t:TypeId} (h:w.heap[b]?=some (.cells #[x0,x1,x2] t (0,0))) :
    w.cell? ⟨b,0,none⟩=some x0∧w.cell? ⟨b,1,none⟩=some x1∧w.cell? ⟨b,2,none⟩=some x2∧(∀ j,w.frozen? ⟨b,j,none⟩=false)∧b < w.heap.size:=by
  refine ⟨?_,?_,?_,fun j=>?_,lt_of_block h⟩
  any_goals (rw [World.cell?,h];rfl)
  rw [World.frozen?,h];rfl
def LookE (e:Ending):Prop:=∃ k:Int,k≠0∧e = .returned (.tuple #[.agg #[.slice none 0 0,.slice none 0 0,.int .i64 0],.int .i64 k])
def LookR (D:NetD) (w:World) (e:Ending) (w':World):Prop:=
  match D.look with
  | none=>LookE e
  | some (O,f,l)=>∃ g1 g2,e = .returned (.tuple #[.agg #[.slice (some ⟨g1,0,none⟩) D.n D.n,.slice (some ⟨g2,0,none⟩) (D.n + 1) (D.n + 1),.int .i64 (l:Nat)],.int .i64 0])∧Row 3 1 g1 D.n D.n (ivl O) w'∧ShpR g2 (D.n + 1) f w'∧w.heap.size≤g1∧w.heap.size≤g2
theorem look_bad {D:NetD} {w w':World} {e:Ending} (h:D.look=none) (he:LookE e):LookR D w e w':=by
  unfold LookR;rw [h];exact he
theorem look_not {D:NetD} (h:¬ ((1≤D.n∧D.n≤512)∧shB D.i.l=true∧D.L.all (ND.ok D.n)=true∧D.ord.length=D.n)):D.look=none:=by
  unfold NetD.look;rw [if_neg h]
theorem look_not2 {D:NetD} (h:layF D D.ord D.n=none):D.look=none:=by
  unfold NetD.look
  split
  · rw [h]
  · rfl
theorem look_not3 {D:NetD} {f:Nat→List Int} (h:layF D D.ord D.n=some f) (h2:¬ ((lossF D.I (D.n + 1)).2=1∧(lossF D.I (D.n + 1)).1≠0∧shB (f (lossF D.I (D.n + 1)).1)=true∧prd (f (lossF D.I (D.n + 1)).1)=1)):D.look=none:=by
  unfold NetD.look
  split
  · rw [h]
    simp only
    rw [if_neg h2]
  · rfl
theorem look_yes {D:NetD} {f:Nat→List Int} (h0:(1≤D.n∧D.n≤512)∧shB D.i.l=true∧D.L.all (ND.ok D.n)=true∧D.ord.length=D.n) (h:layF D D.ord D.n=some f)
    (h2:(lossF D.I (D.n + 1)).2=1∧(lossF D.I (D.n + 1)).1≠0∧shB (f (lossF D.I (D.n + 1)).1)=true∧prd (f (lossF D.I (D.n + 1)).1)=1):D.look=some (D.ord,f,(lossF D.I (D.n + 1)).1):=by
  unfold NetD.look
  rw [if_pos h0,h]
  simp only
  rw [if_pos h2]
theorem all_bad {D:NetD} {m:Nat} {d:ND} (hk:D.L[m]?=some d) (h:d.ok D.n=false):D.L.all (ND.ok D.n)=false:=by
  rw [List.all_eq_false]
  exact ⟨d,List.mem_of_getElem? hk,by simp [h]⟩
theorem all_next {D:NetD} {m:Nat} {d:ND} (hk:D.L[m]?=some d) (h0:(D.L.take m).all (ND.ok D.n)=true) (h:d.ok D.n=true):(D.L.take (m + 1)).all (ND.ok D.n)=true:=by
  rw [List.take_add_one,hk,List.all_append,h0]
  simp [h]
theorem insB_next {n j:Nat} {l:List Int} {x:Int} (hk:l[j]?=some x) (h0:insB n (l.take j)=true) (h1:0≤x) (h2:x≤n):insB n (l.take (j + 1))=true:=by
  unfold insB at h0 ⊢
  rw [List.take_add_one,hk,List.all_append,h0]
  simp [h1,h2]
theorem insB_bad {n j:Nat} {l:List Int} {x:Int} (hk:l[j]?=some x) (h:¬ (0≤x∧x≤(n:Int))):insB n l=false:=by
  unfold insB
  rw [List.all_eq_false]
  refine ⟨x,List.mem_of_getElem? hk,?_⟩
  simp;omega
theorem ok_ins {D:NetD} (h:D.L.all (ND.ok D.n)=true):∀ d∈D.L,∀ x∈d.ins,0≤x∧x≤(D.n:Int):=by
  intro d hd x hx
  rw [List.all_eq_true] at h
  have h1:=h d hd
  unfold ND.ok insB at h1
  rw [Bool.and_eq_true,List.all_eq_true] at h1
  have:=h1.2 x hx
  simpa using this
theorem RI.othb {b:Option Addr} {n c g:Nat} {l:List Int} {w w':World} (h:RI b n c l w) (ho:Oth [g] w w') (hb:∀ j x,w.cell? ⟨g,j,none⟩=some (.int .i64 x)→x=0) (hl:∀ k∈l,k≠0):RI b n c l w':=by
  refine ⟨h.len,h.cap,h.wf,fun i k hi=>?_⟩
  obtain ⟨g',off,h1,h2⟩:=h.at_ i k hi
  refine ⟨g',off,h1,ho.cell h2 (fun e=>?_)⟩
  simp at e
  subst e
  exact hl k (List.mem_of_getElem? hi) (hb _ _ h2)
theorem ShpR.othb {g b N:Nat} {f:Nat→List Int} {w w':World} (h:ShpR g N f w) (hg:g≠b) (ho:Oth [b] w w') (hb:∀ j x,w.cell? ⟨b,j,none⟩=some (.int .i64 x)→x=0) (hf:∀ i,∀ k∈f i,k≠0):ShpR g N f w':=by
  obtain ⟨V,h1,h2⟩:=h
  exact ⟨V,h1.oth ho (by simpa using hg),fun i hi=>⟨RI.othb (h2 i hi).1 ho hb (by rw [(h2 i hi).2];exact hf i),(h2 i hi).2⟩⟩
theorem layF_nz {D:NetD} {O:List Int} (h0:shB D.i.l=true):∀ {m:Nat} {f:Nat→List Int},layF D O m=some f→∀ i,∀ k∈f i,k≠0
  | 0,f,h,i,k,hk=>by
    simp only [layF,Option.some.injEq] at h
    subst h
    simp only at hk
    split at hk
    · have:=sides_mem (shB_parts h0).2.1 k hk;omega
    · cases hk
  | m + 1,f,h,i,k,hk=>by
    rw [layF] at h
    cases h1:layF D O m with
    | none=>rw [h1] at h;cases h
    | some g=>
      rw [h1] at h
      cases h2:D.L[(O.getD m 0).toNat - 1]? with
      | none=>rw [h2] at h;cases h
      | some d=>
        rw [h2] at h
        simp only at h
        cases h3:d.op.shape (d.P.map Sh.l) (d.ins.map fun x=>g x.toNat) with
        | none=>rw [h3] at h;cases h
        | some s=>
          rw [h3] at h
          cases h
          simp only at hk
          split at hk
          · have:=sides_mem (shB_parts (shape_right h3)).2.1 k hk;omega
          · exact layF_nz h0 h1 i k hk
theorem three_ints {w:World} {b:Nat} {t:TypeId} (h:w.heap[b]?=some (.cells #[.slice none 0 0,.slice none 0 0,.int .i64 0] t (0,0))):∀ j x,w.cell? ⟨b,j,none⟩=some (.int .i64 x)→x=0:=by
  intro j x hx
  rw [World.cell?,h] at hx
  match j,hx with
  | 0,hx=>simp at hx
  | 1,hx=>simp at hx
  | 2,hx=>simp at hx;exact hx.symm
  | j + 3,hx=>simp at hx
theorem loss_lt (I:List (List Int)) (n:Nat):(lossF I (n + 1)).1≤n:=by
  have h:=(lossF_le I n).1
  rw [lossF]
  split
  · exact h
  · exact Nat.le_refl _
section
variable {D:NetD} {w:World}
set_option maxRecDepth 100000 in
set_option maxHeartbeats 8000000 in
theorem look_any (hr:D.R w) (hn:D.n≤64) (hin:D.i.l.length≤300) (hd:∀ d∈D.L,d.ins.length≤300) :
    Calls Tryz.prog 21 #[D.val] w fun e w'=>LookR D w e w'∧Oth [] w w':=by
  obtain ⟨D0,hD0⟩:∃ D0,D0=D:=⟨_,rfl⟩
  have HBX:Hid (∀ b n c,∀ w',Oth [] ((w.alloc (.cells #[.slice D.i.b D.i.n D.i.c,.slice b n c] 26)).alloc (.cells #[.slice none 0 0,.slice none 0 0,.int .i64 0] 82)) w' →
      Oth [] w w'∧w'.cell? ⟨w.heap.size,0,none⟩=some (.slice D.i.b D.i.n D.i.c)∧w'.cell? ⟨w.heap.size,1,none⟩=some (.slice b n c)∧w'.heap[w.heap.size + 1]?=some (.cells #[.slice none 0 0,.slice none 0 0,.int .i64 0] 82 (0,0))):=fun b n c w' ho=>by
    have h9:=heap_alloc_new (w.alloc (.cells #[.slice D.i.b D.i.n D.i.c,.slice b n c] 26)) (.cells #[.slice none 0 0,.slice none 0 0,.int .i64 0] 82)
    rw [World.size_alloc] at h9
    have h8:=net_box (((Oth.refl [] (w.alloc (.cells #[.slice D.i.b D.i.n D.i.c,.slice b n c] 26))).alloc (.cells #[.slice none 0 0,.slice none 0 0,.int .i64 0] 82)).trans ho (Fr.nil _ _))
    exact ⟨h8.1,h8.2.1,h8.2.2,ho.heap h9 (by simp)⟩
  have hri:RI D.i.b D.i.n D.i.c D.i.l w:=hr.i
  by_cases hn1:D.n < 1
  · have t1:(D.n:Int) < 1:=by omega
    have HN:Hid (D.look=none):=look_not (by omega)
    show Calls Tryz.prog 21 #[.agg #[.slice D.i.b D.i.n D.i.c,.slice D.b D.n D.c]] w _
    obtain ⟨p0,p1,p2,p3⟩:=HBX.out D.b D.n D.c _ (Oth.refl _ _)
    replace p3:=Lib.hid p3
    clear hr hd hin hn1 p0 p1 p2 hri
    go_enter Tryz.func21,Tryz.ntmps21
    go_wp2_with fail
    refine bodyPost_ret (res_cell_tmp rfl _ _ (w.heap.size + 1) 82 #[.slice none 0 0,.slice none 0 0,.int .i64 0] (0,0) _ rfl p3.out Tryz.underlying82 rfl (by kernel_rfl)) rfl ⟨?_,?_⟩
    · exact look_bad HN.out ⟨12,by decide,rfl⟩
    · exact ((Oth.refl _ _).alloc _).alloc _
  have t1:¬ (D.n:Int) < 1:=by omega
  have t2:¬ (512:Int) < (D.n:Int):=by omega
  obtain ⟨gN,oN,hb,hnd⟩:=hr.base (by omega)
  have hval:D.val = .agg #[.slice D.i.b D.i.n D.i.c,.slice (some ⟨gN,oN,none⟩) D.n D.c]:=by unfold NetD.val;rw [hb];rfl
  have HBW:Hid (∀ w',Oth [] ((w.alloc (.cells #[.slice D.i.b D.i.n D.i.c,.slice (some ⟨gN,oN,none⟩) D.n D.c] 26)).alloc (.cells #[.slice none 0 0,.slice none 0 0,.int .i64 0] 82)) w' →
      Oth [] w w'∧w'.cell? ⟨w.heap.size,0,none⟩=some (.slice D.i.b D.i.n D.i.c)∧w'.cell? ⟨w.heap.size,1,none⟩=some (.slice (some ⟨gN,oN,none⟩) D.n D.c)∧w'.heap[w.heap.size + 1]?=some (.cells #[.slice none 0 0,.slice none 0 0,.int .i64 0] 82 (0,0))∧w.heap.size + 1 < w'.heap.size):=fun w' ho=>by
    have h9:=HBX.out _ _ _ w' ho
    exact ⟨h9.1,h9.2.1,h9.2.2.1,h9.2.2.2,lt_of_block h9.2.2.2⟩
  have HND:Hid (∀ w',Oth [] w w'→∀ k d,D.L[k]?=some d→(∀ j v,d.cells[j]?=some v→w'.cell? ⟨gN,oN + k * 10 + j,none⟩=some v)∧d.R w'):=fun w' ho k d hk=>⟨fun j v hj=>ho.cell ((hnd k d hk).1 j v hj) (by simp),(hnd k d hk).2.oth ho⟩
  have N1:Hid (∀ w',Oth [] w w'→Calls Tryz.prog 54 #[.slice D.i.b D.i.n D.i.c] w' fun e w2=>e = .returned (.bool (shB D.i.l))∧Oth [] w' w2):=fun w' ho=>shRight_any (hri.oth ho)
  have HR:=Lib.hid hr
  have HD:=Lib.hid hd
  have HLEN:=Lib.hid hr.len
  have hn9:1≤D.n∧D.n≤64:=⟨by omega,hn⟩
  have HVAL:=Lib.hid hval
  rw [hval]
  clear hr hd hb hnd hval hri HBX
  cases hsh:shB D.i.l with
  | false=>
    rw [hsh] at N1
    have HN:Hid (D.look=none):=look_not (by rw [hsh];simp)
    clear hsh
    go_enter Tryz.func21,Tryz.ntmps21
    go_wp2_with (go_at_call 54;(with_reducible refine (N1.out _ (((Oth.refl _ _).alloc _).alloc _)).mono ?_);rintro e w1 ⟨rfl,ho1⟩;obtain ⟨p0,p1,p2,p3,p4⟩:=HBW.out _ ho1;obtain ⟨z0,z1,z2,z3,-⟩:=three_cells p3;replace p3:=Lib.hid p3;replace p0:=Lib.hid p0)
    refine bodyPost_ret (res_cell_tmp rfl _ _ (w.heap.size + 1) 82 #[.slice none 0 0,.slice none 0 0,.int .i64 0] (0,0) _ rfl (three_set p3.out) Tryz.underlying82 rfl (by kernel_rfl)) rfl ⟨?_,?_⟩
    · exact look_bad HN.out ⟨20,by decide,rfl⟩
    · exact three_oth p0.out (by omega)
  | true=>
    rw [hsh] at N1
    have HSH:=Lib.hid hsh
    clear hsh
    go_enter Tryz.func21,Tryz.ntmps21
    go_wp2_with (go_at_call 54;(with_reducible refine (N1.out _ (((Oth.refl _ _).alloc _).alloc _)).mono ?_);rintro e w1 ⟨rfl,ho1⟩;obtain ⟨p0,p1,p2,p3,p4⟩:=HBW.out _ ho1;replace p3:=Lib.hid p3;replace p0:=Lib.hid p0;replace ho1:=Lib.hid ho1)
    clear p1 p2 p3 p4 p0
    go_loopw [34] (fun x wr=>∃ m:Nat,m≤D.n∧x = .int .i64 m∧(D.L.take m).all (ND.ok D.n)=true∧Oth [] ((w.alloc (.cells #[.slice D.i.b D.i.n D.i.c,.slice (some ⟨gN,oN,none⟩) D.n D.c] 26)).alloc (.cells #[.slice none 0 0,.slice none 0 0,.int .i64 0] 82)) wr) (fun x _=>D.n - (intOf x).toNat)
    case atStart=>exact ⟨0,by omega,rfl,rfl,ho1.out⟩
    case round=>
      rename World=>wo
      obtain ⟨m,hm,rfl,hok,ho⟩:=hrel
      obtain ⟨p0,p1,p2,p3,p4⟩:=HBW.out wo ho
      by_cases hlt:m < D.n
      · have t3:(m:Int) < D.n:=by omega
        obtain ⟨d,hk⟩:∃ d,D.L[m]?=some d:=⟨_,List.getElem?_eq_getElem (by rw [← HLEN.out];exact hlt)⟩
        obtain ⟨j2,j3⟩:=HND.out wo p0 m d hk
        have hdd:=HD.out d (List.mem_of_getElem? hk)
        have HBAD:Hid (d.ok D.n=false→D.look=none):=fun h=>look_not (by rw [all_bad hk h];simp)
        have HNEXT:Hid (d.ok D.n=true→(D.L.take (m + 1)).all (ND.ok D.n)=true):=all_next hk hok
        have hokd:d.ok D.n=(d.op.right && insB D.n d.ins):=rfl
        obtain ⟨o,bi,ni,ci,ins,bp,np,cp,P⟩:=d
        dsimp only at hokd hdd
        rw [hokd] at HBAD HNEXT
        have c0:=j2 0 _ rfl
        have c1:=j2 1 _ rfl
        have c2:=j2 2 _ rfl
        have c3:=j2 3 _ rfl
        have c4:=j2 4 _ rfl
        have c5:=j2 5 _ rfl
        have c6:=j2 6 _ rfl
        have c7:=j2 7 _ rfl
        have c8:=j2 8 _ rfl
        have c9:=j2 9 _ rfl
        rw [Nat.add_zero] at c0
        have l2:=World.block_lt_of_cell? _ _ c0
        have hni:ni=ins.length:=j3.ins.len
        have hni2:ni≤300:=by rw [hni];exact hdd
        have HIN:Hid (RI bi ni ci ins w):=(HND.out w (Oth.refl _ _) m _ hk).2.ins
        have hop:=j3.op
        have hopv:o.val = .agg #[.int .i64 o.kind,.int .i64 o.k,.int .i64 o.width,.int .i64 o.step,.int .i64 o.side,.int .i64 o.fr,.int .i64 o.to,.slice o.b o.n o.c]:=rfl
        have N2:Hid (∀ w',Oth [] wo w'→Calls Tryz.prog 55 #[.agg #[.int .i64 o.kind,.int .i64 o.k,.int .i64 o.width,.int .i64 o.step,.int .i64 o.side,.int .i64 o.fr,.int .i64 o.to,.slice o.b o.n o.c]] w' fun e w2=>e = .returned (.bool o.right)∧Oth [] w' w2):=fun w' ho=>by
          rw [← hopv];exact opRight_any (hop.oth ho)
        have HNI:=Lib.hid hni
        have HOO:=Lib.hid ho
        have HP3:=Lib.hid p3
        dsimp only at c0 c1 c2 c3 c4 c5 c6 c7 c8 c9
        have e4:IntKind.i64.wrap ((m:Int) + 1)=(m:Int) + 1:=IntWalk.i64_in _ (by omega)
        have HPN:Hid (∀ w',Oth [] (wo.alloc (.cells #[.int .i64 o.kind,.int .i64 o.k,.int .i64 o.width,.int .i64 o.step,.int .i64 o.side,.int .i64 o.fr,.int .i64 o.to,.slice o.b o.n o.c,.slice bi ni ci,.slice bp np cp] 80)) w'→Oth [] wo w'∧w'.cell? ⟨wo.heap.size,8,none⟩=some (.slice bi ni ci)∧wo.heap.size < w'.heap.size):=fun w' h=>by
          have h9:=h.heap (heap_alloc_new wo (.cells #[.int .i64 o.kind,.int .i64 o.k,.int .i64 o.width,.int .i64 o.step,.int .i64 o.side,.int .i64 o.fr,.int .i64 o.to,.slice o.b o.n o.c,.slice bi ni ci,.slice bp np cp] 80)) (by simp)
          exact ⟨((Oth.refl [] wo).alloc _).trans h (Fr.nil _ _),by rw [World.cell?,h9];rfl,lt_of_block h9⟩
        have HP0:=Lib.hid p0
        clear j2 j3 hk hdd hni ho p0 p1 p2 p3 p4 hok hokd hop hopv
        cases hrt:o.right with
        | false=>
          rw [hrt] at N2
          have HN:Hid (D.look=none):=HBAD.out (by rw [hrt];rfl)
          clear hrt
          go_wp2_with (go_at_call 55;(with_reducible refine (N2.out _ ((Oth.refl _ _).alloc _)).mono ?_);rintro e w2 ⟨rfl,ho2⟩;have h3:=(((Oth.refl [] wo).alloc _).trans ho2 (Fr.nil _ _)).heap HP3.out (by simp);obtain ⟨z0,z1,z2,z3,z4⟩:=three_cells h3;replace h3:=Lib.hid h3;replace ho2:=Lib.hid ho2)
          refine bodyPost_ret (res_cell_tmp rfl _ _ (w.heap.size + 1) 82 #[.slice none 0 0,.slice none 0 0,.int .i64 0] (0,0) _ rfl (three_set h3.out) Tryz.underlying82 rfl (by kernel_rfl)) rfl ⟨?_,?_⟩
          · exact look_bad HN.out ⟨21,by decide,rfl⟩
          · exact three_oth ((HP0.out.alloc _).trans ho2.out (Fr.nil _ _)) (by omega)
        | true=>
          rw [hrt] at N2 HBAD HNEXT
          rw [Bool.true_and] at HBAD HNEXT
          clear hrt
          go_wp2_with (go_at_call 55;(with_reducible refine (N2.out _ ((Oth.refl _ _).alloc _)).mono ?_);rintro e w2 ⟨rfl,ho2⟩;obtain ⟨q0,q1,q2⟩:=HPN.out _ ho2;replace ho2:=Lib.hid ho2;replace q0:=Lib.hid q0)
          go_loopw [46] (fun y w3=>∃ j:Nat,j≤ni∧y = .int .i64 j∧insB D.n (ins.take j)=true∧Oth [] ((w.alloc (.cells #[.slice D.i.b D.i.n D.i.c,.slice (some ⟨gN,oN,none⟩) D.n D.c] 26)).alloc (.cells #[.slice none 0 0,.slice none 0 0,.int .i64 0] 82)) w3) (fun y _=>ni - (intOf y).toNat)
          case atStart=>exact ⟨0,by omega,rfl,rfl,(HOO.out.alloc _).trans ho2.out (Fr.nil _ _)⟩
          case round=>
            obtain ⟨j,hj,rfl,hib,ho⟩:=hrel
            obtain ⟨p0,p1,p2,p3,p4⟩:=HBW.out wr ho
            by_cases hlj:j < ni
            · have t4:(j:Int) < ni:=by omega
              obtain ⟨x,hx⟩:∃ x,ins[j]?=some x:=⟨_,List.getElem?_eq_getElem (by rw [← HNI.out];exact hlj)⟩
              obtain ⟨gi,oi,rfl,hc⟩:=(HIN.out.oth p0).at_ j x hx
              have lgi:=World.block_lt_of_cell? _ _ hc
              have e5:IntKind.i64.wrap ((j:Int) + 1)=(j:Int) + 1:=IntWalk.i64_in _ (by omega)
              by_cases hxb:0≤x∧x≤(D.n:Int)
              · have t5:¬ x < 0:=by omega
                have t6:¬ (D.n:Int) < x:=by omega
                have HF:=Lib.hid (And.intro (insB_next hx hib hxb.1 hxb.2) ho)
                clear hx hib ho p0 p3 hxb
                go_wp2_with fail
                go_roundw
                case rel=>exact ⟨j + 1,by omega,by go_num,HF.out.1,HF.out.2⟩
                case measure=>simp [intOf];omega
              · have HN:Hid (D.look=none):=HBAD.out (insB_bad hx hxb)
                obtain ⟨z0,z1,z2,z3,z4⟩:=three_cells p3
                replace p3:=Lib.hid p3
                replace p0:=Lib.hid p0
                by_cases t5:x < 0
                · clear hx hib ho hxb
                  go_wp2_with fail
                  refine bodyPost_ret (res_cell_tmp rfl _ _ (w.heap.size + 1) 82 #[.slice none 0 0,.slice none 0 0,.int .i64 0] (0,0) _ rfl (three_set p3.out) Tryz.underlying82 rfl (by kernel_rfl)) rfl ⟨?_,?_⟩
                  · exact look_bad HN.out ⟨11,by decide,rfl⟩
                  · exact three_oth p0.out (by omega)
                · have t6:(D.n:Int) < x:=by omega
                  clear hx hib ho hxb
                  go_wp2_with fail
                  refine bodyPost_ret (res_cell_tmp rfl _ _ (w.heap.size + 1) 82 #[.slice none 0 0,.slice none 0 0,.int .i64 0] (0,0) _ rfl (three_set p3.out) Tryz.underlying82 rfl (by kernel_rfl)) rfl ⟨?_,?_⟩
                  · exact look_bad HN.out ⟨11,by decide,rfl⟩
                  · exact three_oth p0.out (by omega)
            · obtain rfl:j=ni:=by omega
              have t4:¬ (j:Int) < j:=by omega
              have hft:ins.take j=ins:=by rw [HNI.out,List.take_length]
              rw [hft] at hib
              have HF:=Lib.hid (And.intro (HNEXT.out hib) ho)
              clear hib ho p0 p1 p2 p3 p4 hft
              go_wp2_with fail
              go_roundw
              case rel=>exact ⟨m + 1,by omega,by go_num,HF.out.1,HF.out.2⟩
              case measure=>simp [intOf];omega
      · obtain rfl:m=D.n:=by omega
        have t3:¬ (D.n:Int) < (D.n:Int):=by omega
        have hall:D.L.all (ND.ok D.n)=true:=by
          rw [HLEN.out,List.take_length] at hok
          rw [HLEN.out];exact hok
        have hdd:∀ d∈D.L,d.ins.length≤300∧∀ x∈d.ins,0≤x∧x≤(D.n:Int):=fun d hd=>⟨HD.out d hd,ok_ins hall d hd⟩
        have hval:=HVAL.out
        have N3:Hid (∀ w',Oth [] w w'→Calls Tryz.prog 56 #[.agg #[.slice D.i.b D.i.n D.i.c,.slice (some ⟨gN,oN,none⟩) D.n D.c]] w' fun e w2=>SrtR D w' e w2∧Oth [] w' w2):=fun w' ho=>by
          rw [← hval];exact sorted_any (HR.out.oth ho) hn9 hdd
        have N5:Hid (∀ w',Oth [] w w'→Calls Tryz.prog 58 #[.agg #[.slice D.i.b D.i.n D.i.c,.slice (some ⟨gN,oN,none⟩) D.n D.c]] w' fun e w2=>e = .returned (.tuple #[.int .i64 (lossF D.I (D.n + 1)).1,.bool (decide ((lossF D.I (D.n + 1)).2=1∧(lossF D.I (D.n + 1)).1≠0))])∧Oth [] w' w2):=fun w' ho=>by
          rw [← hval];exact unused_any (HR.out.oth ho) hn9 hdd
        obtain ⟨ol,hol⟩:∃ ol,ol=D.ord.length:=⟨_,rfl⟩
        have hm9:∀ x∈D.ord,1≤x∧x≤(D.n:Int):=sortF_mem (b:=300) (fun l hl=>by
          obtain ⟨d,hd,rfl⟩:=List.mem_map.1 hl
          exact HD.out d hd) (by omega)
        have N4:Hid (ol=D.n→∀ w' g,Oth [] w w'→Row 3 1 g D.n D.n (ivl D.ord) w'→Calls Tryz.prog 57 #[.agg #[.slice D.i.b D.i.n D.i.c,.slice (some ⟨gN,oN,none⟩) D.n D.c],.slice (some ⟨g,0,none⟩) D.n D.n] w' fun e w2=>LayR D D.ord w' e w2∧Oth [] w' w2):=fun h w' g ho hrow=>by
          rw [← hval]
          exact lay_any (HR.out.oth ho) hn9 hin hdd hrow (by rw [← hol];exact h) hm9
        have HALL:=Lib.hid hall
        have HOL:=Lib.hid hol
        have HKEEP:Hid (∀ w',Oth [] wo w'→Oth [] w w'∧w'.cell? ⟨w.heap.size,0,none⟩=some (.slice D.i.b D.i.n D.i.c)∧w'.cell? ⟨w.heap.size,1,none⟩=some (.slice (some ⟨gN,oN,none⟩) D.n D.c)∧w'.heap[w.heap.size + 1]?=some (.cells #[.slice none 0 0,.slice none 0 0,.int .i64 0] 82 (0,0))∧w.heap.size + 1 < w'.heap.size):=fun w' h=>HBW.out w' (ho.trans h (Fr.nil _ _))
        have HP4:Hid (w.heap.size + 1 < wo.heap.size):=Lib.hid p4
        unfold SrtR at N3
        rw [← hol] at N3
        replace p0:=Lib.hid p0
        clear hok hall hdd hval hm9 hol ho p3
        by_cases h1:ol=D.n
        · have N4':=Lib.hid (N4.out h1)
          subst h1
          clear N4
          unfold LayR at N4'
          cases hlf:layF D D.ord D.n with
          | none=>
            have HN:Hid (D.look=none):=look_not2 hlf
            rw [hlf] at N4'
            clear hlf
            go_wp2_with (go_at_call 56;(with_reducible refine (N3.out _ p0.out).mono ?_);rintro e w3 ⟨⟨g1,rfl,hrow,hg1⟩,ho3⟩;clear p1 p2 p4;have hs3:=ho3.size;obtain ⟨q0,p1,p2,p3,p4⟩:=HKEEP.out _ ho3;replace q0:=Lib.hid q0;replace p3:=Lib.hid p3;replace hrow:=Lib.hid hrow;replace ho3:=Lib.hid ho3)
            go_at_call 57
            (with_reducible refine (N4'.out _ _ q0.out hrow.out).mono ?_)
            rintro e w4 ⟨⟨k,hk,rfl⟩,ho4⟩
            have hx':(k != 0)=true:=by simp [hk]
            clear p1 p2 p3 p4
            obtain ⟨p0,p1,p2,p3,p4⟩:=HKEEP.out _ (ho3.out.trans ho4 (Fr.nil _ _))
            replace p0:=Lib.hid p0
            obtain ⟨z0,z1,z2,z3,-⟩:=three_cells p3
            replace p3:=Lib.hid p3
            replace ho4:=Lib.hid ho4
            go_wp2_with fail
            refine bodyPost_ret (res_cell_tmp rfl _ _ (w.heap.size + 1) 82 #[.slice none 0 0,.slice none 0 0,.int .i64 0] (0,0) _ rfl (three_set p3.out) Tryz.underlying82 rfl (by kernel_rfl)) rfl ⟨?_,?_⟩
            · exact look_bad HN.out ⟨k,hk,rfl⟩
            · exact three_oth p0.out (by omega)
          | some f=>
            rw [hlf] at N4'
            have HLF:=Lib.hid hlf
            have hll:(lossF D.I (D.n + 1)).1≤D.n:=loss_lt _ _
            obtain ⟨LR,hLR⟩:∃ LR,LR=lossF D.I (D.n + 1):=⟨_,rfl⟩
            rw [← hLR] at N5 hll
            have HLR:=Lib.hid hLR
            clear hlf hLR
            obtain ⟨l,cnt⟩:=LR
            dsimp only at N5 hll
            have A57:True:=trivial
            by_cases h2:cnt=1∧l≠0
            · rw [decide_eq_true h2] at N5
              have H2:=Lib.hid h2
              clear h2
              have t6:(l:Int) < (D.n:Int) + 1:=by omega
              go_wp2_with (first
                | (go_at_call 56;(with_reducible refine (N3.out _ p0.out).mono ?_);rintro e w3 ⟨⟨g1,rfl,hrow,hg1⟩,ho3⟩;clear p1 p2 p4;have hs3:=ho3.size;obtain ⟨q0,p1,p2,p3,p4⟩:=HKEEP.out _ ho3;replace q0:=Lib.hid q0;replace p3:=Lib.hid p3;replace hrow:=Lib.hid hrow;replace ho3:=Lib.hid ho3)
                | (go_at_call 57;(with_reducible refine (N4'.out _ _ q0.out hrow.out).mono ?_);rintro e w4 ⟨⟨g2,rfl,hsh,hg2⟩,ho4⟩;clear p1 p2 p3 p4;replace hrow:=Lib.hid (hrow.out.oth ho4 (by simp));replace ho3:=Lib.hid (ho3.out.trans ho4 (Fr.nil _ _));obtain ⟨q0,p1,p2,p3,p4⟩:=HKEEP.out _ ho3.out;replace q0:=Lib.hid q0;replace p3:=Lib.hid p3;replace hsh:=Lib.hid hsh;clear ho4)
                | (go_at_call 58;(with_reducible refine (N5.out _ q0.out).mono ?_);rintro e w5 ⟨rfl,ho5⟩;clear p1 p2 p3 p4;replace hrow:=Lib.hid (hrow.out.oth ho5 (by simp));replace hsh:=hsh.out.oth ho5;replace ho3:=Lib.hid (ho3.out.trans ho5 (Fr.nil _ _));(obtain ⟨s9,v1,v2,v3⟩:=hsh.at_ (i:=l) (by omega));have v4:=World.block_lt_of_cell? _ _ v1;have hsz:=size_any v2;rw [v3] at hsz;replace hsh:=Lib.hid hsh;replace hsz:=Lib.hid hsz;clear v2 v3 ho5))
              cases hsb:shB (f l) with
              | false=>
                have HN:Hid (D.look=none):=look_not3 HLF.out (fun h=>by rw [← HLR.out] at h;have h9:=h.2.2.1;rw [hsb] at h9;cases h9)
                rw [hsb,if_neg (by simp)] at hsz
                clear hsb
                go_wp2_with (go_at_call 59;(with_reducible refine hsz.out.mono ?_);rintro e w6 ⟨rfl,ho6⟩;clear v1 v4;replace hrow:=Lib.hid (hrow.out.oth ho6 (by simp));replace hsh:=Lib.hid (hsh.out.oth ho6);replace ho3:=Lib.hid (ho3.out.trans ho6 (Fr.nil _ _));obtain ⟨q0,p1,p2,p3,p4⟩:=HKEEP.out _ ho3.out;replace q0:=Lib.hid q0;obtain ⟨z0,z1,z2,z3,-⟩:=three_cells p3;replace p3:=Lib.hid p3;clear ho6)
                refine bodyPost_ret (res_cell_tmp rfl _ _ (w.heap.size + 1) 82 #[.slice none 0 0,.slice none 0 0,.int .i64 0] (0,0) _ rfl (three_set p3.out) Tryz.underlying82 rfl (by kernel_rfl)) rfl ⟨?_,?_⟩
                · exact look_bad HN.out ⟨23,by decide,rfl⟩
                · exact three_oth q0.out (by omega)
              | true=>
                rw [hsb,if_pos rfl] at hsz
                obtain ⟨z,hz⟩:∃ z,z=prd (f l):=⟨_,rfl⟩
                rw [← hz] at hsz
                by_cases hz1:z=1
                · subst hz1
                  have HY:Hid (D.look=some (D.ord,f,l)):=by
                    have h9:=look_yes ⟨⟨hn9.1,by omega⟩,HSH.out,HALL.out,HOL.out.symm⟩ HLF.out (by rw [← HLR.out];exact ⟨H2.out.1,H2.out.2,hsb,hz.symm⟩)
                    rw [← HLR.out] at h9
                    exact Lib.hid h9
                  clear hsb hz
                  go_wp2_with (go_at_call 59;(with_reducible refine hsz.out.mono ?_);rintro e w6 ⟨rfl,ho6⟩;clear v1 v4;replace hrow:=Lib.hid (hrow.out.oth ho6 (by simp));replace hsh:=Lib.hid (hsh.out.oth ho6);replace ho3:=Lib.hid (ho3.out.trans ho6 (Fr.nil _ _));obtain ⟨q0,p1,p2,p3,p4⟩:=HKEEP.out _ ho3.out;replace q0:=Lib.hid q0;obtain ⟨z0,z1,z2,z3,-⟩:=three_cells p3;replace p3:=Lib.hid p3;clear ho6)
                  refine bodyPost_ret (res_cell_tmp rfl _ _ (w.heap.size + 1) 82 #[.slice (some ⟨g1,0,none⟩) D.n D.n,.slice (some ⟨g2,0,none⟩) (D.n + 1) (D.n + 1),.int .i64 l] (0,0) _ rfl (three_set p3.out) Tryz.underlying82 rfl (by kernel_rfl)) rfl ⟨?_,?_⟩
                  · have hoS:Oth [w.heap.size + 1] w6 (((w6.setCell ⟨w.heap.size + 1,0,none⟩ (.slice (some ⟨g1,0,none⟩) D.n D.n)).setCell ⟨w.heap.size + 1,1,none⟩ (.slice (some ⟨g2,0,none⟩) (D.n + 1) (D.n + 1))).setCell ⟨w.heap.size + 1,2,none⟩ (.int .i64 l)):=
                      (((Oth.refl _ _).setCell (.inl (by simp)) _).setCell (.inl (by simp)) _).setCell (.inl (by simp)) _
                    have k1:=HP4.out
                    unfold LookR
                    rw [HY.out]
                    exact ⟨g1,g2,rfl,hrow.out.oth hoS (by simp;omega),hsh.out.othb (by omega) hoS (three_ints p3.out) (layF_nz HSH.out HLF.out),by omega,by omega⟩
                  · exact three_oth q0.out (by omega)
                · have HN:Hid (D.look=none):=look_not3 HLF.out (fun h=>by rw [← HLR.out] at h;exact hz1 (by rw [hz];exact h.2.2.2))
                  have hz':(z != 1)=true:=by simp [hz1]
                  clear hsb hz
                  go_wp2_with (go_at_call 59;(with_reducible refine hsz.out.mono ?_);rintro e w6 ⟨rfl,ho6⟩;clear v1 v4;replace hrow:=Lib.hid (hrow.out.oth ho6 (by simp));replace hsh:=Lib.hid (hsh.out.oth ho6);replace ho3:=Lib.hid (ho3.out.trans ho6 (Fr.nil _ _));obtain ⟨q0,p1,p2,p3,p4⟩:=HKEEP.out _ ho3.out;replace q0:=Lib.hid q0;obtain ⟨z0,z1,z2,z3,-⟩:=three_cells p3;replace p3:=Lib.hid p3;clear ho6)
                  refine bodyPost_ret (res_cell_tmp rfl _ _ (w.heap.size + 1) 82 #[.slice none 0 0,.slice none 0 0,.int .i64 0] (0,0) _ rfl (three_set p3.out) Tryz.underlying82 rfl (by kernel_rfl)) rfl ⟨?_,?_⟩
                  · exact look_bad HN.out ⟨23,by decide,rfl⟩
                  · exact three_oth q0.out (by omega)
            · rw [decide_eq_false h2] at N5
              have HN:Hid (D.look=none):=look_not3 HLF.out (fun h=>h2 (by rw [← HLR.out] at h;exact ⟨h.1,h.2.1⟩))
              clear h2
              go_wp2_with (first
                | (go_at_call 56;(with_reducible refine (N3.out _ p0.out).mono ?_);rintro e w3 ⟨⟨g1,rfl,hrow,hg1⟩,ho3⟩;clear p1 p2 p4;have hs3:=ho3.size;obtain ⟨q0,p1,p2,p3,p4⟩:=HKEEP.out _ ho3;replace q0:=Lib.hid q0;replace p3:=Lib.hid p3;replace hrow:=Lib.hid hrow;replace ho3:=Lib.hid ho3)
                | (go_at_call 57;(with_reducible refine (N4'.out _ _ q0.out hrow.out).mono ?_);rintro e w4 ⟨⟨g2,rfl,hsh,hg2⟩,ho4⟩;clear p1 p2 p3 p4;replace ho3:=Lib.hid (ho3.out.trans ho4 (Fr.nil _ _));obtain ⟨q0,p1,p2,p3,p4⟩:=HKEEP.out _ ho3.out;replace q0:=Lib.hid q0;replace p3:=Lib.hid p3;replace hsh:=Lib.hid hsh;clear ho4)
                | (go_at_call 58;(with_reducible refine (N5.out _ q0.out).mono ?_);rintro e w5 ⟨rfl,ho5⟩;clear p1 p2 p3 p4;obtain ⟨q0,p1,p2,p3,p4⟩:=HKEEP.out _ (ho3.out.trans ho5 (Fr.nil _ _));replace q0:=Lib.hid q0;obtain ⟨z0,z1,z2,z3,-⟩:=three_cells p3;replace p3:=Lib.hid p3;replace ho5:=Lib.hid ho5))
              refine bodyPost_ret (res_cell_tmp rfl _ _ (w.heap.size + 1) 82 #[.slice none 0 0,.slice none 0 0,.int .i64 0] (0,0) _ rfl (three_set p3.out) Tryz.underlying82 rfl (by kernel_rfl)) rfl ⟨?_,?_⟩
              · exact look_bad HN.out ⟨23,by decide,rfl⟩
              · exact three_oth q0.out (by omega)
        · have t5:((ol:Int) != D.n)=true:=by simp;omega
          have HN:Hid (D.look=none):=look_not (fun h=>h1 (by rw [HOL.out];exact h.2.2.2))
          clear N4
          go_wp2_with (go_at_call 56;(with_reducible refine (N3.out _ p0.out).mono ?_);rintro e w3 ⟨⟨g1,rfl,hrow,hg1⟩,ho3⟩;obtain ⟨p0,q1,q2,p3,q4⟩:=HKEEP.out _ ho3;replace p0:=Lib.hid p0;obtain ⟨z0,z1,z2,z3,-⟩:=three_cells p3;replace p3:=Lib.hid p3;replace hrow:=Lib.hid hrow)
          refine bodyPost_ret (res_cell_tmp rfl _ _ (w.heap.size + 1) 82 #[.slice none 0 0,.slice none 0 0,.int .i64 0] (0,0) _ rfl (three_set p3.out) Tryz.underlying82 rfl (by kernel_rfl)) rfl ⟨?_,?_⟩
          · exact look_bad HN.out ⟨22,by decide,rfl⟩
          · exact three_oth p0.out (by omega)
end
end Go.Proofs.YtnpdcjdmbkcpbaaGreat.Ins
