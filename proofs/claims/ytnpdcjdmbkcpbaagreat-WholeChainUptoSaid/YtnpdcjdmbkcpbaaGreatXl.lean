/- The walks of package check: more, Whole. The walk of package check: Do. No condition. -/
import Derived.Test.YtnpdcjdmbkcpbaaGreatXh
set_option linter.unusedVariables false
set_option linter.unusedSimpArgs false
namespace Go.Proofs.YtnpdcjdmbkcpbaaGreat.Ins
open Go.RowKit
section
variable {L:SLy} {σ:WS} {w:World}
set_option maxRecDepth 100000 in
set_option maxHeartbeats 8000000 in
theorem more2_any (h:Stt L σ w) (hi:WI L.ws L.n σ) (hwb:∀ p,p≤L.n→L.ws.getD p 0≤65536) {k p:Nat} (hr:wright L.n k p) (hl:wlegal L.n σ k p=true) :
    Calls Tryz.prog 45 #[.pointer (some ⟨L.q,0,none⟩),.agg #[.int .i64 k,.int .i64 (L.o p:Nat)]] w fun e w'=>e = .returned (.int .i64 (wmore L.ws L.n k p:Nat))∧Oth [] w w':=by
  obtain ⟨a0,a1,a2,a3,a4,a5,a6,a7,a8,a9,a10,a11,a12,a13,hq,fz⟩:=h.at_
  have hn:=h.n1
  rcases hr with ⟨rfl | rfl,rfl⟩ | ⟨hk,i1,i2⟩
  · rw [show wmore L.ws L.n 4 0=0 by simp [wmore],h.pm.o0]
    clear h hi a0 a1 a2 a3 a4 a5 a6 a7 a8 a9 a10 a11 a12 a13
    go_enter Tryz.func45,Tryz.ntmps45
    go_wp2_with fail
    go_ret
    exact ⟨rfl,(Oth.refl _ _).alloc _⟩
  · have b1:=h.rd.ws L.n (Nat.le_refl _)
    have o1:=(h.pm.op L.n (by omega)).1
    have l1:=World.block_lt_of_cell? _ _ b1
    rw [show wmore L.ws L.n 5 0=L.ws.getD L.n 0 by simp [wmore],h.pm.o0]
    generalize L.ws.getD L.n 0=x at b1 ⊢
    generalize L.o L.n=i at *
    have t1:(i:Int) < (L.n:Int) + 1:=by omega
    clear h hi a1 a2 a3 a5 a6 a7 a8 a9 a10 a11 a12 a13 hwb
    go_enter Tryz.func45,Tryz.ntmps45
    go_wp2_with fail
    go_quiet (fail)
    go_wp2_with fail
    go_ret
    exact ⟨rfl,((Oth.refl _ _).alloc _).drewN _⟩
  · obtain ⟨j,rfl⟩:∃ j,p=j + 1:=⟨p - 1,by omega⟩
    have b1:=h.rd.ws (j + 1) i2
    have l1:=World.block_lt_of_cell? _ _ b1
    have o1:=(h.pm.op (j + 1) i2).1
    rcases hk with rfl | rfl | rfl | rfl
    · rw [show wmore L.ws L.n 1 (j + 1)=L.ws.getD (j + 1) 0 by simp [wmore]]
      generalize L.ws.getD (j + 1) 0=x at b1 ⊢
      generalize L.o (j + 1)=i at *
      have t1:(i:Int) < (L.n:Int) + 1:=by omega
      clear h hi a1 a2 a3 a4 a5 a6 a7 a8 a9 a10 a11 a12 a13 hwb
      go_enter Tryz.func45,Tryz.ntmps45
      go_wp2_with fail
      go_quiet (fail)
      go_wp2_with fail
      go_ret
      exact ⟨rfl,((Oth.refl _ _).alloc _).drewN _⟩
    · rw [show wmore L.ws L.n 2 (j + 1)=L.ws.getD (j + 1) 0 by simp [wmore]]
      generalize L.ws.getD (j + 1) 0=x at b1 ⊢
      generalize L.o (j + 1)=i at *
      have t1:(i:Int) < (L.n:Int) + 1:=by omega
      clear h hi a1 a2 a3 a4 a5 a6 a7 a8 a9 a10 a11 a12 a13 hwb
      go_enter Tryz.func45,Tryz.ntmps45
      go_wp2_with fail
      go_quiet (fail)
      go_wp2_with fail
      go_ret
      exact ⟨rfl,((Oth.refl _ _).alloc _).drewN _⟩
    · rw [show wmore L.ws L.n 3 (j + 1)=0 by simp [wmore]]
      clear h hi a0 a1 a2 a3 a4 a5 a6 a7 a8 a9 a10 a11 a12 a13 hwb b1
      go_enter Tryz.func45,Tryz.ntmps45
      go_wp2_with fail
      go_ret
      exact ⟨rfl,(Oth.refl _ _).alloc _⟩
    · have hgr:σ.gr (j + 1)=true:=by simp [wlegal] at hl;exact hl.1.2
      rw [show wmore L.ws L.n 6 (j + 1)=kp L.ws j by simp [wmore]]
      rcases Nat.eq_zero_or_pos j with h0 | h0
      · subst h0
        rw [show kp L.ws 0=0 by simp [kp]]
        have N:Hid (∀ w',Oth [] w w'→Calls Tryz.prog 46 #[.pointer (some ⟨L.q,0,none⟩),.int .i64 (L.o 1:Nat)] w' fun e w2=>e = .returned (.slice none 0 0)∧Oth [] w' w2):=fun w' ho=>fresh_zero (h.oth ho)
        rw [Nat.zero_add]
        generalize L.o 1=i at *
        clear h hi a0 a1 a2 a3 a4 a5 a6 a7 a8 a9 a10 a11 a12 a13 hwb b1 hl hgr
        go_enter Tryz.func45,Tryz.ntmps45
        go_wp2_with (go_at_call 46;(with_reducible refine (N.out _ ((Oth.refl _ _).alloc _)).mono ?_);rintro e w1 ⟨rfl,ho⟩;replace ho:=Lib.hid ho)
        refine wp_loop_rounds 1 ?_
        rw [rounds_succ]
        go_wp2_with fail
        go_ret
        exact ⟨rfl,((Oth.refl _ _).alloc _).trans ho.out (Fr.nil _ _)⟩
      · have hg0:σ.gr j=false:=by
          cases e:σ.gr j with
          | false=>rfl
          | true=>
            have h1:=(hi.gl j e).1
            have h2:=(hi.gl (j + 1) hgr).1
            omega
        rw [show kp L.ws j=L.ws.getD j 0 by rw [kp,if_neg (by omega)]]
        have c1:=h.rd.ws j (by omega)
        have o2:=(h.pm.op j (by omega)).1
        have hb:=hwb j (by omega)
        have N:Hid (∀ w',Oth [] w w'→Calls Tryz.prog 46 #[.pointer (some ⟨L.q,0,none⟩),.int .i64 (L.o (j + 1):Nat)] w' fun e w2=>∃ g c,e = .returned (.slice (some ⟨g,0,none⟩) 1 c)∧w2.cell? ⟨g,0,none⟩=some (.int .i64 (L.o j:Nat))∧w'.heap.size≤g∧Oth [] w' w2):=fun w' ho=>fresh_one (h.oth ho) h0 (by omega) hg0
        generalize L.ws.getD j 0=x at c1 hb ⊢
        generalize L.o (j + 1)=i at *
        generalize L.o j=i2 at *
        have t1:(i2:Int) < (L.n:Int) + 1:=by omega
        have e1:IntKind.i64.wrap (x:Int)=(x:Int):=IntWalk.i64_in _ (by omega)
        clear h hi a1 a2 a3 a4 a5 a6 a7 a8 a9 a10 a11 a12 a13 hwb b1 hl hgr l1 hg0
        go_enter Tryz.func45,Tryz.ntmps45
        go_wp2_with (go_at_call 46;(with_reducible refine (N.out _ ((Oth.refl _ _).alloc _)).mono ?_);rintro e w1 ⟨g,c,rfl,hc,-,ho⟩;have ho2:=((Oth.refl [] w).alloc (.cells #[.int .i64 6,.int .i64 (i:Int)] 63)).trans ho (Fr.nil _ _);have l2:=World.block_lt_of_cell? _ _ hc;replace a0:=ho2.cell a0 (by simp);replace c1:=ho2.cell c1 (by simp);have l3:=World.block_lt_of_cell? _ _ c1;replace hq:=World.block_lt_of_cell? _ _ a0;clear ho;replace ho2:=Lib.hid ho2)
        refine wp_loop_rounds 2 ?_
        rw [rounds_succ]
        go_wp2_with fail
        rw [rounds_succ]
        go_wp2_with fail
        go_ret
        exact ⟨rfl,ho2.out⟩
set_option maxRecDepth 100000 in
set_option maxHeartbeats 4000000 in
theorem whole_any (h:Stt L σ w) (hla:σ.last≤L.n) :
    Calls Tryz.prog 20 #[.pointer (some ⟨L.q,0,none⟩)] w fun e w'=>e = .returned (.bool (σ.em && decide (σ.last=0)))∧Oth [] w w':=by
  obtain ⟨a0,a1,a2,a3,a4,a5,a6,a7,a8,a9,a10,a11,a12,a13,hq,fz⟩:=h.at_
  have hn:=h.n1
  generalize σ.em=em at a9 ⊢
  generalize σ.last=la at a11 hla ⊢
  clear h a0 a1 a2 a4 a5 a6 a7 a8 a10 a12 a13 fz
  cases em
  · go_enter Tryz.func20,Tryz.ntmps20
    go_wp2_with fail
    go_quiet (fail)
    go_wp2_with fail
    go_ret
    exact ⟨by simp,(Oth.refl _ _).drewN _⟩
  · go_enter Tryz.func20,Tryz.ntmps20
    go_wp2_with fail
    go_quiet (fail)
    go_wp2_with fail
    go_ret
    refine ⟨?_,(Oth.refl _ _).drewN _⟩
    have e:(decide ((L.n:Int) - (la:Int)=(L.n:Int)))=decide (la=0):=decide_eq_decide.2 (by omega)
    simp
    try omega
end
end Go.Proofs.YtnpdcjdmbkcpbaaGreat.Ins
namespace Go.Proofs.YtnpdcjdmbkcpbaaGreat.Ins
open Go.RowKit
section
variable {L:SLy} {σ:WS} {w:World}
theorem SLy.memW (L:SLy):L.q∈L.W∧L.gp∈L.W∧L.gs∈L.W∧L.gg∈L.W:=by simp [SLy.W]
theorem Stt.put {i:Nat} {v:Value} {σ':WS} (h:Stt L σ w) (hc:(scells L σ).setIfInBounds i v=scells L σ') (hp:σ'.pr=σ.pr) (hs:σ'.sv=σ.sv) (hg:σ'.gr=σ.gr):Stt L σ' (w.setCell ⟨L.q,i,none⟩ v):=by
  have ho:Oth [L.q] w (w.setCell ⟨L.q,i,none⟩ v):=(Oth.refl _ _).setCell (.inl (by simp)) _
  obtain ⟨n1,n2,n3⟩:=h.nq
  refine ⟨?_,by rw [hp];exact h.pr.oth ho (by simpa using n1.symm),by rw [hs];exact h.sv.oth ho (by simpa using n2.symm),by rw [hg];exact h.gr.oth ho (by simpa using n3.symm),h.rd.oth ho (by intro k hk;rw [List.mem_singleton] at hk;rw [hk];exact L.memW.1),h.nq,h.np,h.ns,h.pm,h.n1⟩
  rw [← hc]
  simp [World.setCell,Array.getElem?_modify,h.b]
theorem Stt.words {x:Nat} {y:Int} (h:Stt L σ w) (hy:y=x):Stt L { σ with words:=x } (w.setCell ⟨L.q,12,none⟩ (.int .i64 y)):=h.put (by rw [hy];rfl) rfl rfl rfl
theorem Stt.peak {x:Nat} {y:Int} (h:Stt L σ w) (hy:y=x):Stt L { σ with peak:=x } (w.setCell ⟨L.q,13,none⟩ (.int .i64 y)):=h.put (by rw [hy];rfl) rfl rfl rfl
theorem Stt.lst {x:Nat} {y:Int} (h:Stt L σ w) (hy:y=(L.n:Int) - x):Stt L { σ with last:=x } (w.setCell ⟨L.q,11,none⟩ (.int .i64 y)):=h.put (by rw [hy];rfl) rfl rfl rfl
theorem Stt.cost {x:Nat} (h:Stt L σ w):Stt L { σ with cost:=x } w:=⟨h.b,h.pr,h.sv,h.gr,h.rd,h.nq,h.np,h.ns,h.pm,h.n1⟩
theorem Stt.em (h:Stt L σ w) (b:Bool):Stt L { σ with em:=b } (w.setCell ⟨L.q,9,none⟩ (.bool b)):=h.put rfl rfl rfl rfl
theorem Stt.sd (h:Stt L σ w) (b:Bool):Stt L { σ with sd:=b } (w.setCell ⟨L.q,10,none⟩ (.bool b)):=h.put rfl rfl rfl rfl
theorem Perm.on_at {n:Nat} {o π:Nat→Nat} (h:Perm n o π) {p:Nat} (hp:p≤n) (f:Nat→Bool) (b:Bool):∀ i,i < n + 1→on (fun i=>f (π i)) (o p) b i=on f p b (π i):=by
  intro i hi
  have h1:=h.po i (by omega)
  have h2:=h.op p hp
  unfold on
  by_cases e:i=o p
  · subst e;rw [if_pos rfl,if_pos h2.2]
  · rw [if_neg e,if_neg (fun e2=>e (by rw [← e2,h1.2]))]
theorem Stt.setp (h:Stt L σ w) {p:Nat} (hp:p≤L.n) (b:Bool):Stt L { σ with pr:=on σ.pr p b } (w.setCell ⟨L.gp,L.o p,none⟩ (.bool b)):=by
  have ho:Oth [L.gp] w (w.setCell ⟨L.gp,L.o p,none⟩ (.bool b)):=(Oth.refl _ _).setCell (.inl (by simp)) _
  obtain ⟨n1,n2,n3⟩:=h.nq
  obtain ⟨m1,m2⟩:=h.np
  exact ⟨ho.heap h.b (by simpa using n1),(h.pr.set (L.o p) b).ext (h.pm.on_at hp σ.pr b),h.sv.oth ho (by simpa using m1.symm),h.gr.oth ho (by simpa using m2.symm),h.rd.oth ho (by intro k hk;rw [List.mem_singleton] at hk;rw [hk];exact L.memW.2.1),h.nq,h.np,h.ns,h.pm,h.n1⟩
theorem Stt.sets (h:Stt L σ w) {p:Nat} (hp:p≤L.n) (b:Bool):Stt L { σ with sv:=on σ.sv p b } (w.setCell ⟨L.gs,L.o p,none⟩ (.bool b)):=by
  have ho:Oth [L.gs] w (w.setCell ⟨L.gs,L.o p,none⟩ (.bool b)):=(Oth.refl _ _).setCell (.inl (by simp)) _
  obtain ⟨n1,n2,n3⟩:=h.nq
  exact ⟨ho.heap h.b (by simpa using n2),h.pr.oth ho (by simpa using h.np.1),(h.sv.set (L.o p) b).ext (h.pm.on_at hp σ.sv b),h.gr.oth ho (by simpa using h.ns.symm),h.rd.oth ho (by intro k hk;rw [List.mem_singleton] at hk;rw [hk];exact L.memW.2.2.1),h.nq,h.np,h.ns,h.pm,h.n1⟩
theorem Stt.setg (h:Stt L σ w) {p:Nat} (hp:p≤L.n) (b:Bool):Stt L { σ with gr:=on σ.gr p b } (w.setCell ⟨L.gg,L.o p,none⟩ (.bool b)):=by
  have ho:Oth [L.gg] w (w.setCell ⟨L.gg,L.o p,none⟩ (.bool b)):=(Oth.refl _ _).setCell (.inl (by simp)) _
  obtain ⟨n1,n2,n3⟩:=h.nq
  exact ⟨ho.heap h.b (by simpa using n3),h.pr.oth ho (by simpa using h.np.2),h.sv.oth ho (by simpa using h.ns),(h.gr.set (L.o p) b).ext (h.pm.on_at hp σ.gr b),h.rd.oth ho (by intro k hk;rw [List.mem_singleton] at hk;rw [hk];exact L.memW.2.2.2),h.nq,h.np,h.ns,h.pm,h.n1⟩
theorem Stt.drew (h:Stt L σ w):Stt L σ w.drew:=h.oth (Oth.refl _ _).drew
structure D4 (L:SLy) (σ:WS) (k id:Int) (w w':World):Prop where
  m:Stt L σ w'
  o:Oth L.W w w'
  b0:w'.cell? ⟨w.heap.size,0,none⟩=some (.int .i64 k)
  b1:w'.cell? ⟨w.heap.size,1,none⟩=some (.int .i64 id)
  bl:w.heap.size < w'.heap.size
  lt:∀ k,k∈L.W→k < w.heap.size
theorem d4_init {k id:Int} (h:Stt L σ w):D4 L σ k id w (w.alloc (.cells #[.int .i64 k,.int .i64 id] 63)):=by
  obtain ⟨k1,k2⟩:=box1_keep (w:=w) (a:=.int .i64 k) (b:=.int .i64 id) (t1:=63) (S:=[]) (by simp) (Oth.refl _ _)
  refine ⟨h.oth ((Oth.refl _ _).alloc _),(Oth.refl _ _).alloc _,k1,k2,by simp,fun k hk=>?_⟩
  simp only [SLy.W,List.mem_cons,List.mem_nil_iff,or_false] at hk
  rcases hk with rfl | rfl | rfl | rfl
  · exact lt_of_block h.b
  · exact h.pr.lt
  · exact h.sv.lt
  · exact h.gr.lt
theorem D4.call {k id:Int} {w1 w2:World} (h:D4 L σ k id w w1) (ho:Oth [] w1 w2):D4 L σ k id w w2:=
  ⟨h.m.oth ho,h.o.trans ho (Fr.nil _ _),ho.cell h.b0 (by simp),ho.cell h.b1 (by simp),Nat.lt_of_lt_of_le h.bl ho.size,h.lt⟩
theorem D4.wr {k id:Int} {w1:World} {σ':WS} {b i:Nat} {v:Value} (h:D4 L σ k id w w1) (hb:b∈L.W) (hm:Stt L σ' (w1.setCell ⟨b,i,none⟩ v)):D4 L σ' k id w (w1.setCell ⟨b,i,none⟩ v):=by
  have ho:Oth [b] w1 (w1.setCell ⟨b,i,none⟩ v):=(Oth.refl _ _).setCell (.inl (by simp)) _
  have hlt:=h.lt b hb
  have hne:w.heap.size∉[b]:=by simp;omega
  exact ⟨hm,h.o.setCell (.inl hb) _,ho.cell h.b0 hne,ho.cell h.b1 hne,Nat.lt_of_lt_of_le h.bl ho.size,h.lt⟩
def Do2Post (L:SLy) (σ:WS) (k p:Nat) (w:World) (e:Ending) (w':World):Prop:=
  if (wlegal L.n σ k p && decide (σ.words + wmore L.ws L.n k p≤L.cap))=true then e = .returned (.int .i64 0)∧Stt L (wdo L.ws L.cs L.n σ k p) w'∧Oth L.W w w'
  else (∃ x:Int,x≠0∧e = .returned (.int .i64 x))∧Oth [] w w'
set_option maxRecDepth 100000 in
set_option maxHeartbeats 8000000 in
theorem do2_any {k p:Nat} (h:Stt L σ w) (hi:WI L.ws L.n σ) (hwb:∀ p,p≤L.n→L.ws.getD p 0≤65536) (hr:wright L.n k p)
    (hcap:L.cap≤4096) (hwo:σ.words≤4096) (hpk:σ.peak≤4096) :
    Calls Tryz.prog 16 #[.pointer (some ⟨L.q,0,none⟩),.agg #[.int .i64 k,.int .i64 (L.o p:Nat)]] w (Do2Post L σ k p w):=by
  have hwr:wright L.n k (L.o p):=by
    rcases hr with ⟨h1,rfl⟩ | ⟨h1,h2,h3⟩
    · exact .inl ⟨h1,h.pm.o0⟩
    · exact .inr ⟨h1,h.pm.opos h2 h3,(h.pm.op p h3).1⟩
  have hop:L.o p≤L.n:=by
    rcases hr with ⟨h1,rfl⟩ | ⟨h1,h2,h3⟩
    · rw [h.pm.o0];omega
    · exact (h.pm.op p h3).1
  have hn:=h.n1
  have NR:Hid (∀ w',Oth [] w w'→Calls Tryz.prog 43 #[.agg #[.int .i64 k,.int .i64 (L.o p:Nat)]] w' fun e w2=>e = .returned (.bool true)∧Oth [] w' w2):=fun w' ho=>iright_any rfl rfl hwr (by omega)
  have NL:Hid (∀ w',Oth [] w w'→Calls Tryz.prog 44 #[.pointer (some ⟨L.q,0,none⟩),.agg #[.int .i64 k,.int .i64 (L.o p:Nat)]] w' fun e w2=>e = .returned (.bool (wlegal L.n σ k p))∧Oth [] w' w2):=fun w' ho=>legal2_any (h.oth ho) hi hr
  obtain ⟨i,hip⟩:∃ i,i=L.o p:=⟨_,rfl⟩
  obtain ⟨a0,a1,a2,a3,a4,a5,a6,a7,a8,a9,a10,a11,a12,a13,hq,fz⟩:=h.at_
  have KEEP:Hid (∀ w',Oth [] (w.alloc (.cells #[.int .i64 k,.int .i64 i] 63)) w'→Oth [] (w.alloc (.cells #[.int .i64 k,.int .i64 i] 63)) w'∧w'.cell? ⟨L.q,0,none⟩=some (.slice (some ⟨L.gw,0,none⟩) (L.n + 1) L.cw)∧w'.cell? ⟨L.q,5,none⟩=some (.int .i64 L.cap)∧w'.cell? ⟨L.q,12,none⟩=some (.int .i64 σ.words)∧w'.cell? ⟨w.heap.size,0,none⟩=some (.int .i64 k)∧w'.cell? ⟨w.heap.size,1,none⟩=some (.int .i64 i)):=by
    intro w' ho
    have h0:Oth [] w w':=((Oth.refl _ _).alloc _).trans ho (Fr.nil _ _)
    obtain ⟨k1,k2⟩:=box1_keep (S:=[]) (by simp) ho
    exact ⟨ho,h0.cell a0 (by simp),h0.cell a5 (by simp),h0.cell a12 (by simp),k1,k2⟩
  have HOW:Hid (∀ w',Oth [] (w.alloc (.cells #[.int .i64 k,.int .i64 i] 63)) w'→Oth [] w w'):=fun w' ho=>((Oth.refl _ _).alloc _).trans ho (Fr.nil _ _)
  have HD0:Hid (∀ w',Oth [] (w.alloc (.cells #[.int .i64 k,.int .i64 i] 63)) w'→D4 L σ k i w w'):=fun w' ho=>(d4_init h).call ho
  rw [← hip] at NR NL hop ⊢
  unfold Do2Post
  have t1:((L.n:Int) + 1≤(i:Int))=False:=eq_false (by omega)
  by_cases hl:wlegal L.n σ k p=true
  · rw [hl] at NL
    have NM:Hid (∀ w',Oth [] w w'→Calls Tryz.prog 45 #[.pointer (some ⟨L.q,0,none⟩),.agg #[.int .i64 k,.int .i64 i]] w' fun e w2=>e = .returned (.int .i64 (wmore L.ws L.n k p:Nat))∧Oth [] w' w2):=fun w' ho=>by rw [hip];exact more2_any (h.oth ho) hi hwb hr hl
    have hfit:=hi.fits hr hl
    have hX1:wmore L.ws L.n k p≤65536:=by
      unfold wmore kp
      rcases hr with ⟨h1,rfl⟩ | ⟨h1,h2,h3⟩
      · have:=hwb L.n (Nat.le_refl _);have:=hwb 0 (by omega);split
        · omega
        · split
          · omega
          · split
            · split <;> omega
            · omega
      · have:=hwb L.n (Nat.le_refl _);have:=hwb p h3;have:=hwb (p - 1) (by omega);split
        · omega
        · split
          · omega
          · split
            · split <;> omega
            · omega
    obtain ⟨X,hX⟩:∃ X,X=wmore L.ws L.n k p:=⟨_,rfl⟩
    rw [← hX] at NM hX1 ⊢
    have e1:IntKind.i64.wrap ((σ.words:Int) + X)=(σ.words:Int) + X:=IntWalk.i64_in _ (by omega)
    by_cases hc:σ.words + X≤L.cap
    · have hcond:(wlegal L.n σ k p && decide (σ.words + X≤L.cap))=true:=by simp [hl];omega
      simp only [hcond,if_true]
      have t2:((L.cap:Int) < (σ.words:Int) + X)=False:=eq_false (by omega)
      obtain ⟨P,hP⟩:∃ P,P=max σ.peak (σ.words + X):=⟨_,rfl⟩
      have hmax:(if (σ.peak:Int) < (σ.words:Int) + X then (σ.words:Int) + X else (σ.peak:Int))=(P:Int):=by split <;> omega
      have HFIT:=Lib.hid hfit
      have HDO:Hid (wdo L.ws L.cs L.n σ k p=(if k=1∨k=2 then { σ with words:=σ.words + X,peak:=P,pr:=on σ.pr p true,sv:=on σ.sv p true,cost:=σ.cost + L.cs.getD (p - 1) 0 }
          else if k=3 then { σ with words:=σ.words + X - L.ws.getD p 0,peak:=P,pr:=on σ.pr p false }
          else if k=4 then { σ with words:=σ.words + X,peak:=P,em:=true }
          else if k=5 then { σ with words:=σ.words + X,peak:=P,sd:=true,gr:=on σ.gr L.n true }
          else { σ with words:=σ.words + X - L.ws.getD p 0,peak:=P,gr:=on (on σ.gr (p - 1) (decide (1 < p))) p false,last:=σ.last - 1 })):=by
        show wdo L.ws L.cs L.n σ k p=_
        rw [hP,hX];rfl
      have HR:=Lib.hid hr
      have HI:=Lib.hid hi
      have HIP:=Lib.hid hip
      have HWB:=Lib.hid hwb
      have HXE:=Lib.hid hX
      have HLG:=Lib.hid hl
      clear h hi a0 a1 a2 a3 a4 a5 a6 a7 a8 a9 a10 a11 a12 a13 fz hfit hX hip hwb hr hwr hl hc hcond hP
      go_enter Tryz.func16,Tryz.ntmps16
      go_wp2_with fail
      first | (go_region_held3 (fun w'=>Oth [] (w.alloc (.cells #[.int .i64 k,.int .i64 i] 63)) w'∧w'.cell? ⟨L.q,0,none⟩=some (.slice (some ⟨L.gw,0,none⟩) (L.n + 1) L.cw)∧w'.cell? ⟨L.q,5,none⟩=some (.int .i64 L.cap)∧w'.cell? ⟨L.q,12,none⟩=some (.int .i64 σ.words)∧w'.cell? ⟨w.heap.size,0,none⟩=some (.int .i64 k)∧w'.cell? ⟨w.heap.size,1,none⟩=some (.int .i64 i))
        (first | exact KEEP.out _ ((Oth.refl _ _).drew) | exact KEEP.out _ (((Oth.refl _ _).drew).trans ho9 (Fr.nil _ _)))
        (first | (go_at_call 43;(with_reducible refine (NR.out _ (HOW.out _ ((Oth.refl _ _).drew))).mono ?_);rintro e w' ⟨rfl,ho9⟩))) | fail
      rename_i hh
      obtain ⟨s0,s1,s2,s3,s4,s5⟩:=hh
      go_wp2_with (go_at_call 44;(with_reducible refine (NL.out _ (HOW.out _ s0)).mono ?_);rintro e w3 ⟨rfl,ho3⟩;have HO3:=Lib.hid (s0.trans ho3 (Fr.nil _ _));clear s0 s1 s2 s3 s4 s5 ho3;obtain ⟨s0,s1,s2,s3,s4,s5⟩:=KEEP.out _ HO3.out)
      first | (go_region_held3 (fun w'=>Oth [] (w.alloc (.cells #[.int .i64 k,.int .i64 i] 63)) w'∧w'.cell? ⟨L.q,0,none⟩=some (.slice (some ⟨L.gw,0,none⟩) (L.n + 1) L.cw)∧w'.cell? ⟨L.q,5,none⟩=some (.int .i64 L.cap)∧w'.cell? ⟨L.q,12,none⟩=some (.int .i64 σ.words)∧w'.cell? ⟨w.heap.size,0,none⟩=some (.int .i64 k)∧w'.cell? ⟨w.heap.size,1,none⟩=some (.int .i64 i))
        (first | exact KEEP.out _ (HO3.out.drew) | exact KEEP.out _ ((HO3.out.drew).trans ho9 (Fr.nil _ _)))
        (first | (go_at_call 45;(with_reducible refine (NM.out _ (HOW.out _ (HO3.out.drew))).mono ?_);rintro e w' ⟨rfl,ho9⟩))) | fail
      rename_i hh
      clear s0 s1 s2 s3 s4 s5
      obtain ⟨s0,s1,s2,s3,s4,s5⟩:=hh
      have HD1:=Lib.hid (HD0.out _ s0)
      clear s0 s1 s2 s3 s4 s5
      obtain ⟨a0,a1,a2,a3,a4,a5,a6,a7,a8,a9,a10,a11,a12,a13,hq',fz⟩:=HD1.out.m.at_
      have b1:=HD1.out.b1
      have bl:=HD1.out.bl
      rcases HR.out with ⟨rfl | rfl,rfl⟩ | ⟨rfl | rfl | rfl | rfl,i1,i2⟩
      · have b0:w'.cell? ⟨w.heap.size,0,none⟩=some (.int .i64 4):=HD1.out.b0
        go_wp2_with fail
        have HD:Hid (D4 L { σ with words:=σ.words + X,peak:=P } 4 i w ((w'.setCell ⟨L.q,12,none⟩ (.int .i64 ((σ.words:Int) + X))).setCell ⟨L.q,13,none⟩ (.int .i64 P))):=
          (HD1.out.wr L.memW.1 (HD1.out.m.words (x:=σ.words + X) (by omega))).wr L.memW.1 ((HD1.out.m.words (x:=σ.words + X) (y:=(σ.words:Int) + X) (by omega)).peak (x:=P) rfl)
        go_ret
        refine ⟨rfl,?_,?_⟩
        · rw [HDO.out];exact HD.out.m.em true
        · exact HD.out.o.setCell (.inl L.memW.1) _
      · have b0:w'.cell? ⟨w.heap.size,0,none⟩=some (.int .i64 5):=HD1.out.b0
        go_wp2_with fail
        have HD:Hid (D4 L { σ with words:=σ.words + X,peak:=P } 5 i w ((w'.setCell ⟨L.q,12,none⟩ (.int .i64 ((σ.words:Int) + X))).setCell ⟨L.q,13,none⟩ (.int .i64 P))):=
          (HD1.out.wr L.memW.1 (HD1.out.m.words (x:=σ.words + X) (by omega))).wr L.memW.1 ((HD1.out.m.words (x:=σ.words + X) (y:=(σ.words:Int) + X) (by omega)).peak (x:=P) rfl)
        clear a0 a1 a2 a3 a4 a5 a6 a7 a8 a9 a10 a11 a12 a13 hq' fz b0 b1 bl HD1
        generalize ((w'.setCell ⟨L.q,12,none⟩ (.int .i64 ((σ.words:Int) + X))).setCell ⟨L.q,13,none⟩ (.int .i64 P))=W at HD ⊢
        obtain ⟨a0,a1,a2,a3,a4,a5,a6,a7,a8,a9,a10,a11,a12,a13,hq',fz⟩:=HD.out.m.at_
        dsimp only at a9 a10 a11 a12 a13
        have b0:=HD.out.b0
        have b1:=HD.out.b1
        have bl:=HD.out.bl
        obtain ⟨n1,n2,n3⟩:=HD.out.m.nq
        obtain ⟨m1,m2⟩:=HD.out.m.np
        have m3:=HD.out.m.ns
        have n1':=n1.symm
        have n2':=n2.symm
        have n3':=n3.symm
        have m1':=m1.symm
        have m2':=m2.symm
        have m3':=m3.symm
        have y1:¬ L.gw=L.gp:=fun e=>HD.out.m.rd.nw.1 (by rw [e];exact L.memW.2.1)
        have y2:¬ L.gw=L.gg:=fun e=>HD.out.m.rd.nw.1 (by rw [e];exact L.memW.2.2.2)
        have y3:¬ L.gw=L.q:=fun e=>HD.out.m.rd.nw.1 (by rw [e];exact L.memW.1)
        have z1:¬ w.heap.size=L.q:=by have:=HD.out.lt _ L.memW.1;omega
        have z2:¬ w.heap.size=L.gp:=by have:=HD.out.lt _ L.memW.2.1;omega
        have z3:¬ w.heap.size=L.gs:=by have:=HD.out.lt _ L.memW.2.2.1;omega
        have z4:¬ w.heap.size=L.gg:=by have:=HD.out.lt _ L.memW.2.2.2;omega
        have g0:=HD.out.m.grAt (p:=L.n) (Nat.le_refl _)
        have g1:=HD.out.m.gr.free (L.o L.n)
        have g2:=HD.out.m.gr.lt
        have o9:=(HD.out.m.pm.op L.n (Nat.le_refl _)).1
        have t5:(L.o L.n:Int) < (L.n:Int) + 1:=by omega
        have HSET:Hid (Stt L { { σ with words:=σ.words + X,peak:=P } with sd:=true,gr:=on σ.gr L.n true } ((W.setCell ⟨L.q,10,none⟩ (.bool true)).setCell ⟨L.gg,L.o L.n,none⟩ (.bool true))):=(HD.out.m.sd true).setg (Nat.le_refl _) true
        have HOO:Hid (Oth L.W w ((W.setCell ⟨L.q,10,none⟩ (.bool true)).setCell ⟨L.gg,L.o L.n,none⟩ (.bool true))):=(HD.out.o.setCell (.inl L.memW.1) _).setCell (.inl L.memW.2.2.2) _
        generalize L.o L.n=iL at *
        go_region
        go_wp2_with fail
        go_ret
        exact ⟨rfl,by rw [HDO.out];exact HSET.out.drew,HOO.out.drew⟩
      · have b0:w'.cell? ⟨w.heap.size,0,none⟩=some (.int .i64 1):=HD1.out.b0
        go_wp2_with fail
        have HD:Hid (D4 L { σ with words:=σ.words + X,peak:=P } 1 i w ((w'.setCell ⟨L.q,12,none⟩ (.int .i64 ((σ.words:Int) + X))).setCell ⟨L.q,13,none⟩ (.int .i64 P))):=
          (HD1.out.wr L.memW.1 (HD1.out.m.words (x:=σ.words + X) (by omega))).wr L.memW.1 ((HD1.out.m.words (x:=σ.words + X) (y:=(σ.words:Int) + X) (by omega)).peak (x:=P) rfl)
        clear a0 a1 a2 a3 a4 a5 a6 a7 a8 a9 a10 a11 a12 a13 hq' fz b0 b1 bl HD1
        generalize ((w'.setCell ⟨L.q,12,none⟩ (.int .i64 ((σ.words:Int) + X))).setCell ⟨L.q,13,none⟩ (.int .i64 P))=W at HD ⊢
        obtain ⟨a0,a1,a2,a3,a4,a5,a6,a7,a8,a9,a10,a11,a12,a13,hq',fz⟩:=HD.out.m.at_
        dsimp only at a9 a10 a11 a12 a13
        have b0:=HD.out.b0
        have b1:=HD.out.b1
        have bl:=HD.out.bl
        obtain ⟨n1,n2,n3⟩:=HD.out.m.nq
        obtain ⟨m1,m2⟩:=HD.out.m.np
        have m3:=HD.out.m.ns
        have n1':=n1.symm
        have n2':=n2.symm
        have n3':=n3.symm
        have m1':=m1.symm
        have m2':=m2.symm
        have m3':=m3.symm
        have y1:¬ L.gw=L.gp:=fun e=>HD.out.m.rd.nw.1 (by rw [e];exact L.memW.2.1)
        have y2:¬ L.gw=L.gg:=fun e=>HD.out.m.rd.nw.1 (by rw [e];exact L.memW.2.2.2)
        have y3:¬ L.gw=L.q:=fun e=>HD.out.m.rd.nw.1 (by rw [e];exact L.memW.1)
        have z1:¬ w.heap.size=L.q:=by have:=HD.out.lt _ L.memW.1;omega
        have z2:¬ w.heap.size=L.gp:=by have:=HD.out.lt _ L.memW.2.1;omega
        have z3:¬ w.heap.size=L.gs:=by have:=HD.out.lt _ L.memW.2.2.1;omega
        have z4:¬ w.heap.size=L.gg:=by have:=HD.out.lt _ L.memW.2.2.2;omega
        have g0:=HD.out.m.prAt (p:=p) i2
        have g1:=HD.out.m.pr.free (L.o p)
        have g2:=HD.out.m.pr.lt
        have s0:=HD.out.m.svAt (p:=p) i2
        have s1:=HD.out.m.sv.free (L.o p)
        have s2:=HD.out.m.sv.lt
        rw [← HIP.out] at g0 g1 s0 s1
        have t5:(i:Int) < (L.n:Int) + 1:=by omega
        have HSET:Hid (Stt L { σ with words:=σ.words + X,peak:=P,pr:=on σ.pr p true,sv:=on σ.sv p true,cost:=σ.cost + L.cs.getD (p - 1) 0 } (((W.setCell ⟨L.gp,i,none⟩ (.bool true)).drew).setCell ⟨L.gs,i,none⟩ (.bool true))):=by
          show Stt _ _ _
          rw [HIP.out]
          exact (((HD.out.m.setp i2 true).drew).sets i2 true).cost
        have HOO:Hid (Oth L.W w (((W.setCell ⟨L.gp,i,none⟩ (.bool true)).drew).setCell ⟨L.gs,i,none⟩ (.bool true))):=((HD.out.o.setCell (.inl L.memW.2.1) _).drew).setCell (.inl L.memW.2.2.1) _
        go_region
        go_wp2_with fail
        go_region
        go_wp2_with fail
        go_ret
        exact ⟨rfl,by rw [HDO.out];exact HSET.out.drew,HOO.out.drew⟩
      · have b0:w'.cell? ⟨w.heap.size,0,none⟩=some (.int .i64 2):=HD1.out.b0
        go_wp2_with fail
        have HD:Hid (D4 L { σ with words:=σ.words + X,peak:=P } 2 i w ((w'.setCell ⟨L.q,12,none⟩ (.int .i64 ((σ.words:Int) + X))).setCell ⟨L.q,13,none⟩ (.int .i64 P))):=
          (HD1.out.wr L.memW.1 (HD1.out.m.words (x:=σ.words + X) (by omega))).wr L.memW.1 ((HD1.out.m.words (x:=σ.words + X) (y:=(σ.words:Int) + X) (by omega)).peak (x:=P) rfl)
        clear a0 a1 a2 a3 a4 a5 a6 a7 a8 a9 a10 a11 a12 a13 hq' fz b0 b1 bl HD1
        generalize ((w'.setCell ⟨L.q,12,none⟩ (.int .i64 ((σ.words:Int) + X))).setCell ⟨L.q,13,none⟩ (.int .i64 P))=W at HD ⊢
        obtain ⟨a0,a1,a2,a3,a4,a5,a6,a7,a8,a9,a10,a11,a12,a13,hq',fz⟩:=HD.out.m.at_
        dsimp only at a9 a10 a11 a12 a13
        have b0:=HD.out.b0
        have b1:=HD.out.b1
        have bl:=HD.out.bl
        obtain ⟨n1,n2,n3⟩:=HD.out.m.nq
        obtain ⟨m1,m2⟩:=HD.out.m.np
        have m3:=HD.out.m.ns
        have n1':=n1.symm
        have n2':=n2.symm
        have n3':=n3.symm
        have m1':=m1.symm
        have m2':=m2.symm
        have m3':=m3.symm
        have y1:¬ L.gw=L.gp:=fun e=>HD.out.m.rd.nw.1 (by rw [e];exact L.memW.2.1)
        have y2:¬ L.gw=L.gg:=fun e=>HD.out.m.rd.nw.1 (by rw [e];exact L.memW.2.2.2)
        have y3:¬ L.gw=L.q:=fun e=>HD.out.m.rd.nw.1 (by rw [e];exact L.memW.1)
        have z1:¬ w.heap.size=L.q:=by have:=HD.out.lt _ L.memW.1;omega
        have z2:¬ w.heap.size=L.gp:=by have:=HD.out.lt _ L.memW.2.1;omega
        have z3:¬ w.heap.size=L.gs:=by have:=HD.out.lt _ L.memW.2.2.1;omega
        have z4:¬ w.heap.size=L.gg:=by have:=HD.out.lt _ L.memW.2.2.2;omega
        have g0:=HD.out.m.prAt (p:=p) i2
        have g1:=HD.out.m.pr.free (L.o p)
        have g2:=HD.out.m.pr.lt
        have s0:=HD.out.m.svAt (p:=p) i2
        have s1:=HD.out.m.sv.free (L.o p)
        have s2:=HD.out.m.sv.lt
        rw [← HIP.out] at g0 g1 s0 s1
        have t5:(i:Int) < (L.n:Int) + 1:=by omega
        have HSET:Hid (Stt L { σ with words:=σ.words + X,peak:=P,pr:=on σ.pr p true,sv:=on σ.sv p true,cost:=σ.cost + L.cs.getD (p - 1) 0 } (((W.setCell ⟨L.gp,i,none⟩ (.bool true)).drew).setCell ⟨L.gs,i,none⟩ (.bool true))):=by
          show Stt _ _ _
          rw [HIP.out]
          exact (((HD.out.m.setp i2 true).drew).sets i2 true).cost
        have HOO:Hid (Oth L.W w (((W.setCell ⟨L.gp,i,none⟩ (.bool true)).drew).setCell ⟨L.gs,i,none⟩ (.bool true))):=((HD.out.o.setCell (.inl L.memW.2.1) _).drew).setCell (.inl L.memW.2.2.1) _
        go_region
        go_wp2_with fail
        go_region
        go_wp2_with fail
        go_ret
        exact ⟨rfl,by rw [HDO.out];exact HSET.out.drew,HOO.out.drew⟩
      · have b0:w'.cell? ⟨w.heap.size,0,none⟩=some (.int .i64 3):=HD1.out.b0
        go_wp2_with fail
        have HD:Hid (D4 L { σ with words:=σ.words + X,peak:=P } 3 i w ((w'.setCell ⟨L.q,12,none⟩ (.int .i64 ((σ.words:Int) + X))).setCell ⟨L.q,13,none⟩ (.int .i64 P))):=
          (HD1.out.wr L.memW.1 (HD1.out.m.words (x:=σ.words + X) (by omega))).wr L.memW.1 ((HD1.out.m.words (x:=σ.words + X) (y:=(σ.words:Int) + X) (by omega)).peak (x:=P) rfl)
        clear a0 a1 a2 a3 a4 a5 a6 a7 a8 a9 a10 a11 a12 a13 hq' fz b0 b1 bl HD1
        generalize ((w'.setCell ⟨L.q,12,none⟩ (.int .i64 ((σ.words:Int) + X))).setCell ⟨L.q,13,none⟩ (.int .i64 P))=W at HD ⊢
        obtain ⟨a0,a1,a2,a3,a4,a5,a6,a7,a8,a9,a10,a11,a12,a13,hq',fz⟩:=HD.out.m.at_
        dsimp only at a9 a10 a11 a12 a13
        have b0:=HD.out.b0
        have b1:=HD.out.b1
        have bl:=HD.out.bl
        obtain ⟨n1,n2,n3⟩:=HD.out.m.nq
        obtain ⟨m1,m2⟩:=HD.out.m.np
        have m3:=HD.out.m.ns
        have n1':=n1.symm
        have n2':=n2.symm
        have n3':=n3.symm
        have m1':=m1.symm
        have m2':=m2.symm
        have m3':=m3.symm
        have y1:¬ L.gw=L.gp:=fun e=>HD.out.m.rd.nw.1 (by rw [e];exact L.memW.2.1)
        have y2:¬ L.gw=L.gg:=fun e=>HD.out.m.rd.nw.1 (by rw [e];exact L.memW.2.2.2)
        have y3:¬ L.gw=L.q:=fun e=>HD.out.m.rd.nw.1 (by rw [e];exact L.memW.1)
        have z1:¬ w.heap.size=L.q:=by have:=HD.out.lt _ L.memW.1;omega
        have z2:¬ w.heap.size=L.gp:=by have:=HD.out.lt _ L.memW.2.1;omega
        have z3:¬ w.heap.size=L.gs:=by have:=HD.out.lt _ L.memW.2.2.1;omega
        have z4:¬ w.heap.size=L.gg:=by have:=HD.out.lt _ L.memW.2.2.2;omega
        have g0:=HD.out.m.prAt (p:=p) i2
        have g1:=HD.out.m.pr.free (L.o p)
        have g2:=HD.out.m.pr.lt
        rw [← HIP.out] at g0 g1
        have t5:(i:Int) < (L.n:Int) + 1:=by omega
        have c1:=HD.out.m.rd.ws p i2
        rw [← HIP.out] at c1
        have c2:=World.block_lt_of_cell? _ _ c1
        have hwp:=HWB.out p i2
        have hfp:=HFIT.out (by simp)
        obtain ⟨x,hx⟩:∃ x,x=L.ws.getD p 0:=⟨_,rfl⟩
        rw [← hx] at c1 hwp hfp
        have HX9:=Lib.hid hx
        clear hx
        have e3:IntKind.i64.wrap ((σ.words:Int) + X - x)=((σ.words + X - x:Nat):Int):=by rw [show (σ.words:Int) + X - x=((σ.words + X - x:Nat):Int) by omega];exact IntWalk.i64_in _ (by omega)
        have e4:IntKind.i64.wrap (((σ.words + X:Nat):Int) - x)=((σ.words + X - x:Nat):Int):=by rw [show ((σ.words + X:Nat):Int) - x=((σ.words + X - x:Nat):Int) by omega];exact IntWalk.i64_in _ (by omega)
        have HSET:Hid (Stt L { σ with words:=σ.words + X - x,peak:=P,pr:=on σ.pr p false } (((W.setCell ⟨L.gp,i,none⟩ (.bool false)).drew).setCell ⟨L.q,12,none⟩ (.int .i64 ((σ.words + X - x:Nat):Int)))):=by
          show Stt _ _ _
          rw [HIP.out]
          exact ((HD.out.m.setp i2 false).drew).words rfl
        have HOO:Hid (Oth L.W w (((W.setCell ⟨L.gp,i,none⟩ (.bool false)).drew).setCell ⟨L.q,12,none⟩ (.int .i64 ((σ.words + X - x:Nat):Int)))):=((HD.out.o.setCell (.inl L.memW.2.1) _).drew).setCell (.inl L.memW.1) _
        go_region
        go_wp2_with fail
        go_region
        go_wp2_with fail
        go_ret
        exact ⟨rfl,by rw [HDO.out,← HX9.out];exact HSET.out.drew,HOO.out.drew⟩
      · have b0:w'.cell? ⟨w.heap.size,0,none⟩=some (.int .i64 6):=HD1.out.b0
        go_wp2_with fail
        have HD:Hid (D4 L { σ with words:=σ.words + X,peak:=P } 6 i w ((w'.setCell ⟨L.q,12,none⟩ (.int .i64 ((σ.words:Int) + X))).setCell ⟨L.q,13,none⟩ (.int .i64 P))):=
          (HD1.out.wr L.memW.1 (HD1.out.m.words (x:=σ.words + X) (by omega))).wr L.memW.1 ((HD1.out.m.words (x:=σ.words + X) (y:=(σ.words:Int) + X) (by omega)).peak (x:=P) rfl)
        clear a0 a1 a2 a3 a4 a5 a6 a7 a8 a9 a10 a11 a12 a13 hq' fz b0 b1 bl HD1
        generalize ((w'.setCell ⟨L.q,12,none⟩ (.int .i64 ((σ.words:Int) + X))).setCell ⟨L.q,13,none⟩ (.int .i64 P))=W at HD ⊢
        have t5:(i:Int) < (L.n:Int) + 1:=by omega
        have hwp:=HWB.out p i2
        have hfp:=HFIT.out (by simp)
        obtain ⟨x,hx⟩:∃ x,x=L.ws.getD p 0:=⟨_,rfl⟩
        rw [← hx] at hwp hfp
        have HX9:=Lib.hid hx
        clear hx
        have e3:IntKind.i64.wrap ((σ.words:Int) + X - x)=((σ.words + X - x:Nat):Int):=by rw [show (σ.words:Int) + X - x=((σ.words + X - x:Nat):Int) by omega];exact IntWalk.i64_in _ (by omega)
        have e4:IntKind.i64.wrap (((σ.words + X:Nat):Int) - x)=((σ.words + X - x:Nat):Int):=by rw [show ((σ.words + X:Nat):Int) - x=((σ.words + X - x:Nat):Int) by omega];exact IntWalk.i64_in _ (by omega)
        have hgp:σ.gr p=true:=by
          have h9:=HLG.out
          simp [wlegal] at h9;exact h9.1.2
        have hlast:=(HI.out.gl p hgp).1
        have hln:=HI.out.ln
        have e5:IntKind.i64.wrap ((L.n:Int) - σ.last + 1)=(L.n:Int) - σ.last + 1:=IntWalk.i64_in _ (by omega)
        obtain ⟨j,rfl⟩:∃ j,p=j + 1:=⟨p - 1,by omega⟩
        rcases Nat.eq_zero_or_pos j with h0 | h0
        · subst h0
          have N6:Hid (∀ w',Oth [] W w'→Calls Tryz.prog 46 #[.pointer (some ⟨L.q,0,none⟩),.int .i64 i] w' fun e w2=>e = .returned (.slice none 0 0)∧Oth [] w' w2):=fun w' ho=>by rw [HIP.out];exact fresh_zero (HD.out.m.oth ho)
          go_at_call 46
          (with_reducible refine (N6.out _ (Oth.refl _ _)).mono ?_)
          rintro e w4 ⟨rfl,ho4⟩
          have HD9:=Lib.hid (HD.out.call ho4)
          clear ho4
          obtain ⟨a0,a1,a2,a3,a4,a5,a6,a7,a8,a9,a10,a11,a12,a13,hq',fz⟩:=HD9.out.m.at_
          dsimp only at a9 a10 a11 a12 a13
          have b0:=HD9.out.b0
          have b1:=HD9.out.b1
          have bl:=HD9.out.bl
          obtain ⟨n1,n2,n3⟩:=HD9.out.m.nq
          obtain ⟨m1,m2⟩:=HD9.out.m.np
          have m3:=HD9.out.m.ns
          have n1':=n1.symm
          have n2':=n2.symm
          have n3':=n3.symm
          have m1':=m1.symm
          have m2':=m2.symm
          have m3':=m3.symm
          have y1:¬ L.gw=L.gp:=fun e=>HD9.out.m.rd.nw.1 (by rw [e];exact L.memW.2.1)
          have y2:¬ L.gw=L.gg:=fun e=>HD9.out.m.rd.nw.1 (by rw [e];exact L.memW.2.2.2)
          have y3:¬ L.gw=L.q:=fun e=>HD9.out.m.rd.nw.1 (by rw [e];exact L.memW.1)
          have z1:¬ w.heap.size=L.q:=by have:=HD9.out.lt _ L.memW.1;omega
          have z4:¬ w.heap.size=L.gg:=by have:=HD9.out.lt _ L.memW.2.2.2;omega
          have g0:=HD9.out.m.grAt (p:=0 + 1) i2
          have g1:=HD9.out.m.gr.free (L.o (0 + 1))
          have g2:=HD9.out.m.gr.lt
          rw [← HIP.out] at g0 g1
          have c1:=HD9.out.m.rd.ws (0 + 1) i2
          rw [← HIP.out,← HX9.out] at c1
          have c2:=World.block_lt_of_cell? _ _ c1
          have HSET:Hid (Stt L { σ with words:=σ.words + X - x,peak:=P,gr:=on (on σ.gr (0 + 1 - 1) (decide (1 < 0 + 1))) (0 + 1) false,last:=σ.last - 1 } (((((w4.setCell ⟨L.gg,i,none⟩ (.bool false)).drew).setCell ⟨L.q,12,none⟩ (.int .i64 ((σ.words + X - x:Nat):Int))).drew).setCell ⟨L.q,11,none⟩ (.int .i64 ((L.n:Int) - σ.last + 1)))):=by
            show Stt _ _ _
            have eg:on (on σ.gr (0 + 1 - 1) (decide (1 < 0 + 1))) (0 + 1) false=on σ.gr (0 + 1) false:=by
              funext q
              unfold on
              split
              · rfl
              · split
                · rename_i e;subst e;exact HI.out.g0.symm
                · rfl
            rw [eg,HIP.out]
            exact (((HD9.out.m.setg i2 false).drew.words (x:=σ.words + X - x) rfl).drew).lst (x:=σ.last - 1) (by omega)
          have HOO:Hid (Oth L.W w (((((w4.setCell ⟨L.gg,i,none⟩ (.bool false)).drew).setCell ⟨L.q,12,none⟩ (.int .i64 ((σ.words + X - x:Nat):Int))).drew).setCell ⟨L.q,11,none⟩ (.int .i64 ((L.n:Int) - σ.last + 1)))):=(((((HD9.out.o.setCell (.inl L.memW.2.2.2) _).drew).setCell (.inl L.memW.1) _).drew).setCell (.inl L.memW.1) _)
          replace hlast:=Lib.hid hlast
          replace hgp:=Lib.hid hgp
          go_wp2_with fail
          refine wp_loop_rounds 1 ?_
          rw [rounds_succ]
          go_wp2_with fail
          go_region
          go_wp2_with fail
          go_region
          go_wp2_with fail
          go_ret
          exact ⟨rfl,by rw [HDO.out,← HX9.out];exact HSET.out,HOO.out⟩
        · have hg0:σ.gr j=false:=by
            cases e:σ.gr j with
            | false=>rfl
            | true=>have h1:=(HI.out.gl j e).1;omega
          obtain ⟨ij,hij⟩:∃ ij,ij=L.o j:=⟨_,rfl⟩
          have N6:Hid (∀ w',Oth [] W w'→Calls Tryz.prog 46 #[.pointer (some ⟨L.q,0,none⟩),.int .i64 i] w' fun e w2=>∃ g c,e = .returned (.slice (some ⟨g,0,none⟩) 1 c)∧w2.cell? ⟨g,0,none⟩=some (.int .i64 ij)∧w'.heap.size≤g∧Oth [] w' w2):=fun w' ho=>by rw [HIP.out,hij];exact fresh_one (HD.out.m.oth ho) h0 (by omega) hg0
          have hoj:=(HD.out.m.pm.op j (by omega))
          have hoj1:=(HD.out.m.pm.op (j + 1) i2)
          have hne:¬ ij=i:=fun e=>by
            rw [hij,HIP.out] at e
            have:=hoj.2
            rw [e,hoj1.2] at this;omega
          have hne':¬ i=ij:=fun e=>hne e.symm
          have t6:(ij:Int) < (L.n:Int) + 1:=by omega
          go_at_call 46
          (with_reducible refine (N6.out _ (Oth.refl _ _)).mono ?_)
          rintro e w4 ⟨gf,cf,rfl,hcf,hgf,ho4⟩
          have HD9:=Lib.hid (HD.out.call ho4)
          have hgne:¬ gf=L.gg:=by
            have h1:=HD.out.lt _ L.memW.2.2.2
            have h2:=HD.out.bl
            omega
          have hlf:=World.block_lt_of_cell? _ _ hcf
          clear ho4 hgf
          obtain ⟨a0,a1,a2,a3,a4,a5,a6,a7,a8,a9,a10,a11,a12,a13,hq',fz⟩:=HD9.out.m.at_
          dsimp only at a9 a10 a11 a12 a13
          have b0:=HD9.out.b0
          have b1:=HD9.out.b1
          have bl:=HD9.out.bl
          obtain ⟨n1,n2,n3⟩:=HD9.out.m.nq
          obtain ⟨m1,m2⟩:=HD9.out.m.np
          have m3:=HD9.out.m.ns
          have n1':=n1.symm
          have n2':=n2.symm
          have n3':=n3.symm
          have m1':=m1.symm
          have m2':=m2.symm
          have m3':=m3.symm
          have y1:¬ L.gw=L.gp:=fun e=>HD9.out.m.rd.nw.1 (by rw [e];exact L.memW.2.1)
          have y2:¬ L.gw=L.gg:=fun e=>HD9.out.m.rd.nw.1 (by rw [e];exact L.memW.2.2.2)
          have y3:¬ L.gw=L.q:=fun e=>HD9.out.m.rd.nw.1 (by rw [e];exact L.memW.1)
          have z1:¬ w.heap.size=L.q:=by have:=HD9.out.lt _ L.memW.1;omega
          have z4:¬ w.heap.size=L.gg:=by have:=HD9.out.lt _ L.memW.2.2.2;omega
          have g0:=HD9.out.m.grAt (p:=j + 1) i2
          have g1:=HD9.out.m.gr.free (L.o (j + 1))
          have g2:=HD9.out.m.gr.lt
          rw [← HIP.out] at g0 g1
          have c1:=HD9.out.m.rd.ws (j + 1) i2
          rw [← HIP.out,← HX9.out] at c1
          have c2:=World.block_lt_of_cell? _ _ c1
          have r0:=HD9.out.m.grAt (p:=j) (by omega)
          have r1:=HD9.out.m.gr.free (L.o j)
          rw [← hij] at r0 r1
          have HSET:Hid (Stt L { σ with words:=σ.words + X - x,peak:=P,gr:=on (on σ.gr (j + 1 - 1) (decide (1 < j + 1))) (j + 1) false,last:=σ.last - 1 } (((((((w4.setCell ⟨L.gg,ij,none⟩ (.bool true))).setCell ⟨L.gg,i,none⟩ (.bool false)).drew).setCell ⟨L.q,12,none⟩ (.int .i64 ((σ.words + X - x:Nat):Int))).drew).setCell ⟨L.q,11,none⟩ (.int .i64 ((L.n:Int) - σ.last + 1)))):=by
            show Stt _ _ _
            rw [show j + 1 - 1=j by omega,decide_eq_true (show 1 < j + 1 by omega),HIP.out,hij]
            exact ((((HD9.out.m.setg (p:=j) (by omega) true).setg i2 false).drew.words (x:=σ.words + X - x) rfl).drew).lst (x:=σ.last - 1) (by omega)
          have HOO:Hid (Oth L.W w (((((((w4.setCell ⟨L.gg,ij,none⟩ (.bool true))).setCell ⟨L.gg,i,none⟩ (.bool false)).drew).setCell ⟨L.q,12,none⟩ (.int .i64 ((σ.words + X - x:Nat):Int))).drew).setCell ⟨L.q,11,none⟩ (.int .i64 ((L.n:Int) - σ.last + 1)))):=((((((HD9.out.o.setCell (.inl L.memW.2.2.2) _).setCell (.inl L.memW.2.2.2) _).drew).setCell (.inl L.memW.1) _).drew).setCell (.inl L.memW.1) _)
          clear hoj hoj1 hij
          go_wp2_with fail
          refine wp_loop_rounds 2 ?_
          rw [rounds_succ]
          go_wp2_with fail
          rw [rounds_succ]
          go_wp2_with fail
          go_region
          go_wp2_with fail
          go_region
          go_wp2_with fail
          go_ret
          exact ⟨rfl,by rw [HDO.out,← HX9.out];exact HSET.out,HOO.out⟩
    · have hcond:(wlegal L.n σ k p && decide (σ.words + X≤L.cap))=false:=by simp [hl];omega
      simp only [hcond,Bool.false_eq_true,if_false]
      have t2:((L.cap:Int) < (σ.words:Int) + X)=True:=eq_true (by omega)
      clear h hi a0 a1 a2 a3 a4 a5 a6 a7 a8 a9 a10 a11 a12 a13 fz hfit hX hip hwb hr hwr hl hc hcond
      go_enter Tryz.func16,Tryz.ntmps16
      go_wp2_with fail
      first | (go_region_held3 (fun w'=>Oth [] (w.alloc (.cells #[.int .i64 k,.int .i64 i] 63)) w'∧w'.cell? ⟨L.q,0,none⟩=some (.slice (some ⟨L.gw,0,none⟩) (L.n + 1) L.cw)∧w'.cell? ⟨L.q,5,none⟩=some (.int .i64 L.cap)∧w'.cell? ⟨L.q,12,none⟩=some (.int .i64 σ.words)∧w'.cell? ⟨w.heap.size,0,none⟩=some (.int .i64 k)∧w'.cell? ⟨w.heap.size,1,none⟩=some (.int .i64 i))
        (first | exact KEEP.out _ ((Oth.refl _ _).drew) | exact KEEP.out _ (((Oth.refl _ _).drew).trans ho9 (Fr.nil _ _)))
        (first | (go_at_call 43;(with_reducible refine (NR.out _ (HOW.out _ ((Oth.refl _ _).drew))).mono ?_);rintro e w' ⟨rfl,ho9⟩))) | fail
      rename_i hh
      obtain ⟨s0,s1,s2,s3,s4,s5⟩:=hh
      go_wp2_with (go_at_call 44;(with_reducible refine (NL.out _ (HOW.out _ s0)).mono ?_);rintro e w3 ⟨rfl,ho3⟩;have HO3:=Lib.hid (s0.trans ho3 (Fr.nil _ _));clear s0 s1 s2 s3 s4 s5 ho3;obtain ⟨s0,s1,s2,s3,s4,s5⟩:=KEEP.out _ HO3.out)
      first | (go_region_held3 (fun w'=>Oth [] (w.alloc (.cells #[.int .i64 k,.int .i64 i] 63)) w'∧w'.cell? ⟨L.q,0,none⟩=some (.slice (some ⟨L.gw,0,none⟩) (L.n + 1) L.cw)∧w'.cell? ⟨L.q,5,none⟩=some (.int .i64 L.cap)∧w'.cell? ⟨L.q,12,none⟩=some (.int .i64 σ.words)∧w'.cell? ⟨w.heap.size,0,none⟩=some (.int .i64 k)∧w'.cell? ⟨w.heap.size,1,none⟩=some (.int .i64 i))
        (first | exact KEEP.out _ (HO3.out.drew) | exact KEEP.out _ ((HO3.out.drew).trans ho9 (Fr.nil _ _)))
        (first | (go_at_call 45;(with_reducible refine (NM.out _ (HOW.out _ (HO3.out.drew))).mono ?_);rintro e w' ⟨rfl,ho9⟩))) | fail
      rename_i hh
      clear s0 s1 s2 s3 s4 s5
      obtain ⟨s0,s1,s2,s3,s4,s5⟩:=hh
      go_wp2_with fail
      go_ret
      exact ⟨⟨25,by decide,rfl⟩,HOW.out _ s0⟩
  · rw [show wlegal L.n σ k p=false by simpa using hl] at NL
    have hcond:(wlegal L.n σ k p && decide (σ.words + wmore L.ws L.n k p≤L.cap))=false:=by simp [show wlegal L.n σ k p=false by simpa using hl]
    simp only [hcond,Bool.false_eq_true,if_false]
    clear h hi a0 a1 a2 a3 a4 a5 a6 a7 a8 a9 a10 a11 a12 a13 fz hip hwb hr hwr hl hcond
    go_enter Tryz.func16,Tryz.ntmps16
    go_wp2_with fail
    first | (go_region_held3 (fun w'=>Oth [] (w.alloc (.cells #[.int .i64 k,.int .i64 i] 63)) w'∧w'.cell? ⟨L.q,0,none⟩=some (.slice (some ⟨L.gw,0,none⟩) (L.n + 1) L.cw)∧w'.cell? ⟨L.q,5,none⟩=some (.int .i64 L.cap)∧w'.cell? ⟨L.q,12,none⟩=some (.int .i64 σ.words)∧w'.cell? ⟨w.heap.size,0,none⟩=some (.int .i64 k)∧w'.cell? ⟨w.heap.size,1,none⟩=some (.int .i64 i))
      (first | exact KEEP.out _ (Oth.refl _ _).drew | exact KEEP.out _ ((Oth.refl _ _).drew.trans ho9 (Fr.nil _ _)))
      (first | (go_at_call 43;(with_reducible refine (NR.out _ (HOW.out _ (Oth.refl _ _).drew)).mono ?_);rintro e w' ⟨rfl,ho9⟩))) | fail
    rename_i hh
    obtain ⟨s0,s1,s2,s3,s4,s5⟩:=hh
    go_wp2_with (go_at_call 44;(with_reducible refine (NL.out _ (HOW.out _ s0)).mono ?_);rintro e w3 ⟨rfl,ho3⟩)
    go_ret
    exact ⟨⟨24,by decide,rfl⟩,HOW.out _ (s0.trans ho3 (Fr.nil _ _))⟩
end
end Go.Proofs.YtnpdcjdmbkcpbaaGreat.Ins
