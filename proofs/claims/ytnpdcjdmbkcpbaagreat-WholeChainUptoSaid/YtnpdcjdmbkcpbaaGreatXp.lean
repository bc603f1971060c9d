/- The walk of net.unused. A list of shapes that is being filled; the walk of net.lay. Plain: what an op answers is right, and what it costs. The walk of greedy.chained over contracts of price.Of, Chain and Order. No condition. -/
import Derived.Test.YtnpdcjdmbkcpbaaGreatXo
import Derived.Test.YtnpdcjdmbkcpbaaGreatXn
set_option linter.unusedVariables false
set_option linter.unusedSimpArgs false
namespace Go.Proofs.YtnpdcjdmbkcpbaaGreat.Ins
open Go.RowKit
theorem used_step {I:List (List Int)} {m:Nat} {l:List Int} (h:I[m]?=some l) (i:Nat):usedB (I.take (m + 1)) i=(usedB (I.take m) i || l.contains (i:Int)):=by
  unfold usedB
  rw [List.take_add_one,h,List.any_append]
  simp
theorem cont_step {l:List Int} {j:Nat} {x:Int} (h:l[j]?=some x) (i:Nat):(l.take (j + 1)).contains (i:Int)=((l.take j).contains (i:Int) || decide ((i:Int)=x)):=by
  rw [List.take_add_one,h]
  simp [List.contains_eq_any_beq]
theorem lossF_le (I:List (List Int)):∀ m,(lossF I m).1≤m∧(lossF I m).2≤m
  | 0=>⟨Nat.le_refl _,Nat.le_refl _⟩
  | m + 1=>by
    have:=lossF_le I m
    rw [lossF]
    split
    · omega
    · exact ⟨Nat.le_succ _,by simp only;omega⟩
section
variable {D:NetD} {w:World}
set_option maxRecDepth 100000 in
set_option maxHeartbeats 8000000 in
theorem unused_any (hr:D.R w) (hn:1≤D.n∧D.n≤64) (hd:∀ d∈D.L,d.ins.length≤300∧∀ x∈d.ins,0≤x∧x≤(D.n:Int)) :
    Calls Tryz.prog 58 #[D.val] w fun e w'=>e = .returned (.tuple #[.int .i64 (lossF D.I (D.n + 1)).1,.bool (decide ((lossF D.I (D.n + 1)).2=1∧(lossF D.I (D.n + 1)).1≠0))])∧Oth [] w w':=by
  obtain ⟨gN,oN,hb,hnd⟩:=hr.base hn.1
  have HD:=Lib.hid hd
  have HLEN:=Lib.hid hr.len
  have HND:Hid (∀ w',Oth [] w w'→∀ k d,D.L[k]?=some d→(∀ j v,d.cells[j]?=some v→w'.cell? ⟨gN,oN + k * 10 + j,none⟩=some v)∧d.R w'):=fun w' ho k d hk=>⟨fun j v hj=>ho.cell ((hnd k d hk).1 j v hj) (by simp),(hnd k d hk).2.oth ho⟩
  have hval:D.val = .agg #[.slice D.i.b D.i.n D.i.c,.slice (some ⟨gN,oN,none⟩) D.n D.c]:=by unfold NetD.val;rw [hb];rfl
  have e1:IntKind.i64.wrap ((D.n:Int) + 1)=(D.n:Int) + 1:=IntWalk.i64_in _ (by omega)
  have hm0:∀ w',_:=fun w'=>run_make_row' (P:=Tryz.prog) 104 4 (.bool false) 1 Tryz.underlying104 info4 rfl .i64 .i64 (D.n + 1) (by omega) (by omega) w'
  simp only [Int.natCast_add,Int.natCast_one] at hm0
  rw [hval]
  have HR0:Hid (Bls (w.heap.size + 1) (fun i=>usedB (D.I.take 0) i || ([]:List Int).contains (i:Int)) (D.n + 1) (D.n + 1) ((w.alloc (.cells #[.slice D.i.b D.i.n D.i.c,.slice (some ⟨gN,oN,none⟩) D.n D.c] 26)).alloc (.cells (madeCells #[.bool false] (D.n + 1)) 4))):=by
    refine bls_row (len:=D.n + 1) ?_ (by unfold maxLen;omega) (fun i _=>by simp [usedB])
    have:=heap_alloc_new (w.alloc (.cells #[.slice D.i.b D.i.n D.i.c,.slice (some ⟨gN,oN,none⟩) D.n D.c] 26)) (.cells (madeCells #[.bool false] (D.n + 1)) 4)
    rwa [World.size_alloc] at this
  have HL:Hid (lossF D.I (D.n + 1)=lossF (D.I.take D.n) (D.n + 1)):=by
    rw [List.take_of_length_le (by unfold NetD.I;rw [List.length_map,← HLEN.out];exact Nat.le_refl _)]
    exact Lib.hid rfl
  obtain ⟨LR,hLR⟩:∃ LR,LR=lossF D.I (D.n + 1):=⟨_,rfl⟩
  rw [← hLR]
  rw [← hLR] at HL
  clear hr hnd hb hval hd hLR
  go_enter Tryz.func58,Tryz.ntmps58
  go_wp2_with fail
  go_loopw [21] (fun x wr=>∃ m:Nat,m≤D.n∧x = .int .i64 m∧Oth [] w wr∧Bls (w.heap.size + 1) (fun i=>usedB (D.I.take m) i || ([]:List Int).contains (i:Int)) (D.n + 1) (D.n + 1) wr) (fun x _=>D.n - (intOf x).toNat)
  case atStart=>exact ⟨0,by omega,rfl,((Oth.refl _ _).alloc _).alloc _,HR0.out⟩
  case round=>
    rename World=>wo
    obtain ⟨m,hm,rfl,ho,hrow⟩:=hrel
    by_cases hlt:m < D.n
    · have t1:(m:Int) < D.n:=by omega
      obtain ⟨d,hk⟩:∃ d,D.L[m]?=some d:=⟨_,List.getElem?_eq_getElem (by rw [← HLEN.out];exact hlt)⟩
      obtain ⟨j2,j3⟩:=HND.out wo ho m d hk
      have hdd:=HD.out d (List.mem_of_getElem? hk)
      have hIm:D.I[m]?=some d.ins:=by unfold NetD.I;rw [List.getElem?_map,hk];rfl
      obtain ⟨o,bi,ni,ci,ins,bp,np,cp,P⟩:=d
      have c0:=j2 0 _ rfl
      have c1:=j2 1 _ rfl
      have c2:=j2 2 _ rfl
      have c3:=j2 3 _ rfl
      have c4:=j2 4 _ rfl
      have c5:=j2 5 _ rfl
      have c6:=j2 6 _ rfl
      have c7:=j2 7 _ rfl
      have c8:=j2 8 _ rfl
      have c9:=j2 9 _ rfl
      rw [Nat.add_zero] at c0
      have l2:=World.block_lt_of_cell? _ _ c0
      have hni:ni=ins.length:=j3.ins.len
      have hni2:ni≤300:=by rw [hni];exact hdd.1
      have HIN:Hid (RI bi ni ci ins w):=(HND.out w (Oth.refl _ _) m _ hk).2.ins
      have HDD:=Lib.hid hdd
      have HIM:=Lib.hid hIm
      have HNI:=Lib.hid hni
      have HK:=Lib.hid (And.intro ho hrow)
      dsimp only at c0 c1 c2 c3 c4 c5 c6 c7 c8 c9
      clear j2 j3 hk hdd hIm hni ho hrow
      have e4:IntKind.i64.wrap ((m:Int) + 1)=(m:Int) + 1:=IntWalk.i64_in _ (by omega)
      go_wp2_with fail
      go_loopw [28] (fun y w2=>∃ j:Nat,j≤ni∧y = .int .i64 j∧Oth [] w w2∧Bls (w.heap.size + 1) (fun i=>usedB (D.I.take m) i || (ins.take j).contains (i:Int)) (D.n + 1) (D.n + 1) w2) (fun y _=>ni - (intOf y).toNat)
      case atStart=>exact ⟨0,by omega,rfl,HK.out.1.alloc _,HK.out.2.oth ((Oth.refl [] _).alloc _) (by simp)⟩
      case round=>
        obtain ⟨j,hj,rfl,ho,hrow⟩:=hrel
        by_cases hlj:j < ni
        · have t2:(j:Int) < ni:=by omega
          obtain ⟨x,hx⟩:∃ x,ins[j]?=some x:=⟨_,List.getElem?_eq_getElem (by rw [← HNI.out];exact hlj)⟩
          obtain ⟨gi,oi,rfl,hc⟩:=(HIN.out.oth ho).at_ j x hx
          have hxb:=HDD.out.2 x (List.mem_of_getElem? hx)
          obtain ⟨z,rfl⟩:∃ z:Nat,x=z:=⟨x.toNat,by omega⟩
          have lgi:=World.block_lt_of_cell? _ _ hc
          have b1:=hrow.at_ (i:=z) (by omega)
          have b2:=hrow.free z
          have b3:=hrow.lt
          have t3:(z:Int) < (D.n:Int) + 1:=by omega
          have e5:IntKind.i64.wrap ((j:Int) + 1)=(j:Int) + 1:=IntWalk.i64_in _ (by omega)
          have HX:=Lib.hid hx
          have HF:=Lib.hid (And.intro ho hrow)
          generalize (usedB (D.I.take m) z || (ins.take j).contains (z:Int))=bz at b1
          clear hx hxb ho hrow
          go_wp2_with fail
          go_roundw
          case rel=>
            refine ⟨j + 1,by omega,by go_num,HF.out.1.setCell (.inr (Nat.le_succ _)) _,(HF.out.2.set z true).ext fun i _=>?_⟩
            rw [cont_step HX.out,on]
            by_cases e:i=z
            · subst e;simp
            · rw [if_neg e,decide_eq_false (by omega),Bool.or_false]
          case measure=>simp [intOf];omega
        · obtain rfl:j=ni:=by omega
          have t2:¬ (j:Int) < j:=by omega
          have HF:=Lib.hid (And.intro ho hrow)
          clear ho hrow
          go_wp2_with fail
          go_roundw
          case rel=>
            refine ⟨m + 1,by omega,by go_num,HF.out.1,HF.out.2.ext fun i _=>?_⟩
            rw [used_step HIM.out,List.take_of_length_le (l:=ins) (by rw [← HNI.out];exact Nat.le_refl _)]
            simp
          case measure=>simp [intOf];omega
    · obtain rfl:m=D.n:=by omega
      have t1:¬ (D.n:Int) < (D.n:Int):=by omega
      have HK:=Lib.hid (And.intro ho hrow)
      clear ho hrow
      go_wp2_with fail
      go_loopw [39,9,10] (fun x y z wr=>∃ k:Nat,k≤D.n + 1∧x = .int .i64 k∧y = .int .i64 (lossF (D.I.take D.n) k).1∧z = .int .i64 (lossF (D.I.take D.n) k).2∧Oth [] w wr∧Bls (w.heap.size + 1) (fun i=>usedB (D.I.take D.n) i || ([]:List Int).contains (i:Int)) (D.n + 1) (D.n + 1) wr) (fun x _ _ _=>D.n + 1 - (intOf x).toNat)
      case atStart=>exact ⟨0,by omega,rfl,rfl,rfl,HK.out.1,HK.out.2⟩
      case round=>
        obtain ⟨k,hk,rfl,hy,hz,ho,hrow⟩:=hrel
        have hle:=lossF_le (D.I.take D.n) k
        by_cases hlt:k < D.n + 1
        · have t2:(k:Int) < (D.n:Int) + 1:=by omega
          have b1:=hrow.at_ (i:=k) hlt
          have b2:=hrow.lt
          have e5:IntKind.i64.wrap ((k:Int) + 1)=(k:Int) + 1:=IntWalk.i64_in _ (by omega)
          have HS:Hid (lossF (D.I.take D.n) (k + 1)=if (usedB (D.I.take D.n) k || ([]:List Int).contains (k:Int))=true then lossF (D.I.take D.n) k else (k,(lossF (D.I.take D.n) k).2 + 1)):=by
            have:lossF (D.I.take D.n) (k + 1)=if usedB (D.I.take D.n) k=true then lossF (D.I.take D.n) k else (k,(lossF (D.I.take D.n) k).2 + 1):=rfl
            have h9:=Lib.hid this
            simpa using h9
          have HF:=Lib.hid (And.intro ho hrow)
          generalize (usedB (D.I.take D.n) k || ([]:List Int).contains (k:Int))=r at b1 HS
          generalize lossF (D.I.take D.n) k=q at hy hz HS hle
          obtain ⟨q1,q2⟩:=q
          dsimp only at hy hz hle
          subst hy hz
          have e6:IntKind.i64.wrap ((q2:Int) + 1)=(q2:Int) + 1:=IntWalk.i64_in _ (by omega)
          clear ho hrow
          cases r
          · go_wp2_with fail
            go_roundw
            case rel=>exact ⟨k + 1,by omega,by go_num,by rw [HS.out];rfl,by rw [HS.out];rfl,HF.out⟩
            case measure=>simp [intOf];omega
          · go_wp2_with fail
            go_roundw
            case rel=>exact ⟨k + 1,by omega,by go_num,by rw [HS.out];rfl,by rw [HS.out];rfl,HF.out⟩
            case measure=>simp [intOf];omega
        · obtain rfl:k=D.n + 1:=by omega
          have t2:¬ (D.n:Int) + 1 < (D.n:Int) + 1:=by omega
          rw [← HL.out] at hy hz hle
          obtain ⟨q1,q2⟩:=LR
          dsimp only at hy hz hle
          subst hy hz
          have HO:=Lib.hid ho
          clear ho hrow HL
          rw [Int.natCast_add,Int.natCast_one]
          by_cases h1:q2=1
          · subst h1
            by_cases h2:q1=0
            · subst h2
              go_wp2_with fail
              go_ret2
              exact ⟨rfl,HO.out⟩
            · have t3:((q1:Int) != 0)=true:=by simp [h2]
              go_wp2_with fail
              go_ret2
              exact ⟨by simp [h2],HO.out⟩
          · have t3:((q2:Int) == 1)=false:=by simp;omega
            go_wp2_with fail
            go_ret2
            exact ⟨by simp [h1],HO.out⟩
end
end Go.Proofs.YtnpdcjdmbkcpbaaGreat.Ins
namespace Go.Proofs.YtnpdcjdmbkcpbaaGreat.Ins
open Go.RowKit
theorem info23s:(Tryz.prog.info? 23).map (fun i=>(i.zero,i.size,i.bytes))=some (some (.slice none 0 0),1,24):=by kernel_rfl
def ShpR (g N:Nat) (f:Nat→List Int) (w:World):Prop:=∃ V:Nat→Sh,Row 23 1 g N N ((List.range N).map fun i=>(V i).val) w∧∀ i,i < N→(V i).R w∧(V i).l=f i
section
variable {g N:Nat} {f:Nat→List Int} {w w':World}
theorem noint {V:Nat→Sh} (h:Row 23 1 g N N ((List.range N).map fun i=>(V i).val) w) (j:Nat) (x:Int):w.cell? ⟨g,j,none⟩≠some (.int .i64 x):=by
  obtain ⟨cur,h1,h2,h3,h4,h5,h6⟩:=h
  intro e
  have e':cur[j]?=some (.int .i64 x):=by rw [← e,World.cell?,h1];rfl
  rcases Nat.lt_or_ge j N with hj | hj
  · have h7:=h6 j (by omega)
    rw [List.getElem?_map,List.getElem?_range hj,e'] at h7
    simp [Sh.val] at h7
  · rw [Array.getElem?_eq_none (by omega)] at e';cases e'
theorem RI.set {b:Option Addr} {n c:Nat} {l:List Int} {V:Nat→Sh} (h:RI b n c l w) (hrow:Row 23 1 g N N ((List.range N).map fun i=>(V i).val) w) (i:Nat) (v:Value):RI b n c l (w.setCell ⟨g,i,none⟩ v):=by
  refine ⟨h.len,h.cap,h.wf,fun k x hk=>?_⟩
  obtain ⟨g',off,hb,hc⟩:=h.at_ k x hk
  refine ⟨g',off,hb,((Oth.refl [g] w).setCell (.inl (by simp)) v).cell hc (fun e=>?_)⟩
  simp at e
  subst e
  exact noint hrow _ _ hc
theorem ShpR.oth (h:ShpR g N f w) (ho:Oth [] w w'):ShpR g N f w':=by
  obtain ⟨V,h1,h2⟩:=h
  exact ⟨V,h1.oth ho (by simp),fun i hi=>⟨RI.oth (h2 i hi).1 ho,(h2 i hi).2⟩⟩
theorem ShpR.lt (h:ShpR g N f w):g < w.heap.size:=by
  obtain ⟨V,h1,h2⟩:=h
  exact h1.lt
theorem ShpR.free (h:ShpR g N f w) (i:Nat):w.frozen? ⟨g,i,none⟩=false:=by
  obtain ⟨V,h1,h2⟩:=h
  exact h1.free i
theorem ShpR.at_ (h:ShpR g N f w) {i:Nat} (hi:i < N):∃ s:Sh,w.cell? ⟨g,i,none⟩=some (.slice s.b s.n s.c)∧RI s.b s.n s.c s.l w∧s.l=f i:=by
  obtain ⟨V,h1,h2⟩:=h
  exact ⟨V i,h1.cell (by rw [List.getElem?_map,List.getElem?_range hi];rfl),(h2 i hi).1,(h2 i hi).2⟩
theorem ShpR.set (h:ShpR g N f w) {b:Option Addr} {n c:Nat} {l:List Int} (hs:RI b n c l w) (i:Nat):ShpR g N (fun j=>if j=i then l else f j) (w.setCell ⟨g,i,none⟩ (.slice b n c)):=by
  obtain ⟨V,h1,h2⟩:=h
  refine ⟨fun j=>if j=i then ⟨b,n,c,l⟩ else V j,?_,fun j hj=>?_⟩
  · have h3:=rowV_set h1 i (.slice b n c)
    have e:(List.range N).map (fun j=>(if j=i then (⟨b,n,c,l⟩:Sh) else V j).val)=(List.range N).map (fun j=>if j=i then .slice b n c else (V j).val):=by
      congr 1;funext j;split <;> rfl
    rw [e];exact h3
  · by_cases e:j=i
    · simp only [e,if_true];exact ⟨RI.set hs h1 i _,by trivial⟩
    · simp only [e,if_false];exact ⟨RI.set (h2 j hj).1 h1 i _,(h2 j hj).2⟩
theorem ShpR.other {g' N':Nat} {f':Nat→List Int} (h:ShpR g N f w) (h':ShpR g' N' f' w) (hne:g≠g') (i:Nat) (v:Value):ShpR g N f (w.setCell ⟨g',i,none⟩ v):=by
  obtain ⟨V,h1,h2⟩:=h
  obtain ⟨V',h3,h4⟩:=h'
  exact ⟨V,h1.oth ((Oth.refl [g'] w).setCell (.inl (by simp)) v) (by simpa using hne),fun j hj=>⟨RI.set (h2 j hj).1 h3 i _,(h2 j hj).2⟩⟩
theorem ShpR.ext {f':Nat→List Int} (h:ShpR g N f w) (hf:∀ i,i < N→f i=f' i):ShpR g N f' w:=by
  obtain ⟨V,h1,h2⟩:=h
  exact ⟨V,h1,fun i hi=>⟨(h2 i hi).1,by rw [← hf i hi];exact (h2 i hi).2⟩⟩
theorem ShpR.make (hN:N≤maxLen):ShpR w.heap.size N (fun _=>[]) (w.alloc (.cells (madeCells #[.slice none 0 0] N) 23)):=by
  refine ⟨fun _=>⟨none,0,0,[]⟩,?_,fun i _=>⟨⟨rfl,⟨Nat.le_refl _,Nat.zero_le _⟩,fun k hk=>absurd hk (by simp),fun i k hk=>absurd hk (by simp)⟩,rfl⟩⟩
  have e:(List.range N).map (fun _=>Sh.val ⟨none,0,0,[]⟩)=List.replicate N (.slice none 0 0):=by
    rw [List.eq_replicate_iff]
    exact ⟨by simp,fun b hb=>by obtain ⟨i,-,rfl⟩:=List.mem_map.1 hb;rfl⟩
  rw [e]
  have h2:(w.alloc (.cells (madeCells #[.slice none 0 0] N) 23)).heap[w.heap.size]?=some (.cells (List.replicate N (Value.slice none 0 0)).toArray 23 (0,0)):=by
    rw [← toList_madeCells_one];exact heap_alloc_new _ _
  exact row_of_list h2 (by simp) hN
theorem ShpR.rl (h:ShpR g N f w) (hN:N≤maxLen):∃ S:List Sh,RL (some ⟨g,0,none⟩) N N S w∧S.map Sh.l=(List.range N).map f:=by
  obtain ⟨V,h1,h2⟩:=h
  refine ⟨(List.range N).map V,⟨by simp,⟨Nat.le_refl _,hN⟩,fun i s hi=>?_⟩,?_⟩
  · have hil:i < N:=by have:=(List.getElem?_eq_some_iff.1 hi).1;simpa using this
    rw [List.getElem?_map,List.getElem?_range hil] at hi
    simp at hi
    subst hi
    exact ⟨g,0,rfl,by rw [Nat.zero_add];exact h1.cell (by rw [List.getElem?_map,List.getElem?_range hil];rfl),(h2 i hil).1⟩
  · rw [List.map_map]
    refine List.map_congr_left fun i hi=>(h2 i (List.mem_range.1 hi)).2
end
theorem range_map {l:List Int} {n:Nat} (h:n=l.length) (f:Int→List Int):(List.range n).map (fun i=>if i < n then f (l.getD i 0) else [])=l.map f:=by
  subst h
  apply List.ext_getElem
  · simp
  · intro i h1 h2
    simp at h1
    simp [h1]
def LayR (D:NetD) (O:List Int) (w:World) (e:Ending) (w':World):Prop:=
  match layF D O D.n with
  | none=>∃ k:Int,k≠0∧e = .returned (.tuple #[.slice none 0 0,.int .i64 k])
  | some f=>∃ g,e = .returned (.tuple #[.slice (some ⟨g,0,none⟩) (D.n + 1:Nat) (D.n + 1:Nat),.int .i64 0])∧ShpR g (D.n + 1) f w'∧w.heap.size≤g
theorem layF_none {D:NetD} {O:List Int}:∀ {m n:Nat},layF D O m=none→m≤n→layF D O n=none
  | m, 0, h, hm => by obtain rfl:m=0:=by omega
                      exact h
  | m,n + 1,h,hm=>by
    by_cases e:m=n + 1
    · subst e;exact h
    · rw [layF,layF_none h (by omega)]
section
variable {D:NetD} {w:World}
set_option maxRecDepth 100000 in
set_option maxHeartbeats 8000000 in
theorem lay_any {O:List Int} {go co:Nat} (hr:D.R w) (hn:1≤D.n∧D.n≤64) (hin:D.i.l.length≤300) (hd:∀ d∈D.L,d.ins.length≤300∧∀ x∈d.ins,0≤x∧x≤(D.n:Int))
    (hO:Row 3 1 go D.n co (ivl O) w) (hOl:O.length=D.n) (hOm:∀ x∈O,1≤x∧x≤(D.n:Int)) :
    Calls Tryz.prog 57 #[D.val,.slice (some ⟨go,0,none⟩) D.n co] w fun e w'=>LayR D O w e w'∧Oth [] w w':=by
  obtain ⟨gN,oN,hb,hnd⟩:=hr.base hn.1
  have HD:=Lib.hid hd
  have HLEN:=Lib.hid hr.len
  have HND:Hid (∀ w',Oth [] w w'→∀ k d,D.L[k]?=some d→(∀ j v,d.cells[j]?=some v→w'.cell? ⟨gN,oN + k * 10 + j,none⟩=some v)∧d.R w'):=fun w' ho k d hk=>⟨fun j v hj=>ho.cell ((hnd k d hk).1 j v hj) (by simp),(hnd k d hk).2.oth ho⟩
  have hval:D.val = .agg #[.slice D.i.b D.i.n D.i.c,.slice (some ⟨gN,oN,none⟩) D.n D.c]:=by unfold NetD.val;rw [hb];rfl
  have HBX:Hid (∀ w',Oth [] (w.alloc (.cells #[.slice D.i.b D.i.n D.i.c,.slice (some ⟨gN,oN,none⟩) D.n D.c] 26)) w'→Oth [] w w'∧w'.cell? ⟨w.heap.size,0,none⟩=some (.slice D.i.b D.i.n D.i.c)∧w'.cell? ⟨w.heap.size,1,none⟩=some (.slice (some ⟨gN,oN,none⟩) D.n D.c)):=fun w' ho=>net_box ho
  have e1:IntKind.i64.wrap ((D.n:Int) + 1)=(D.n:Int) + 1:=IntWalk.i64_in _ (by omega)
  have hm0:∀ w',_:=fun w'=>run_make_row' (P:=Tryz.prog) 78 23 (.slice none 0 0) 24 Tryz.underlying78 info23s rfl .i64 .i64 (D.n + 1) (by omega) (by omega) w'
  simp only [Int.natCast_add,Int.natCast_one] at hm0
  have hri:RI D.i.b D.i.n D.i.c D.i.l w:=hr.i
  have hil:D.i.n≤1000000:=by rw [hri.len];omega
  have N1:Hid (∀ w',Oth [] w w'→Calls Tryz.prog 111 #[.slice D.i.b D.i.n D.i.c] w' fun e w2=>∃ g,e = .returned (.slice (some ⟨g,0,none⟩) D.i.n D.i.n)∧Oth [] w' w2∧w'.heap.size≤g∧RI (some ⟨g,0,none⟩) D.i.n D.i.n D.i.l w2):=fun w' ho=>copy_any (hri.oth ho) hil
  have HORD:Hid (∀ w',Oth [] w w'→∀ m,m < D.n→w'.cell? ⟨go,m,none⟩=some (.int .i64 (O.getD m 0))):=fun w' ho m hm=>ho.cell (hO.cell (by simp only [ivl];rw [List.getElem?_map,getD_some (by omega)];rfl)) (by simp)
  have HOM:Hid (∀ m,m < D.n→1≤O.getD m 0∧O.getD m 0≤(D.n:Int)):=fun m hm=>hOm _ (List.mem_of_getElem? (getD_some (by omega)))
  rw [hval]
  obtain ⟨W1,hW1⟩:∃ W1,W1=w.alloc (.cells #[.slice D.i.b D.i.n D.i.c,.slice (some ⟨gN,oN,none⟩) D.n D.c] 26):=⟨_,rfl⟩
  have hsz1:W1.heap.size=w.heap.size + 1:=by rw [hW1,World.size_alloc]
  have HS0:Hid (ShpR (w.heap.size + 1) (D.n + 1) (fun _=>[]) (W1.alloc (.cells (madeCells #[.slice none 0 0] (D.n + 1)) 23))):=by
    rw [← hsz1];exact ShpR.make (by unfold maxLen;omega)
  have HW1:=Lib.hid hW1
  have HBW:Hid (∀ w',Oth [] W1 w'→Oth [] w w'∧w'.cell? ⟨w.heap.size,0,none⟩=some (.slice D.i.b D.i.n D.i.c)∧w'.cell? ⟨w.heap.size,1,none⟩=some (.slice (some ⟨gN,oN,none⟩) D.n D.c)∧w.heap.size < w'.heap.size):=fun w' ho=>by
    rw [HW1.out] at ho
    have h:=HBX.out w' ho
    exact ⟨h.1,h.2.1,h.2.2,World.block_lt_of_cell? _ _ h.2.2⟩
  have HSZ:=Lib.hid hsz1
  rw [hW1] at HS0
  clear hr hnd hb hval hd hri hin hil hO hOm HBX hW1 hsz1
  go_enter Tryz.func57,Tryz.ntmps57
  go_wp2_with (go_at_call 111;(with_reducible refine (N1.out _ (((Oth.refl [] w).alloc _).alloc _)).mono ?_);rintro e w1 ⟨g1,rfl,ho1,hg1,hri1⟩;have hs1:=HS0.out.oth ho1;have k1:=hs1.free 0;have k2:=hs1.lt;(obtain ⟨s0,k3,-,-⟩:=hs1.at_ (i:=0) (Nat.succ_pos _));replace hs1:=Lib.hid hs1;replace ho1:=Lib.hid ho1;replace hri1:=Lib.hid hri1)
  have HS1:Hid (ShpR (w.heap.size + 1) (D.n + 1) (fun i=>if i=0 then D.i.l else []) (w1.setCell ⟨w.heap.size + 1,0,none⟩ (.slice (some ⟨g1,0,none⟩) D.i.n D.i.n))):=hs1.out.set hri1.out 0
  have HO1:Hid (Oth [] W1 (w1.setCell ⟨w.heap.size + 1,0,none⟩ (.slice (some ⟨g1,0,none⟩) D.i.n D.i.n))):=by
    have h:=((Oth.refl [] W1).alloc (.cells (madeCells #[.slice none 0 0] (D.n + 1)) 23))
    rw [HW1.out] at h ⊢
    exact (h.trans ho1.out (Fr.nil _ _)).setCell (.inr (by rw [World.size_alloc];exact Nat.le_refl _)) _
  clear hs1 hri1 ho1 k1 k2 k3 hg1 HS0 N1
  go_loopw [27] (fun x wr=>∃ (m:Nat) (f:Nat→List Int),m≤D.n∧x = .int .i64 m∧layF D O m=some f∧Oth [] W1 wr∧ShpR (w.heap.size + 1) (D.n + 1) f wr) (fun x _=>D.n - (intOf x).toNat)
  case atStart=>exact ⟨0,_,by omega,rfl,rfl,HO1.out,HS1.out⟩
  case round=>
    rename World=>wo
    obtain ⟨m,f,hm,rfl,hf,ho,hrow⟩:=hrel
    obtain ⟨p0,-,p1,p2⟩:=HBW.out wo ho
    by_cases hlt:m < D.n
    · have t1:(m:Int) < D.n:=by omega
      have q1:=HORD.out wo p0 m hlt
      have q2:=World.block_lt_of_cell? _ _ q1
      have q3:=HOM.out m hlt
      obtain ⟨z,hz⟩:∃ z:Nat,O.getD m 0=(z:Int) + 1:=⟨(O.getD m 0).toNat - 1,by omega⟩
      obtain ⟨d,hk⟩:∃ d,D.L[z]?=some d:=⟨_,List.getElem?_eq_getElem (by rw [← HLEN.out];omega)⟩
      have HLF:Hid (layF D O (m + 1)=match d.op.shape (d.P.map Sh.l) (d.ins.map fun x=>f x.toNat) with
        | none=>none
        | some s=>some fun i=>if i=z + 1 then s else f i):=by
        rw [layF,hf]
        simp only
        rw [show (O.getD m 0).toNat - 1=z by omega,hk,show (O.getD m 0).toNat=z + 1 by omega]
        exact Lib.hid rfl
      rw [hz] at q1
      have hzn:z < D.n:=by omega
      have t2:(z:Int) < (D.n:Int):=by omega
      have e2:IntKind.i64.wrap (z:Int)=(z:Int):=IntWalk.i64_in _ (by omega)
      have e3:(z:Int) + 1 - 1=(z:Int):=by omega
      have e4:IntKind.i64.wrap ((m:Int) + 1)=(m:Int) + 1:=IntWalk.i64_in _ (by omega)
      obtain ⟨j2,j3⟩:=HND.out wo p0 z d hk
      have hdd:=HD.out d (List.mem_of_getElem? hk)
      obtain ⟨o,bi,ni,ci,ins,bp,np,cp,P⟩:=d
      have c0:=j2 0 _ rfl
      have c1:=j2 1 _ rfl
      have c2:=j2 2 _ rfl
      have c3:=j2 3 _ rfl
      have c4:=j2 4 _ rfl
      have c5:=j2 5 _ rfl
      have c6:=j2 6 _ rfl
      have c7:=j2 7 _ rfl
      have c8:=j2 8 _ rfl
      have c9:=j2 9 _ rfl
      rw [Nat.add_zero] at c0
      have l2:=World.block_lt_of_cell? _ _ c0
      have hni:ni=ins.length:=j3.ins.len
      have hni2:ni≤300:=by rw [hni];exact hdd.1
      have HJ:Hid (ND.R ⟨o,bi,ni,ci,ins,bp,np,cp,P⟩ w):=(HND.out w (Oth.refl _ _) z _ hk).2
      have HDD:=Lib.hid hdd
      have HNI:=Lib.hid hni
      have HK:=Lib.hid (And.intro ho hrow)
      have HP0:=Lib.hid p0
      dsimp only at c0 c1 c2 c3 c4 c5 c6 c7 c8 c9
      have hm2:∀ w',_:=fun w'=>run_make_row' (P:=Tryz.prog) 78 23 (.slice none 0 0) 24 Tryz.underlying78 info23s rfl .i64 .i64 ni (by omega) (by omega) w'
      obtain ⟨WN,hWN⟩:∃ WN,WN=wo.alloc (.cells #[.int .i64 o.kind,.int .i64 o.k,.int .i64 o.width,.int .i64 o.step,.int .i64 o.side,.int .i64 o.fr,.int .i64 o.to,.slice o.b o.n o.c,.slice bi ni ci,.slice bp np cp] 80):=⟨_,rfl⟩
      have hszN:WN.heap.size=wo.heap.size + 1:=by rw [hWN,World.size_alloc]
      have HX0:Hid (ShpR (wo.heap.size + 1) ni (fun _=>[]) (WN.alloc (.cells (madeCells #[.slice none 0 0] ni) 23))):=by
        rw [← hszN];exact ShpR.make (by unfold maxLen;omega)
      have HPN:Hid (∀ w',Oth [] WN w'→Oth [] wo w'∧w'.heap[wo.heap.size]?=some (.cells #[.int .i64 o.kind,.int .i64 o.k,.int .i64 o.width,.int .i64 o.step,.int .i64 o.side,.int .i64 o.fr,.int .i64 o.to,.slice o.b o.n o.c,.slice bi ni ci,.slice bp np cp] 80 (0,0))):=fun w' h=>by
        rw [hWN] at h
        exact ⟨((Oth.refl [] wo).alloc _).trans h (Fr.nil _ _),h.heap (heap_alloc_new _ _) (by simp)⟩
      have HWN:=Lib.hid hWN
      clear j2 j3 hk hdd hni ho hrow hf p0 q3 hz hWN hszN
      go_wp2_with fail
      go_loopw [44] (fun y w2=>∃ j:Nat,j≤ni∧y = .int .i64 j∧Oth [] WN w2∧ShpR (wo.heap.size + 1) ni (fun i=>if i < j then f (ins.getD i 0).toNat else []) w2∧ShpR (w.heap.size + 1) (D.n + 1) f w2) (fun y _=>ni - (intOf y).toNat)
      case atStart=>
        have h:=HX0.out
        have h2:Oth [] WN (WN.alloc (.cells (madeCells #[.slice none 0 0] ni) 23)):=(Oth.refl _ _).alloc _
        rw [HWN.out] at h h2
        refine ⟨0,by omega,rfl,by rw [HWN.out];exact h2,h.ext (fun i _=>by rw [if_neg (by omega)]),HK.out.2.oth (((Oth.refl _ _).alloc _).alloc _)⟩
      case round=>
        obtain ⟨j,hj,rfl,ho,hx,hrow⟩:=hrel
        obtain ⟨ho2,hp⟩:=HPN.out wr ho
        have ho3:=HP0.out.trans ho2 (Fr.nil _ _)
        by_cases hlj:j < ni
        · have t3:(j:Int) < ni:=by omega
          obtain ⟨x,hxi⟩:∃ x,ins[j]?=some x:=⟨_,List.getElem?_eq_getElem (by rw [← HNI.out];exact hlj)⟩
          obtain ⟨gi,oi,rfl,hc⟩:=(HJ.out.oth ho3).ins.at_ j x hxi
          have hxb:=HDD.out.2 x (List.mem_of_getElem? hxi)
          obtain ⟨zz,rfl⟩:∃ zz:Nat,x=zz:=⟨x.toNat,by omega⟩
          have lgi:=World.block_lt_of_cell? _ _ hc
          obtain ⟨s,b1,b2,b3⟩:=hrow.at_ (i:=zz) (by omega)
          have b4:=World.block_lt_of_cell? _ _ b1
          obtain ⟨s',x1,-,-⟩:=hx.at_ (i:=j) hlj
          have x2:=hx.free j
          have x3:=hx.lt
          have t4:(zz:Int) < (D.n:Int) + 1:=by omega
          have e5:IntKind.i64.wrap ((j:Int) + 1)=(j:Int) + 1:=IntWalk.i64_in _ (by omega)
          have HX:=Lib.hid hxi
          have HF:=Lib.hid (And.intro ho (And.intro hx (And.intro hrow (And.intro b2 b3))))
          clear hxi hxb ho hx hrow ho2 ho3 hp b2 b3
          go_wp2_with fail
          go_roundw
          case rel=>
            have hsl:=HF.out.1.size
            have hwl:=HP0.out.size
            refine ⟨j + 1,by omega,by go_num,HF.out.1.setCell (.inr (by rw [HWN.out,World.size_alloc];exact Nat.le_refl _)) _,(HF.out.2.1.set HF.out.2.2.2.1 j).ext (fun i hi=>?_),HF.out.2.2.1.other HF.out.2.1 (by omega) j _⟩
            by_cases e:i=j
            · subst e
              rw [if_pos rfl,if_pos (by omega),HF.out.2.2.2.2,List.getD_eq_getElem?_getD,HX.out]
              rfl
            · rw [if_neg e]
              by_cases e2:i < j
              · rw [if_pos e2,if_pos (by omega)]
              · rw [if_neg e2,if_neg (by omega)]
          case measure=>simp [intOf];omega
        · obtain rfl:j=ni:=by omega
          have t3:¬ (j:Int) < j:=by omega
          obtain ⟨S,hS1,hS2⟩:=hx.rl (by unfold maxLen;omega)
          rw [range_map HNI.out (fun x=>f x.toNat)] at hS2
          have hJ:=HJ.out.oth ho3
          have N2:Hid (Calls Tryz.prog 112 #[o.val,.slice bp np cp,.slice (some ⟨wo.heap.size + 1,0,none⟩) j j] wr fun e w'=>(∃ r,ShR r e w'∧r=o.shape (P.map Sh.l) (S.map Sh.l))∧Oth [] wr w'):=opShape_any ⟨hJ.op,hJ.p,hS1⟩
          rw [hS2] at N2
          have r0:wr.cell? ⟨wo.heap.size,0,none⟩=some (.int .i64 o.kind):=by rw [World.cell?,hp];rfl
          have r1:wr.cell? ⟨wo.heap.size,1,none⟩=some (.int .i64 o.k):=by rw [World.cell?,hp];rfl
          have r2:wr.cell? ⟨wo.heap.size,2,none⟩=some (.int .i64 o.width):=by rw [World.cell?,hp];rfl
          have r3:wr.cell? ⟨wo.heap.size,3,none⟩=some (.int .i64 o.step):=by rw [World.cell?,hp];rfl
          have r4:wr.cell? ⟨wo.heap.size,4,none⟩=some (.int .i64 o.side):=by rw [World.cell?,hp];rfl
          have r5:wr.cell? ⟨wo.heap.size,5,none⟩=some (.int .i64 o.fr):=by rw [World.cell?,hp];rfl
          have r6:wr.cell? ⟨wo.heap.size,6,none⟩=some (.int .i64 o.to):=by rw [World.cell?,hp];rfl
          have r7:wr.cell? ⟨wo.heap.size,7,none⟩=some (.slice o.b o.n o.c):=by rw [World.cell?,hp];rfl
          have r9:wr.cell? ⟨wo.heap.size,9,none⟩=some (.slice bp np cp):=by rw [World.cell?,hp];rfl
          have r10:=World.block_lt_of_cell? _ _ r0
          simp only at r10
          unfold OpD.val at N2
          have HF:=Lib.hid (And.intro ho2 hrow)
          generalize o.shape (P.map Sh.l) (ins.map fun x=>f x.toNat)=R at N2 HLF
          have t6:(z:Int) + 1 < (D.n:Int) + 1:=by omega
          clear ho ho2 ho3 hx hrow hJ hS1 hS2 hp
          go_wp2_with fail
          go_at_call 112
          (with_reducible refine N2.out.mono ?_)
          rintro e w9 ⟨⟨r,hr9,rfl⟩,ho9⟩
          have hs9:=HF.out.2.oth ho9
          have v2:=hs9.free (z + 1)
          have v3:=hs9.lt
          obtain ⟨s9,v1,-,-⟩:=hs9.at_ (i:=z + 1) (by omega)
          replace hs9:=Lib.hid hs9
          replace ho9:=Lib.hid ho9
          cases r with
          | none=>
            obtain ⟨k,hk0,rfl⟩:=hr9
            have hx':(k != 0)=true:=by simp [hk0]
            go_wp2_with fail
            go_ret2
            refine ⟨?_,(HP0.out.trans HF.out.1 (Fr.nil _ _)).trans ho9.out (Fr.nil _ _)⟩
            unfold LayR
            rw [layF_none (m:=m + 1) (by rw [HLF.out]) (by omega)]
            exact ⟨k,hk0,rfl⟩
          | some l=>
            obtain ⟨b9,n9,c9,rfl,hr9⟩:=hr9
            have HS9:=Lib.hid (hs9.out.set hr9 (z + 1))
            clear hr9
            go_wp2_with fail
            go_roundw
            case rel=>exact ⟨m + 1,_,by omega,by go_num,by rw [HLF.out],((HK.out.1.trans HF.out.1 (Fr.nil _ _)).trans ho9.out (Fr.nil _ _)).setCell (.inr (by have:=HSZ.out;show W1.heap.size≤w.heap.size + 1;omega)) _,HS9.out⟩
            case measure=>simp [intOf];omega
    · obtain rfl:m=D.n:=by omega
      have t1:¬ (D.n:Int) < (D.n:Int):=by omega
      have HF:=Lib.hid (And.intro hf (And.intro hrow p0))
      clear hf ho hrow p0
      go_wp2_with fail
      go_ret2
      refine ⟨?_,HF.out.2.2⟩
      unfold LayR
      rw [HF.out.1]
      exact ⟨w.heap.size + 1,rfl,HF.out.2.1,by omega⟩
end
end Go.Proofs.YtnpdcjdmbkcpbaaGreat.Ins
namespace Go.Proofs.YtnpdcjdmbkcpbaaGreat.Ins
open Go.RowKit
theorem shB_parts {l:List Int} (h:shB l=true):(1≤l.length∧l.length≤4)∧sidesB l=true∧prd l≤65536:=by
  simp only [shB,Bool.and_eq_true,decide_eq_true_eq] at h
  exact ⟨h.1.1,h.1.2,h.2⟩
theorem shB_mk {l:List Int} (h1:1≤l.length∧l.length≤4) (h2:sidesB l=true) (h3:prd l≤65536):shB l=true:=by
  simp only [shB,Bool.and_eq_true,decide_eq_true_eq]
  exact ⟨⟨h1,h2⟩,h3⟩
theorem shB_prd {l:List Int} (h:shB l=true):1≤prd l∧prd l≤65536:=
  ⟨prd_pos fun k hk=>(sides_mem (shB_parts h).2.1 k hk).1,(shB_parts h).2.2⟩
theorem prd_set_le:∀ (l:List Int) (i:Nat) (y:Int),(∀ k∈l,1≤k)→1≤y→y≤l.getD i 0→prd (l.set i y)≤prd l
  | [],i,y,_,h1,h2=>by simp at h2;omega
  | x :: t,0,y,h,h1,h2=>by
    have h3:1≤prd t:=prd_pos fun k hk=>h k (.tail _ hk)
    simp at h2
    simp only [List.set_cons_zero,prd]
    exact Int.mul_le_mul_of_nonneg_right h2 (by omega)
  | x :: t,i + 1,y,h,h1,h2=>by
    have h3:=prd_set_le t i y (fun k hk=>h k (.tail _ hk)) h1 (by simpa using h2)
    have h4:=h x (.head _)
    simp only [List.set_cons_succ,prd]
    exact Int.mul_le_mul_of_nonneg_left h3 (by omega)
theorem shB_set {l:List Int} (h:shB l=true) {i:Nat} (hi:i < l.length) {y:Int} (h1:1≤y) (h2:y≤l.getD i 0):shB (l.set i y)=true:=by
  obtain ⟨k1,k2,k3⟩:=shB_parts h
  have k4:=shB_side h hi
  refine shB_mk (by simpa using k1) ?_ (Int.le_trans (prd_set_le l i y (fun k hk=>(sides_mem k2 k hk).1) h1 h2) k3)
  simp only [sidesB,List.all_eq_true,Bool.and_eq_true,decide_eq_true_eq]
  intro k hk
  rcases List.mem_or_eq_of_mem_set hk with h5 | h5
  · exact sides_mem k2 k h5
  · omega
theorem window_le {x width step y:Int} (h:windowB x width step=some y):1≤y∧y≤x∧1≤width∧width≤1024:=by
  have h9:=window_side h
  unfold windowB at h
  split at h
  · rename_i h2
    cases h
    have h3:(x - width) / step≤x - width:=by
      have h4:=Int.ediv_le_self (a:=x - width) step (by omega)
      exact h4
    omega
  · cases h
theorem joins_right {side:Int}:∀ {T:List (List Int)} {s r:List Int},shB s=true→joinsB side s T=some r→shB r=true
  | [],s,r,h,e=>by rw [joinsB] at e;cases e;exact h
  | t :: T,s,r,h,e=>by
    rw [joinsB] at e
    cases h1:joinB s t side with
    | none=>rw [h1] at e;cases e
    | some u=>
      rw [h1] at e
      refine joins_right ?_ e
      unfold joinB at h1
      split at h1
      · rename_i h2
        cases h1
        exact h2.2.2.2.2
      · cases h1
theorem getD_all {L:List (List Int)} (h:L.all shB=true) {i:Nat} (hi:i < L.length):shB (L.getD i [])=true:=by
  rw [List.all_eq_true] at h
  rw [List.getD_eq_getElem?_getD,List.getElem?_eq_getElem hi]
  exact h _ (List.getElem_mem hi)
theorem same_right {L:List (List Int)} {s:List Int} (h:sameB L=some s):∀ t∈L,t=s:=by
  cases L with
  | nil=>cases h
  | cons a T=>
    rw [sameB] at h
    split at h
    · rename_i h2
      cases h
      intro t ht
      rcases List.mem_cons.1 ht with e | ht
      · exact e
      · rw [List.all_eq_true] at h2
        exact of_decide_eq_true (h2 t ht)
    · cases h
theorem shape_guards {o:OpD} {p x:List (List Int)} {s:List Int} (h:o.shape p x=some s):o.counts p.length x.length=0∧p.all shB=true∧x.all shB=true:=by
  unfold OpD.shape at h
  by_cases h1:o.counts p.length x.length=0
  · rw [if_neg (by simp [h1])] at h
    cases h2:p.all shB with
    | false=>rw [h2,if_pos rfl] at h;cases h
    | true=>
      rw [h2,if_neg (by simp)] at h
      cases h3:x.all shB with
      | false=>rw [h3,if_pos rfl] at h;cases h
      | true=>exact ⟨h1,rfl,rfl⟩
  · rw [if_pos h1] at h;cases h
theorem shape_right {o:OpD} {p x:List (List Int)} {s:List Int} (h:o.shape p x=some s):shB s=true:=by
  obtain ⟨g1,g2,g3⟩:=shape_guards h
  obtain ⟨c1,c2,c3⟩:=counts_zero g1
  have c4:=least_one c1
  have hx:0 < x.length:=by omega
  have hx0:=getD_all g3 hx
  unfold OpD.shape at h
  rw [if_neg (by simp [g1]),g2,if_neg (by simp),g3,if_neg (by simp)] at h
  split at h
  · unfold denseB at h
    split at h
    · rename_i h2
      cases h
      have h3:shB (p.getD 0 [])=true:=by
        rcases Nat.eq_zero_or_pos p.length with e | e
        · have:p=[]:=List.eq_nil_of_length_eq_zero e
          rw [this] at h2;simp at h2
        · exact getD_all g2 e
      have h4:=shB_side h3 (i:=0) (by omega)
      refine shB_mk (by simp) ?_ (by simp only [prd,Int.mul_one];omega)
      simp only [sidesB,List.all_cons,List.all_nil,Bool.and_true,Bool.and_eq_true,decide_eq_true_eq]
      exact h4
    · cases h
  split at h
  · have h2:=same_right h (x.getD 0 []) (by simp)
    rw [← h2];exact hx0
  split at h
  · unfold convB at h
    split at h
    · split at h
      · cases h
      · split at h
        · rename_i h2;cases h;exact h2
        · cases h
    · cases h
  split at h
  · unfold poolB at h
    rw [if_pos hx0] at h
    have hl:=shB_len hx0
    cases h2:windowB ((x.getD 0 []).getD ((x.getD 0 []).length - 1) 0) o.width o.step with
    | none=>rw [h2] at h;cases h
    | some y=>
      rw [h2] at h
      cases h
      have h3:=window_le h2
      exact shB_set hx0 (by omega) h3.1 h3.2.1
  split at h
  · match x,hx,g3 with
    | a :: T,_,g3=>
      have ha:shB a=true:=by simpa using getD_all g3 (i:=0) (by simp)
      rw [joinedL] at h
      split at h
      · unfold joinedB at h
        split at h
        · cases h
        · cases h;exact ha
      · exact joins_right ha h
  split at h
  · unfold cutB at h
    split at h
    · rename_i h2
      cases h
      exact shB_set hx0 (by omega) (by omega) (by omega)
    · cases h
  split at h
  · unfold turnedB at h
    split at h
    · rename_i h2;cases h;exact h2.2.1
    · cases h
  · have h2:=same_right h (x.getD 0 []) (by
      rw [List.getD_eq_getElem?_getD,List.getElem?_eq_getElem hx]
      exact List.getElem_mem hx)
    rw [← h2];exact hx0
def OpD.cost (o:OpD) (p x:List (List Int)):Option Int:=
  match o.shape p x with
  | none=>none
  | some s=>some (if o.kind=8 then prd (p.getD 0 []) else if o.kind=10 then prd s * (prd (p.getD 0 []) / (p.getD 0 []).getD 0 0) else if o.kind=11∨o.kind=12 then prd s * o.width else prd s)
theorem pool_width {o:OpD} {p x:List (List Int)} {s:List Int} (h:o.shape p x=some s) (hk:o.kind=11∨o.kind=12):1≤o.width∧o.width≤1024:=by
  obtain ⟨g1,g2,g3⟩:=shape_guards h
  unfold OpD.shape at h
  rw [if_neg (by simp [g1]),g2,if_neg (by simp),g3,if_neg (by simp),if_neg (by omega),if_neg (by omega),if_neg (by omega),if_pos hk] at h
  unfold poolB at h
  split at h
  · cases h2:windowB ((x.getD 0 []).getD ((x.getD 0 []).length - 1) 0) o.width o.step with
    | none=>rw [h2] at h;cases h
    | some y=>exact ⟨(window_le h2).2.2.1,(window_le h2).2.2.2⟩
  · cases h
theorem one_param {o:OpD} {p x:List (List Int)} {s:List Int} (h:o.shape p x=some s) (hk:o.kind=8∨o.kind=10):shB (p.getD 0 [])=true:=by
  obtain ⟨g1,g2,g3⟩:=shape_guards h
  obtain ⟨c1,c2,c3⟩:=counts_zero g1
  have:0 < p.length:=by
    unfold OpD.params at c3
    rw [if_pos c1] at c3
    rcases hk with e | e
    · rw [if_pos e] at c3;omega
    · rw [if_neg (by omega),if_pos (by omega)] at c3;omega
  exact getD_all g2 this
theorem prd_div {l:List Int} (h:shB l=true):1≤prd l / l.getD 0 0∧prd l / l.getD 0 0≤65536:=by
  obtain ⟨k1,k2,k3⟩:=shB_parts h
  match l,k1 with
  | a :: t,_=>
    have h1:=sides_mem k2 a (.head _)
    have h2:1≤prd t:=prd_pos fun k hk=>(sides_mem k2 k (.tail _ hk)).1
    have h3:prd (a :: t) / (a :: t).getD 0 0=prd t:=by
      show a * prd t / a=prd t
      exact Int.mul_ediv_cancel_left _ (by omega)
    have h4:prd (a :: t)=a * prd t:=rfl
    have h5:1 * prd t≤a * prd t:=Int.mul_le_mul_of_nonneg_right h1.1 (by omega)
    rw [h3]
    omega
theorem cost_bound {o:OpD} {p x:List (List Int)} {k:Int} (h:o.cost p x=some k):0≤k∧k≤4294967296:=by
  unfold OpD.cost at h
  cases h1:o.shape p x with
  | none=>rw [h1] at h;cases h
  | some s=>
    rw [h1] at h
    have hs:=shB_prd (shape_right h1)
    simp only [Option.some.injEq] at h
    subst h
    split
    · rename_i e
      have:=shB_prd (one_param h1 (.inl e))
      omega
    split
    · rename_i e
      have h2:=prd_div (one_param h1 (.inr e))
      have h3:prd s * (prd (p.getD 0 []) / (p.getD 0 []).getD 0 0)≤65536 * 65536:=Int.mul_le_mul hs.2 h2.2 (by omega) (by omega)
      have h4:0≤prd s * (prd (p.getD 0 []) / (p.getD 0 []).getD 0 0):=Int.mul_nonneg (by omega) (by omega)
      omega
    split
    · rename_i e
      have h2:=pool_width h1 e
      have h3:prd s * o.width≤65536 * 1024:=Int.mul_le_mul hs.2 h2.2 (by omega) (by omega)
      have h4:0≤prd s * o.width:=Int.mul_nonneg (by omega) (by omega)
      omega
    · omega
end Go.Proofs.YtnpdcjdmbkcpbaaGreat.Ins
namespace Go.Proofs.YtnpdcjdmbkcpbaaGreat.Ins
open Go.RowKit
theorem plan_runs2 {ws cs:List Nat} {cap M p g1 c1 g2 c2 mb s':Nat} {code:List (Nat × Nat)} (hf:Fine ws cs cap) (hM:M≤cap) (h:Wr (par p g1 c1 g2 c2 mb M ws cs) 0 cs.length M 0 s' code) (hv:vl (par0 M ws cs) 0 cs.length M < nn) :
    ∃ σ,Runs ws cs cs.length cap (ws0 cs.length) code σ∧σ.cost=vl (par0 M ws cs) 0 cs.length M∧σ.peak≤M∧σ.last=0∧σ.em=true:=by
  have hG:=good_par (p:=p) (g1:=g1) (c1:=c1) (g2:=g2) (c2:=c2) (mb:=mb) hf hM
  have hn:=hf.n2
  have hv2:=vl_par (p:=p) (g1:=g1) (c1:=c1) (g2:=g2) (c2:=c2) (mb:=mb) (cap:=M) (ws:=ws) (cs:=cs) 0 cs.length M
  have hi:PIn (par p g1 c1 g2 c2 mb M ws cs) 0 cs.length 0 0 (ws0 cs.length):=by
    refine ⟨rfl,fun id h1 h2=>?_,fun id h1=>?_,Nat.le_refl _,fun h=>absurd h (Nat.lt_irrefl _),rfl,?_,fun id=>?_,?_,?_⟩
    · show on (fun _=>false) 0 true id=false
      rw [on_ne _ _ (by omega)]
    · show false=_
      exact (decide_eq_false (by omega)).symm
    · show 0=0 + (if cs.length=cs.length then 0 else _)
      rw [if_pos rfl]
    · show false=decide (id=cs.length∧cs.length≠cs.length)
      exact (decide_eq_false (by omega)).symm
    · show false=decide (cs.length≠cs.length)
      exact (decide_eq_false (by omega)).symm
    · show false=decide (cs.length≠cs.length)
      exact (decide_eq_false (by omega)).symm
  obtain ⟨σ,r1,r2⟩:=part_law hG (rec_full _) (cap:=cap) h (B:=0) (σ:=ws0 cs.length) (by omega) (Nat.le_refl _) (by show M < M + 1 - 0;omega) (by rw [hv2];exact hv) hi (by omega)
  refine ⟨σ,r1,?_,?_,r2.last,r2.em⟩
  · rw [r2.cost,hv2];show 0 + _=_;omega
  · have:=r2.peak
    have h0:(ws0 cs.length).peak=0:=rfl
    omega
theorem ws0_zero (n:Nat):ws0 n=WS.zero n:=by
  have h:on (fun _=>false) 0 true=fun q=>decide (q=0):=by
    funext q
    unfold on
    by_cases h:q=0
    · simp [h]
    · simp [h]
  unfold ws0 WS.zero
  rw [h]
theorem cds_two:∀ l:List (Nat × Nat),(cds l).length=l.length * 2
  | []=>rfl
  | (k,p) :: l=>by rw [cds,List.length_cons,List.length_cons,cds_two l,List.length_cons];omega
structure PlanD (ws cs:List Nat) (n cap M:Nat) (code:List (Nat × Nat)):Prop where
  run:∃ σ,wrun ws cs n cap (WS.zero n) code=some σ∧σ.last=0∧σ.em=true∧σ.peak≤cap
  cost:kcost cs code=vl (par0 M ws cs) 0 n M
  right:∀ k p,(k,p)∈code→wright n k p
  len:0 < code.length∧code.length≤65536
theorem planD_of {ws cs:List Nat} {cap M p g1 c1 g2 c2 mb s':Nat} {code:List (Nat × Nat)} (hf:Fine ws cs cap) (hM:M≤cap) (hv:vl (par0 M ws cs) 0 cs.length M < nn)
    (h:Wr (par p g1 c1 g2 c2 mb M ws cs) 0 cs.length M 0 s' code) (hl:code.length≤8 * (cs.length * cs.length)):PlanD ws cs cs.length cap M code:=by
  obtain ⟨σ,r1,r2,r3,r4,r5⟩:=plan_runs2 hf hM h hv
  have h9:=r1.right
  have hn:=hf.n2
  rw [ws0_zero] at r1
  have h8:=wrun_facts _ _ _ (WI.zero ws hn.1) r1.run
  refine ⟨⟨σ,r1.run,r4,r5,by omega⟩,?_,h9,h.pos,?_⟩
  · have:=h8.2.2.1
    rw [r2] at this
    rw [this];simp [WS.zero]
  · have:=Nat.mul_le_mul hn.2 hn.2;omega
def ChR (o:Nat→Nat) (ws cs:List Nat) (cap:Nat) (w:World) (e:Ending) (w':World):Prop:=
  (nn≤vl (par0 (min cap (wsum ws cs.length)) ws cs) 0 cs.length (min cap (wsum ws cs.length))∧e = .returned (.tuple #[.slice none 0 0,.int .i64 26])) ∨
  (vl (par0 (min cap (wsum ws cs.length)) ws cs) 0 cs.length (min cap (wsum ws cs.length)) < nn∧∃ g c code,e = .returned (.tuple #[.slice (some ⟨g,0,none⟩) code.length c,.int .i64 0])∧PlanD ws cs cs.length cap (min cap (wsum ws cs.length)) code∧Row 63 2 g code.length c (cds (rawc o code)) w'∧w.heap.size≤g)
theorem rawc_step {o:Nat→Nat} {code:List (Nat × Nat)} {m k p:Nat} (h:code[m]?=some (k,p)) :
    (cds (rawc o (code.take m) ++ code.drop m)).set (m * 2 + 1) (.int .i64 (o p:Nat))=cds (rawc o (code.take (m + 1)) ++ code.drop (m + 1)):=by
  have hm:=(List.getElem?_eq_some_iff.1 h).1
  have e1:code.drop m=(k,p) :: code.drop (m + 1):=by
    rw [List.drop_eq_getElem_cons hm,(List.getElem?_eq_some_iff.1 h).2]
  have e2:rawc o (code.take (m + 1))=rawc o (code.take m) ++ [(k,o p)]:=by
    rw [take_at h,rawc_append];rfl
  have hl:(cds (rawc o (code.take m))).length=m * 2:=by
    rw [cds_two,rawc_length,List.length_take,Nat.min_eq_left (by omega)]
  rw [e1,e2,cds_append,cds_append,cds_append,List.append_assoc,List.set_append,if_neg (by omega),hl,show m * 2 + 1 - m * 2=1 by omega]
  rfl
theorem rawc_same {o:Nat→Nat} {code:List (Nat × Nat)} {m k p:Nat} (h:code[m]?=some (k,p)) (hp:o p=p):rawc o (code.take m) ++ code.drop m=rawc o (code.take (m + 1)) ++ code.drop (m + 1):=by
  have hm:=(List.getElem?_eq_some_iff.1 h).1
  have e1:code.drop m=(k,p) :: code.drop (m + 1):=by
    rw [List.drop_eq_getElem_cons hm,(List.getElem?_eq_some_iff.1 h).2]
  have e2:rawc o (code.take (m + 1))=rawc o (code.take m) ++ [(k,o p)]:=by
    rw [take_at h,rawc_append];rfl
  rw [e1,e2,hp,List.append_assoc];rfl
theorem rawc_cell {o:Nat→Nat} {code:List (Nat × Nat)} {m k p:Nat} (h:code[m]?=some (k,p)):(cds (rawc o (code.take m) ++ code.drop m))[m * 2 + 1]?=some (.int .i64 (p:Int)):=by
  have hm:=(List.getElem?_eq_some_iff.1 h).1
  have hl:(rawc o (code.take m)).length=m:=by rw [rawc_length,List.length_take,Nat.min_eq_left (by omega)]
  have h1:(rawc o (code.take m) ++ code.drop m)[m]?=some (k,p):=by
    rw [List.getElem?_append_right (by omega),hl,Nat.sub_self,List.getElem?_drop,Nat.add_zero,h]
  obtain ⟨k',p',h2,h3,h4⟩:=cds_at (rawc o (code.take m) ++ code.drop m) m (List.getElem?_eq_some_iff.1 h1).1
  rw [h1] at h2
  simp only [Option.some.injEq,Prod.mk.injEq] at h2
  rw [h4,← h2.2]
section
variable {D:NetD} {o π:Nat→Nat} {w:World}
set_option maxRecDepth 100000 in
set_option maxHeartbeats 4000000 in
theorem chained_any {ws cs:List Nat} {cap:Nat} (hc:Chn D o π) (hO:OrdC D o) (hCh:ChnC D) (hPr:PriC D o ws cs) (hlw:ws.length=D.n + 1) (hlc:cs.length=D.n) (hr:D.R w) (hf:Fine ws cs cap) (hcap:cap≤4096) :
    Calls Tryz.prog 74 #[D.val,.int .i64 cap] w fun e w'=>ChR o ws cs cap w e w'∧Oth [] w w':=by
  have hn:=hc.n1
  have hpm:=Lib.hid hc.pm
  obtain ⟨gN,oN,hb,hnd⟩:=hc.nodes hr
  have hval:D.val = .agg #[.slice D.i.b D.i.n D.i.c,.slice (some ⟨gN,oN,none⟩) D.n D.c]:=by unfold NetD.val;rw [hb];rfl
  have NO:Hid (∀ w',Oth [] w w'→Calls Tryz.prog 40 #[D.val] w' fun e w2=>∃ g,e = .returned (.tuple #[.slice (some ⟨g,0,none⟩) D.n D.n,.int .i64 0])∧Oth [] w' w2∧w'.heap.size≤g∧g < w2.heap.size∧∀ p,p < D.n→w2.cell? ⟨g,p,none⟩=some (.int .i64 (o (p + 1):Nat))):=fun w' ho=>hO w' (hr.oth ho)
  have NC:Hid (∀ w',Oth [] w w'→Calls Tryz.prog 124 #[D.val] w' fun e w2=>∃ g1 c1 g2 c2,e = .returned (.tuple #[.slice (some ⟨g1,0,none⟩) (D.n + 1) c1,.slice (some ⟨g2,0,none⟩) D.n c2,.int .i64 0])∧Row 3 1 g1 (D.n + 1) c1 (iv ws) w2∧Row 3 1 g2 D.n c2 (iv cs) w2∧Oth [] w' w2):=fun w' ho=>pchain_any hc hO hCh hPr hlw hlc (hr.oth ho)
  rw [hval] at NO NC ⊢
  have HBX:Hid (∀ w',Oth [] (w.alloc (.cells #[.slice D.i.b D.i.n D.i.c,.slice (some ⟨gN,oN,none⟩) D.n D.c] 26)) w'→Oth [] w w'∧w'.cell? ⟨w.heap.size,0,none⟩=some (.slice D.i.b D.i.n D.i.c)∧w'.cell? ⟨w.heap.size,1,none⟩=some (.slice (some ⟨gN,oN,none⟩) D.n D.c)):=fun w' ho=>net_box ho
  have HLC:=Lib.hid hlc
  by_cases hv:nn≤vl (par0 (min cap (wsum ws cs.length)) ws cs) 0 cs.length (min cap (wsum ws cs.length))
  · have NP:Hid (∀ w' g1 c1 g2 c2,Row 3 1 g1 (D.n + 1) c1 (iv ws) w'→Row 3 1 g2 D.n c2 (iv cs) w'→Calls Tryz.prog 12 #[.agg #[.slice (some ⟨g1,0,none⟩) (D.n + 1) c1,.slice (some ⟨g2,0,none⟩) D.n c2],.int .i64 cap] w' fun e w2=>e = .returned (.tuple #[.slice none 0 0,.int .i64 26])∧Oth [] w' w2):=fun w' g1 c1 g2 c2 h1 h2=>by
      have h9:=plan_none (w:=w') (g1:=g1) (c1:=c1) (g2:=g2) (c2':=c2) rfl hf hcap (by rw [hlw];exact h1.cap_le.1) h1.cap_le.2 (ints_row h1) (ints_row h2) hv
      rw [hlw,hlc] at h9;exact h9
    have HV:=Lib.hid hv
    clear hr hnd hb hval hO hPr hCh hc hlw hlc hf hv
    go_enter Tryz.func74,Tryz.ntmps74
    go_wp2_with (first
      | (go_at_call 124;(with_reducible refine (NC.out _ ((Oth.refl [] w).alloc _)).mono ?_);rintro e w1 ⟨g1,c1,g2,c2,rfl,r1,r2,ho1⟩;obtain ⟨p0,p1,p2⟩:=HBX.out _ ho1;replace ho1:=Lib.hid ho1;replace p0:=Lib.hid p0;replace r1:=Lib.hid r1;replace r2:=Lib.hid r2)
      | (go_at_call 12;(with_reducible refine (NP.out _ _ _ _ _ r1.out r2.out).mono ?_);rintro e w2 ⟨rfl,ho2⟩;replace ho2:=Lib.hid ho2))
    go_ret2
    exact ⟨.inl ⟨HV.out,rfl⟩,p0.out.trans ho2.out (Fr.nil _ _)⟩
  · have hv2:vl (par0 (min cap (wsum ws cs.length)) ws cs) 0 cs.length (min cap (wsum ws cs.length)) < nn:=by omega
    have NP:Hid (∀ w' g1 c1 g2 c2,Row 3 1 g1 (D.n + 1) c1 (iv ws) w'→Row 3 1 g2 D.n c2 (iv cs) w'→Calls Tryz.prog 12 #[.agg #[.slice (some ⟨g1,0,none⟩) (D.n + 1) c1,.slice (some ⟨g2,0,none⟩) D.n c2],.int .i64 cap] w' fun e w2=>∃ g c code,e = .returned (.tuple #[.slice (some ⟨g,0,none⟩) (List.length code) c,.int .i64 0])∧PlanD ws cs cs.length cap (min cap (wsum ws cs.length)) code∧Row 63 2 g code.length c (cds code) w2∧Oth [] w' w2∧w'.heap.size≤g):=fun w' g1 c1 g2 c2 h1 h2=>by
      have h9:=plan_any (w:=w') (g1:=g1) (c1:=c1) (g2:=g2) (c2':=c2) rfl hf hcap (by rw [hlw];exact h1.cap_le.1) h1.cap_le.2 (ints_row h1) (ints_row h2) hv2
      rw [hlw,show #[Value.agg #[.slice (some ⟨g1,0,none⟩) (D.n + 1) c1,.slice (some ⟨g2,0,none⟩) cs.length c2],.int .i64 cap] = #[.agg #[.slice (some ⟨g1,0,none⟩) (D.n + 1) c1,.slice (some ⟨g2,0,none⟩) D.n c2],.int .i64 cap] by rw [hlc]] at h9
      refine h9.mono ?_
      rintro e w2 ⟨g,c,s',code,rfl,⟨p,a1,a2,a3,a4,a5,hw⟩,k2,k3,k4,k5⟩
      exact ⟨g,c,code,rfl,planD_of hf (by omega) hv2 hw k2,k3,k4,k5⟩
    have HV:=Lib.hid hv2
    clear hr hnd hb hval hO hPr hCh hc hlw hlc hf hv hv2
    go_enter Tryz.func74,Tryz.ntmps74
    go_wp2_with (first
      | (go_at_call 124;(with_reducible refine (NC.out _ ((Oth.refl [] w).alloc _)).mono ?_);rintro e w1 ⟨g1,c1,g2,c2,rfl,r1,r2,ho1⟩;obtain ⟨p0,p1,p2⟩:=HBX.out _ ho1;replace ho1:=Lib.hid ho1;replace p0:=Lib.hid p0;replace r1:=Lib.hid r1;replace r2:=Lib.hid r2)
      | (go_at_call 12;(with_reducible refine (NP.out _ _ _ _ _ r1.out r2.out).mono ?_);rintro e w2 ⟨g,c,code,rfl,hPD,hrow,ho2,hgw⟩;replace hgw:=Lib.hid hgw;have p3:=ho2.cell p1 (by simp);have p4:=ho2.cell p2 (by simp);have l2:=World.block_lt_of_cell? _ _ p3;replace ho2:=Lib.hid ho2;replace hPD:=Lib.hid hPD;replace hrow:=Lib.hid hrow)
      | (go_at_call 40;(with_reducible refine (NO.out _ (p0.out.trans ho2.out (Fr.nil _ _))).mono ?_);rintro e w3 ⟨gO,rfl,ho3,hg1,hg2,hgo⟩;replace hgo:=Lib.hid hgo;replace ho3:=Lib.hid ho3))
    have HO3:Hid (Oth [] w w3):=(p0.out.trans ho2.out (Fr.nil _ _)).trans ho3.out (Fr.nil _ _)
    have HROW:Hid (Row 63 2 g code.length c (cds (rawc o (code.take 0) ++ code.drop 0)) w3):=hrow.out.oth ho3.out (by simp)
    have hgo2:g≠gO:=by have:=hrow.out.lt;omega
    have hgw2:w.heap.size≤g:=by have:=hgw.out;have:=p0.out.size;omega
    clear p0 ho2 ho3 hrow r1 r2 NC NP NO HBX p3 p4 l2 p1 p2 ho1 hgw
    obtain ⟨len,hlen⟩:∃ len,len=code.length:=⟨_,rfl⟩
    have hlb:=hPD.out.len
    rw [← hlen] at hlb HROW ⊢
    replace hlen:=Lib.hid hlen
    go_loopw [43] (fun x wr=>∃ m:Nat,m≤len∧x = .int .i64 m∧Row 63 2 g len c (cds (rawc o (code.take m) ++ code.drop m)) wr∧Oth [g] w3 wr) (fun x _=>len - (intOf x).toNat)
    case atStart=>exact ⟨0,by omega,rfl,HROW.out,Oth.refl _ _⟩
    case round=>
      obtain ⟨m,hm,rfl,hrow,ho⟩:=hrel
      by_cases hlt:m < len
      · have t1:(m:Int) < len:=by omega
        obtain ⟨⟨k,p⟩,hx⟩:∃ x,code[m]?=some x:=⟨_,List.getElem?_eq_getElem (by rw [← hlen.out];exact hlt)⟩
        have hrt:=hPD.out.right k p (List.mem_of_getElem? hx)
        have c1':=hrow.cell (rawc_cell (o:=o) hx)
        have c2':=hrow.lt
        have c3':=hrow.free (m * 2 + 1)
        have e4:IntKind.i64.wrap ((m:Int) + 1)=(m:Int) + 1:=IntWalk.i64_in _ (by omega)
        have hpn:p≤D.n:=by rcases hrt with ⟨_,h⟩ | ⟨_,_,h⟩ <;> have:=HLC.out <;> omega
        by_cases hp:0 < p
        · obtain ⟨j,rfl⟩:∃ j,p=j + 1:=⟨p - 1,by omega⟩
          have HS:=Lib.hid (rawc_step (o:=o) hx)
          have q1:=ho.cell (hgo.out j (by omega)) (by simp;exact fun e=>hgo2 e.symm)
          have q2:=World.block_lt_of_cell? _ _ q1
          have e2:IntKind.i64.wrap (j:Int)=(j:Int):=IntWalk.i64_in _ (by omega)
          have e3:(j:Int) + 1 - 1=(j:Int):=by omega
          have t2:(j:Int) < (D.n:Int):=by omega
          have t3:((j:Int) + 1 > 0)=True:=by apply eq_true;omega
          have t4:(0:Int) < (j:Int) + 1:=by omega
          rw [Int.natCast_add,Int.natCast_one] at c1'
          have HK:=Lib.hid (And.intro hrow ho)
          clear hrow ho hx hrt
          generalize o (j + 1)=id at q1 HS
          go_wp2_with fail
          go_roundw
          case rel=>exact ⟨m + 1,by omega,by go_num,by rw [← HS.out];exact HK.out.1.set _ _,HK.out.2.setCell (.inl (by simp)) _⟩
          case measure=>simp [intOf];omega
        · obtain rfl:p=0:=by omega
          have HS:=Lib.hid (rawc_same (o:=o) hx hpm.out.o0)
          have HK:=Lib.hid (And.intro hrow ho)
          clear hrow ho hx hrt
          go_wp2_with fail
          go_roundw
          case rel=>exact ⟨m + 1,by omega,by go_num,by rw [← HS.out];exact HK.out.1,HK.out.2⟩
          case measure=>simp [intOf];omega
      · obtain rfl:m=len:=by omega
        have t1:¬ (m:Int) < m:=by omega
        rw [hlen.out,List.take_length,List.drop_length,List.append_nil] at hrow
        have HF:=Lib.hid (And.intro hrow ho)
        clear hrow ho
        go_wp2_with fail
        go_ret2
        refine ⟨.inr ⟨HV.out,g,c,code,by rw [← hlen.out];rfl,hPD.out,HF.out.1,hgw2⟩,HO3.out.trans HF.out.2 (fun k hk=>.inr (by simp at hk;omega))⟩
end
end Go.Proofs.YtnpdcjdmbkcpbaaGreat.Ins
