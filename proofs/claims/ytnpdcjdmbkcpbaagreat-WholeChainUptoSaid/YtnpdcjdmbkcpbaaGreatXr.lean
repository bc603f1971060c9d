/- The walks of Chain, Order, Loss, Shapes, Check over what look tells. The walks of price's sizes and of Op.Cost. The walk of price.Of at a chain. A region that draws its order, loads what it stores to at its end, and appends: the moves of its walk. An evaluator for a run whose slices may have room that is not known: the definitions, printed by a program of mine (mkev.py). No condition. -/
import Derived.Test.YtnpdcjdmbkcpbaaGreatXq
import Derived.Test.YtnpdcjdmbkcpbaaGreatXp
import Derived.Test.YtnpdcjdmbkcpbaaGreatXe
import Derived.OrdersHeld
import Derived.Deep.RegionHeld3
import Derived.Maps.AppendAt
import Derived.Calls
set_option linter.unusedVariables false
set_option linter.unusedSimpArgs false
namespace Go.Proofs.YtnpdcjdmbkcpbaaGreat.Ins
open Go.RowKit
theorem LookR.bad {D:NetD} {w w':World} {e:Ending} (h:LookR D w e w') (hl:D.look=none):LookE e:=by
  unfold LookR at h;rw [hl] at h;exact h
theorem LookR.good {D:NetD} {w w':World} {e:Ending} {O:List Int} {f:Nat→List Int} {l:Nat} (h:LookR D w e w') (hl:D.look=some (O,f,l)) :
    ∃ g1 g2,e = .returned (.tuple #[.agg #[.slice (some ⟨g1,0,none⟩) D.n D.n,.slice (some ⟨g2,0,none⟩) (D.n + 1) (D.n + 1),.int .i64 (l:Nat)],.int .i64 0])∧Row 3 1 g1 D.n D.n (ivl O) w'∧ShpR g2 (D.n + 1) f w'∧w.heap.size≤g1∧w.heap.size≤g2:=by
  unfold LookR at h;rw [hl] at h;exact h
structure NetS (D:NetD):Prop where
  n:D.n≤64
  i:D.i.l.length≤300
  d:∀ d∈D.L,d.ins.length≤300
theorem chainB_stop {D:NetD} {O:List Int}:∀ {m n:Nat},chainB D O m=false→m≤n→chainB D O n=false
  | m, 0, h, hm => by obtain rfl:m=0:=by omega
                      exact h
  | m,n + 1,h,hm=>by
    by_cases e:m=n + 1
    · subst e;exact h
    · rw [chainB,chainB_stop h (by omega),Bool.false_and]
theorem bef_succ (O:List Int) (m:Nat):bef O (m + 1)=O.getD m 0:=by rw [bef,if_neg (by omega),Nat.add_sub_cancel]
section
variable {D:NetD} {w:World}
theorem look_at1 (hs:NetS D) (hr:D.R w) {O:List Int} {f:Nat→List Int} {l:Nat} (hl:D.look=some (O,f,l)):Hid (∀ w',Oth [] w w'→Calls Tryz.prog 21 #[.agg #[.slice D.i.b D.i.n D.i.c,.slice D.b D.n D.c]] w' fun e w2=>(∃ g1 g2,e = .returned (.tuple #[.agg #[.slice (some ⟨g1,0,none⟩) D.n D.n,.slice (some ⟨g2,0,none⟩) (D.n + 1) (D.n + 1),.int .i64 (l:Nat)],.int .i64 0])∧Row 3 1 g1 D.n D.n (ivl O) w2∧ShpR g2 (D.n + 1) f w2∧w'.heap.size≤g1∧w'.heap.size≤g2)∧Oth [] w' w2):=
  fun w' ho=>(look_any (hr.oth ho) hs.n hs.i hs.d).mono fun e w2 h=>⟨h.1.good hl,h.2⟩
theorem look_at0 (hs:NetS D) (hr:D.R w) (hl:D.look=none):Hid (∀ w',Oth [] w w'→Calls Tryz.prog 21 #[.agg #[.slice D.i.b D.i.n D.i.c,.slice D.b D.n D.c]] w' fun e w2=>LookE e∧Oth [] w' w2):=
  fun w' ho=>(look_any (hr.oth ho) hs.n hs.i hs.d).mono fun e w2 h=>⟨h.1.bad hl,h.2⟩
theorem net_box' {x y:Value} {w':World} (ho:Oth [] (w.alloc (.cells #[x,y] 26)) w'):Oth [] w w'∧w'.cell? ⟨w.heap.size,0,none⟩=some x∧w'.cell? ⟨w.heap.size,1,none⟩=some y∧w.heap.size < w'.heap.size:=by
  have h:=net_box ho
  exact ⟨h.1,h.2.1,h.2.2,World.block_lt_of_cell? _ _ h.2.1⟩
set_option maxRecDepth 100000 in
set_option maxHeartbeats 4000000 in
theorem order_at (hs:NetS D) (hr:D.R w) {O:List Int} {f:Nat→List Int} {l:Nat} (hl:D.look=some (O,f,l)) :
    Calls Tryz.prog 40 #[D.val] w fun e w'=>(∃ g,e = .returned (.tuple #[.slice (some ⟨g,0,none⟩) D.n D.n,.int .i64 0])∧Row 3 1 g D.n D.n (ivl O) w'∧w.heap.size≤g)∧Oth [] w w':=by
  have NL:=look_at1 hs hr hl
  have HR:=Lib.hid hr
  unfold NetD.val Sh.val
  clear hr hs hl
  go_enter Tryz.func40,Tryz.ntmps40
  go_wp2_with (go_at_call 21;(with_reducible refine (NL.out _ ((Oth.refl [] w).alloc _)).mono ?_);rintro e w1 ⟨⟨g1,g2,rfl,k1,k2,hg1,hg2⟩,ho1⟩;replace k1:=Lib.hid k1;replace k2:=Lib.hid k2;replace ho1:=Lib.hid ho1)
  go_ret2
  rw [World.size_alloc] at hg1
  exact ⟨⟨g1,rfl,k1.out.oth ((Oth.refl [] _).alloc _) (by simp),by omega⟩,(((Oth.refl _ _).alloc _).trans ho1.out (Fr.nil _ _)).alloc _⟩
set_option maxRecDepth 100000 in
set_option maxHeartbeats 4000000 in
theorem loss_at (hs:NetS D) (hr:D.R w) {O:List Int} {f:Nat→List Int} {l:Nat} (hl:D.look=some (O,f,l)) :
    Calls Tryz.prog 41 #[D.val] w fun e w'=>e = .returned (.tuple #[.int .i64 (l:Nat),.int .i64 0])∧Oth [] w w':=by
  have NL:=look_at1 hs hr hl
  unfold NetD.val Sh.val
  clear hr hs hl
  go_enter Tryz.func41,Tryz.ntmps41
  go_wp2_with (go_at_call 21;(with_reducible refine (NL.out _ ((Oth.refl [] w).alloc _)).mono ?_);rintro e w1 ⟨⟨g1,g2,rfl,k1,k2,hg1,hg2⟩,ho1⟩;replace k1:=Lib.hid k1;replace k2:=Lib.hid k2;replace ho1:=Lib.hid ho1)
  go_ret2
  exact ⟨rfl,(((Oth.refl _ _).alloc _).trans ho1.out (Fr.nil _ _)).alloc _⟩
set_option maxRecDepth 100000 in
set_option maxHeartbeats 4000000 in
theorem shapes_at (hs:NetS D) (hr:D.R w) {O:List Int} {f:Nat→List Int} {l:Nat} (hl:D.look=some (O,f,l)) :
    Calls Tryz.prog 93 #[D.val] w fun e w'=>(∃ g,e = .returned (.tuple #[.slice (some ⟨g,0,none⟩) (D.n + 1) (D.n + 1),.int .i64 0])∧ShpR g (D.n + 1) f w'∧w.heap.size≤g)∧Oth [] w w':=by
  have NL:=look_at1 hs hr hl
  unfold NetD.val Sh.val
  clear hr hs hl
  go_enter Tryz.func93,Tryz.ntmps93
  go_wp2_with (go_at_call 21;(with_reducible refine (NL.out _ ((Oth.refl [] w).alloc _)).mono ?_);rintro e w1 ⟨⟨g1,g2,rfl,k1,k2,hg1,hg2⟩,ho1⟩;replace k1:=Lib.hid k1;replace k2:=Lib.hid k2;replace ho1:=Lib.hid ho1)
  go_ret2
  rw [World.size_alloc] at hg2
  exact ⟨⟨g2,rfl,k2.out.oth ((Oth.refl _ _).alloc _),by omega⟩,(((Oth.refl _ _).alloc _).trans ho1.out (Fr.nil _ _)).alloc _⟩
set_option maxRecDepth 100000 in
set_option maxHeartbeats 4000000 in
theorem check_at (hs:NetS D) (hr:D.R w) {O:List Int} {f:Nat→List Int} {l:Nat} (hl:D.look=some (O,f,l)) :
    Calls Tryz.prog 27 #[D.val] w fun e w'=>e = .returned (.int .i64 0)∧Oth [] w w':=by
  have NL:=look_at1 hs hr hl
  unfold NetD.val Sh.val
  clear hr hs hl
  go_enter Tryz.func27,Tryz.ntmps27
  go_wp2_with (go_at_call 21;(with_reducible refine (NL.out _ ((Oth.refl [] w).alloc _)).mono ?_);rintro e w1 ⟨⟨g1,g2,rfl,k1,k2,hg1,hg2⟩,ho1⟩;replace k1:=Lib.hid k1;replace k2:=Lib.hid k2;replace ho1:=Lib.hid ho1)
  go_ret
  exact ⟨rfl,(((Oth.refl _ _).alloc _).trans ho1.out (Fr.nil _ _)).alloc _⟩
set_option maxRecDepth 100000 in
set_option maxHeartbeats 8000000 in
theorem chain_any (hs:NetS D) (hr:D.R w):Calls Tryz.prog 7 #[D.val] w fun e w'=>e = .returned (.bool D.chain)∧Oth [] w w':=by
  cases hl:D.look with
  | none=>
    have NL:=look_at0 hs hr hl
    have hc:D.chain=false:=by unfold NetD.chain;rw [hl]
    rw [hc]
    unfold NetD.val Sh.val
    clear hr hs hl hc
    go_enter Tryz.func7,Tryz.ntmps7
    go_wp2_with fail
    go_at_call 21
    (with_reducible refine (NL.out _ ((Oth.refl [] w).alloc _)).mono ?_)
    rintro e w1 ⟨⟨k,hk,rfl⟩,ho1⟩
    have hx':(k != 0)=true:=by simp [hk]
    replace ho1:=Lib.hid ho1
    go_wp2_with fail
    go_ret
    exact ⟨rfl,(((Oth.refl _ _).alloc _).trans ho1.out (Fr.nil _ _)).alloc _⟩
  | some x=>
    obtain ⟨O,f,l⟩:=x
    have NL:=look_at1 hs hr hl
    obtain ⟨q1,q2,q3,q4,q5,q6,q7,q8⟩:=look_parts hl
    have hm:∀ x∈O,1≤x∧x≤(D.n:Int):=by
      rw [q4]
      refine sortF_mem (b:=300) (fun l hl=>?_) (by have:=hs.n;omega)
      obtain ⟨d,hd,rfl⟩:=List.mem_map.1 hl
      exact hs.d d hd
    have hch:D.chain=chainB D O D.n:=by unfold NetD.chain;rw [hl]
    obtain ⟨gN,oN,hb,hnd⟩:=hr.base q1.1
    have HND:Hid (∀ w',Oth [] w w'→∀ k d,D.L[k]?=some d→w'.cell? ⟨gN,oN + k * 10 + 8,none⟩=some (.slice d.bi d.ni d.ci)∧d.R w'):=fun w' ho k d hk=>⟨ho.cell ((hnd k d hk).1 8 _ rfl) (by simp),(hnd k d hk).2.oth ho⟩
    have HLEN:=Lib.hid hr.len
    have HS:=Lib.hid hs
    have HBX:Hid (∀ w',Oth [] (w.alloc (.cells #[.slice D.i.b D.i.n D.i.c,.slice (some ⟨gN,oN,none⟩) D.n D.c] 26)) w'→Oth [] w w'∧w'.cell? ⟨w.heap.size,0,none⟩=some (.slice D.i.b D.i.n D.i.c)∧w'.cell? ⟨w.heap.size,1,none⟩=some (.slice (some ⟨gN,oN,none⟩) D.n D.c)∧w.heap.size < w'.heap.size):=fun w' ho=>net_box' ho
    have HORD:Hid (∀ m,m < D.n→O[m]?=some (O.getD m 0)∧1≤O.getD m 0∧O.getD m 0≤(D.n:Int)):=fun m h=>⟨getD_some (by omega),ord_at hm q5 h⟩
    have hn64:=hs.n
    rw [hch]
    have hval:D.val = .agg #[.slice D.i.b D.i.n D.i.c,.slice (some ⟨gN,oN,none⟩) D.n D.c]:=by unfold NetD.val;rw [hb];rfl
    rw [hb] at NL
    rw [hval]
    clear hr hs hl q1 q2 q3 q4 q5 q6 q7 q8 hm hch hb hnd hval
    go_enter Tryz.func7,Tryz.ntmps7
    go_wp2_with (go_at_call 21;(with_reducible refine (NL.out _ ((Oth.refl [] w).alloc _)).mono ?_);rintro e w1 ⟨⟨g1,g2,rfl,k1,k2,hg1,hg2⟩,ho1⟩;replace k1:=Lib.hid k1;replace k2:=Lib.hid k2;replace ho1:=Lib.hid ho1)
    have HO1:Hid (∀ w',Oth [] (w1.alloc (.cells #[.slice (some ⟨g1,0,none⟩) D.n D.n,.slice (some ⟨g2,0,none⟩) (D.n + 1) (D.n + 1),.int .i64 (l:Nat)] 82)) w'→Oth [] (w.alloc (.cells #[.slice D.i.b D.i.n D.i.c,.slice (some ⟨gN,oN,none⟩) D.n D.c] 26)) w'∧Row 3 1 g1 D.n D.n (ivl O) w'):=fun w' ho=>
      ⟨(ho1.out.alloc _).trans ho (Fr.nil _ _),(k1.out.oth ((Oth.refl [] _).alloc _) (by simp)).oth ho (by simp)⟩
    clear k1 k2 hg1 hg2 NL ho1
    go_loopw [19,5] (fun x y wr=>∃ m:Nat,m≤D.n∧x = .int .i64 m∧y = .int .i64 (bef O m)∧chainB D O m=true∧Oth [] (w1.alloc (.cells #[.slice (some ⟨g1,0,none⟩) D.n D.n,.slice (some ⟨g2,0,none⟩) (D.n + 1) (D.n + 1),.int .i64 (l:Nat)] 82)) wr) (fun x _ _=>D.n - (intOf x).toNat)
    case atStart=>exact ⟨0,by omega,rfl,rfl,rfl,Oth.refl _ _⟩
    case round=>
      obtain ⟨m,hm,rfl,rfl,hcb,ho⟩:=hrel
      obtain ⟨ho2,hrow⟩:=HO1.out wr ho
      obtain ⟨p0,p1,p2,p3⟩:=HBX.out wr ho2
      by_cases hlt:m < D.n
      · have t1:(m:Int) < D.n:=by omega
        obtain ⟨o1,o2,o3⟩:=HORD.out m hlt
        have a1:=hrow.cell (ivl_get o1)
        have a2:=hrow.lt
        have HB:Hid (bef O (m + 1)=O.getD m 0):=bef_succ O m
        obtain ⟨z,hz⟩:∃ z:Nat,O.getD m 0=(z:Int) + 1:=⟨(O.getD m 0).toNat - 1,by omega⟩
        obtain ⟨d,hk⟩:∃ d,D.L[z]?=some d:=⟨_,List.getElem?_eq_getElem (by rw [← HLEN.out];omega)⟩
        have HCB:Hid (chainB D O (m + 1)=decide (d.ins=[bef O m])):=by
          rw [chainB,hcb,show (O.getD m 0).toNat - 1=z by omega,hk,Bool.true_and]
          exact Lib.hid rfl
        rw [hz] at a1 HB
        have hzn:z < D.n:=by omega
        have t2:(z:Int) < (D.n:Int):=by omega
        have e2:IntKind.i64.wrap (z:Int)=(z:Int):=IntWalk.i64_in _ (by omega)
        have e3:(z:Int) + 1 - 1=(z:Int):=by omega
        have e4:IntKind.i64.wrap ((m:Int) + 1)=(m:Int) + 1:=IntWalk.i64_in _ (by omega)
        obtain ⟨c8,hri⟩:=HND.out wr p0 z d hk
        have c9:=World.block_lt_of_cell? _ _ c8
        have hri:=hri.ins
        obtain ⟨o,bi,ni,ci,ins,bp,np,cp,P⟩:=d
        dsimp only at c8 hri HCB
        have hni:=hri.len
        obtain ⟨B,hB⟩:∃ B,B=bef O m:=⟨_,rfl⟩
        rw [← hB] at HCB ⊢
        have HF:=Lib.hid (And.intro p0 (And.intro ho hni))
        have HM:=Lib.hid (And.intro hm hlt)
        by_cases h1:ni=1
        · obtain ⟨x,hins⟩:∃ x,ins=[x]:=by
            rw [h1] at hni
            exact List.length_eq_one_iff.1 hni.symm
          rw [hins] at hri HCB
          have t3:((ni:Int) != 1)=false:=by simp;omega
          have t4:(0:Int) < (ni:Int):=by omega
          obtain ⟨gi,oi,rfl,hc⟩:=hri.at_ 0 x rfl
          rw [Nat.add_zero] at hc
          have hc2:=World.block_lt_of_cell? _ _ hc
          by_cases h2:x=B
          · subst h2
            have hx':(x != x)=false:=by simp
            clear p0 ho ho2 hrow hcb hri hni hk o1 o2 o3 hz hB hins h1
            go_wp2_with fail
            go_roundw
            case rel=>exact ⟨m + 1,by omega,by go_num,by rw [HB.out],by rw [HCB.out];simp,HF.out.2.1⟩
            case measure=>simp [intOf];omega
          · have hx':(x != B)=true:=by simp [h2]
            clear p0 ho ho2 hrow hcb hri hni hk o1 o2 o3 hz hB hins h1
            go_wp2_with fail
            go_ret
            exact ⟨by rw [chainB_stop (m:=m + 1) (by rw [HCB.out];simp [h2]) HM.out.2];rfl,HF.out.1⟩
        · have t3:((ni:Int) != 1)=true:=by simp;omega
          clear p0 ho ho2 hrow hcb hri hni hk o1 o2 o3 hz hB
          go_wp2_with fail
          go_ret
          refine ⟨?_,HF.out.1⟩
          have hcf:chainB D O (m + 1)=false:=by
            rw [HCB.out,decide_eq_false]
            intro h9
            have:=HF.out.2.2
            rw [h9] at this
            exact h1 (by simpa using this)
          rw [chainB_stop hcf HM.out.2];rfl
      · obtain rfl:m=D.n:=by omega
        have t1:¬ (D.n:Int) < (D.n:Int):=by omega
        have HC:=Lib.hid (And.intro hcb p0)
        clear hcb ho ho2 hrow p0
        go_wp2_with fail
        go_ret
        exact ⟨by rw [HC.out.1];rfl,HC.out.2⟩
theorem chain_conts (hs:NetS D) (hl:D.n=D.L.length) (h:D.chain=true):∃ O f,D.look=some (O,f,oF O D.n)∧O.length=D.n∧ChS D (oF O) (pF O) f∧OrdC D (oF O)∧LosC D (oF O)∧ChnC D∧ChkC D:=by
  obtain ⟨O,f,h1,h2,h3,h4⟩:=chain_all hs.n hs.d hl h
  refine ⟨O,f,h1,h2,h4,fun w hr=>?_,fun w hr=>loss_at hs hr h1,fun w hr=>?_,fun w hr=>check_at hs hr h1⟩
  · refine (order_at hs hr h1).mono ?_
    rintro e w' ⟨⟨g,rfl,k1,k2⟩,k3⟩
    refine ⟨g,rfl,k3,k2,k1.lt,fun p hp=>?_⟩
    have h9:=k1.cell (ivl_get (getD_some (l:=O) (i:=p) (by omega)))
    rw [h9,oF_succ]
    have:=ord_at h3 h2 hp
    congr 2;omega
  · have:=chain_any hs hr
    rw [h] at this
    exact this
end
end Go.Proofs.YtnpdcjdmbkcpbaaGreat.Ins
namespace Go.Proofs.YtnpdcjdmbkcpbaaGreat.Ins
open Go.RowKit
section
variable {w:World}
set_option maxRecDepth 100000 in
set_option maxHeartbeats 4000000 in
theorem sizes_any {g N:Nat} {f:Nat→List Int} (h:ShpR g N f w) (hN:N≤1000) (hs:∀ i,i < N→shB (f i)=true) :
    Calls Tryz.prog 94 #[.slice (some ⟨g,0,none⟩) N N] w fun e w'=>∃ g',e = .returned (.tuple #[.slice (some ⟨g',0,none⟩) N N,.int .i64 0])∧Nms g' (fun i=>prd (f i)) N N w'∧Oth [] w w'∧w.heap.size≤g':=by
  have H:=Lib.hid h
  have HS:=Lib.hid hs
  have hm0:∀ w',_:=fun w'=>run_make_row' (P:=Tryz.prog) 22 3 (.int .i64 0) 8 Tryz.underlying22 info3 rfl .i64 .i64 N (by omega) (by omega) w'
  have HZ:Hid (Nms w.heap.size (fun i=>if i < 0 then prd (f i) else 0) N N (w.alloc (.cells (madeCells #[.int .i64 0] N) 3))):=(nms_zero (heap_alloc_new _ _) (by unfold maxLen;omega)).ext (fun i _=>by rw [if_neg (by omega)])
  clear h hs
  go_enter Tryz.func94,Tryz.ntmps94
  go_wp2_with fail
  go_loopw [14] (fun x wr=>∃ m:Nat,m≤N∧x = .int .i64 m∧Oth [] w wr∧Nms w.heap.size (fun i=>if i < m then prd (f i) else 0) N N wr) (fun x _=>N - (intOf x).toNat)
  case atStart=>exact ⟨0,by omega,rfl,(Oth.refl _ _).alloc _,HZ.out⟩
  case round=>
    obtain ⟨m,hm,rfl,ho,hrow⟩:=hrel
    by_cases hlt:m < N
    · have t1:(m:Int) < N:=by omega
      have e1:IntKind.i64.wrap ((m:Int) + 1)=(m:Int) + 1:=IntWalk.i64_in _ (by omega)
      obtain ⟨⟨sb,sn,sc,sl⟩,b1,b2,b3⟩:=(H.out.oth ho).at_ hlt
      dsimp only at b1 b2 b3
      have b4:=World.block_lt_of_cell? _ _ b1
      have hz:=HS.out m hlt
      rw [← b3] at hz
      have hsz:=size_any b2
      rw [hz,if_pos rfl] at hsz
      have NZ:=Lib.hid hsz
      have HF:=Lib.hid (And.intro ho (And.intro hrow b3))
      obtain ⟨P,hP⟩:∃ P,P=prd sl:=⟨_,rfl⟩
      rw [← hP] at NZ
      replace hP:=Lib.hid hP
      clear ho hrow b2 b3 hz hsz
      go_wp2_with (go_at_call 59;(with_reducible refine NZ.out.mono ?_);rintro e w2 ⟨rfl,ho2⟩;have hr2:=HF.out.2.1.oth ho2 (by simp);have c1:=hr2.at_ (i:=m) hlt;have c2:=hr2.free m;have c3:=hr2.lt;replace hr2:=Lib.hid hr2;replace ho2:=Lib.hid ho2)
      go_roundw
      case rel=>
        refine ⟨m + 1,by omega,by go_num,(HF.out.1.trans ho2.out (Fr.nil _ _)).setCell (.inr (Nat.le_refl _)) _,(hr2.out.set m P).ext (fun i hi=>?_)⟩
        by_cases e:i=m
        · subst e
          rw [if_pos rfl,if_pos (by omega),hP.out,HF.out.2.2]
        · rw [if_neg e]
          by_cases e2:i < m
          · rw [if_pos e2,if_pos (by omega)]
          · rw [if_neg e2,if_neg (by omega)]
      case measure=>simp [intOf];omega
    · obtain rfl:m=N:=by omega
      have t1:¬ (m:Int) < m:=by omega
      have HF:=Lib.hid (And.intro ho hrow)
      clear ho hrow
      go_wp2_with fail
      go_ret2
      exact ⟨w.heap.size,rfl,HF.out.2.ext (fun i hi=>by rw [if_pos hi]),HF.out.1,Nat.le_refl _⟩
theorem ri_two (w:World) {x y:Int} (hx:1≤x∧x≤4294967296) (hy:1≤y∧y≤4294967296):RI (some ⟨w.heap.size,0,none⟩) 2 2 [x,y] (w.alloc (.cells #[.int .i64 x,.int .i64 y] 3)):=by
  refine ri_row (row_of_list (xs:=[.int .i64 x,.int .i64 y]) (heap_alloc_new _ _) rfl (by decide)) ?_
  intro k hk
  simp only [List.mem_cons,List.mem_nil_iff,or_false] at hk
  rcases hk with rfl | rfl <;> omega
theorem mul_two (w:World) {x y:Int} (hx:1≤x∧x≤65536) (hy:1≤y∧y≤65536) :
    Calls Tryz.prog 105 #[.slice (some ⟨w.heap.size,0,none⟩) 2 2] (w.alloc (.cells #[.int .i64 x,.int .i64 y] 3)) fun e w'=>e = .returned (.tuple #[.int .i64 (x * y),.int .i64 0])∧Oth [] (w.alloc (.cells #[.int .i64 x,.int .i64 y] 3)) w':=by
  have hp:x * y≤65536 * 65536:=Int.mul_le_mul hx.2 hy.2 (by omega) (by omega)
  have h:=mul_any (ri_two w (x:=x) (y:=y) (by omega) (by omega)) (fun k hk=>by
    simp only [List.mem_cons,List.mem_nil_iff,or_false] at hk
    rcases hk with rfl | rfl <;> omega) (by simp only [prd,Int.mul_one];omega)
  have e:prd [x,y]=x * y:=by simp [prd]
  rw [e] at h
  exact h
set_option maxRecDepth 100000 in
set_option maxHeartbeats 8000000 in
theorem opCost_any {o:OpD} {bp:Option Addr} {np cp:Nat} {P:List Sh} {bx:Option Addr} {nx cx:Nat} {X:List Sh} {k:Int} (h:OpIn o bp np cp P bx nx cx X w) (hk:o.cost (P.map Sh.l) (X.map Sh.l)=some k) :
    Calls Tryz.prog 95 #[o.val,.slice bp np cp,.slice bx nx cx] w fun e w'=>e = .returned (.tuple #[.int .i64 k,.int .i64 0])∧Oth [] w w':=by
  obtain ⟨s,hs⟩:∃ s,o.shape (P.map Sh.l) (X.map Sh.l)=some s:=by
    unfold OpD.cost at hk
    cases h1:o.shape (P.map Sh.l) (X.map Sh.l) with
    | none=>rw [h1] at hk;cases hk
    | some s=>exact ⟨s,rfl⟩
  have hk0:k=if o.kind=8 then prd ((P.map Sh.l).getD 0 []) else if o.kind=10 then prd s * (prd ((P.map Sh.l).getD 0 []) / ((P.map Sh.l).getD 0 []).getD 0 0) else if o.kind=11∨o.kind=12 then prd s * o.width else prd s:=by
    unfold OpD.cost at hk
    rw [hs] at hk
    exact (Option.some.inj hk).symm
  have hsr:=shape_right hs
  have hsp:=shB_prd hsr
  have hw12:o.kind=11∨o.kind=12→1≤o.width∧o.width≤1024:=pool_width hs
  have hp0:o.kind=8∨o.kind=10→∃ g off p0 t,bp=some ⟨g,off,none⟩∧0 < np∧P=p0 :: t∧w.cell? ⟨g,off,none⟩=some (.slice p0.b p0.n p0.c)∧RI p0.b p0.n p0.c p0.l w∧shB p0.l=true:=fun e=>by
    have h1:=one_param hs e
    cases P with
    | nil=>simp [shB] at h1
    | cons p0 t=>
      obtain ⟨g,off,k1,k2,k3⟩:=h.p.at_ 0 p0 rfl
      exact ⟨g,off,p0,t,k1,by rw [h.p.len];simp,rfl,by have h9:=k2;rw [Nat.add_zero] at h9;exact h9,k3,by simpa using h1⟩
  have NS:Hid (∀ w',Oth [] w w'→Calls Tryz.prog 112 #[o.val,.slice bp np cp,.slice bx nx cx] w' fun e w2=>(∃ b n c,e = .returned (.tuple #[.slice b n c,.int .i64 0])∧RI b n c s w2)∧Oth [] w' w2):=fun w' ho=>(opShape_any (h.oth ho)).mono fun e w2 hh=>by
    obtain ⟨⟨r,h1,h2⟩,h3⟩:=hh
    rw [hs] at h2
    subst h2
    exact ⟨h1,h3⟩
  have NZ:Hid (∀ b n c w',RI b n c s w'→Calls Tryz.prog 59 #[.slice b n c] w' fun e w2=>e = .returned (.tuple #[.int .i64 (prd s),.int .i64 0])∧Oth [] w' w2):=fun b n c w' hr=>by
    have h9:=size_any hr
    rw [hsr,if_pos rfl] at h9
    exact h9
  obtain ⟨S,hS⟩:∃ S,S=prd s:=⟨_,rfl⟩
  rw [← hS] at hsp hk0 NZ
  have hnp:np≤9223372036854775807:=by have:=h.p.cap;unfold maxLen at this;omega
  clear h hk hs hsr hS
  obtain ⟨k1,k2,k3,k4,k5,k6,k7,b,n,c,os⟩:=o
  dsimp only [OpD.val] at hk0 hw12 hp0 NS ⊢
  have HK:=Lib.hid (op_held w k1 k2 k3 k4 k5 k6 k7 b n c)
  by_cases e8:k1=8
  · obtain ⟨g,off,q,t,rfl,hnp0,rfl,hq,hqr,hqs⟩:=hp0 (.inl e8)
    rw [if_pos e8] at hk0
    have NQ:Hid (∀ w',Oth [] w w'→Calls Tryz.prog 59 #[.slice q.b q.n q.c] w' fun e w2=>e = .returned (.tuple #[.int .i64 (prd q.l),.int .i64 0])∧Oth [] w' w2):=fun w' ho=>by
      have h9:=size_any (hqr.oth ho)
      rw [hqs,if_pos rfl] at h9
      exact h9
    have hk1:k=prd q.l:=by rw [hk0];rfl
    have hnp1:(0:Int) < (np:Int):=by omega
    obtain ⟨Z,hZ⟩:∃ Z,Z=prd q.l:=⟨_,rfl⟩
    rw [← hZ] at NQ hk1
    replace hq:=Lib.hid hq
    clear hk0 hw12 hp0 hqr hqs hZ
    subst e8 hk1
    go_enter Tryz.func95,Tryz.ntmps95
    go_wp2_with (first
      | (go_at_call 112;(with_reducible refine (NS.out _ ((Oth.refl [] w).alloc _)).mono ?_);rintro e w1 ⟨⟨sb,sn,sc,rfl,hri⟩,ho1⟩;replace hri:=Lib.hid hri;replace ho1:=Lib.hid ho1)
      | (go_at_call 59;(with_reducible refine (NZ.out _ _ _ _ hri.out).mono ?_);rintro e w2 ⟨rfl,ho2⟩;replace ho1:=Lib.hid (ho1.out.trans ho2 (Fr.nil _ _));obtain ⟨p0,p1,p2,p3,p4,p5,p6,p7,p8⟩:=HK.out _ ho1.out;have p9:=World.block_lt_of_cell? _ _ p1;clear ho2 p2 p4 p5 p6 p7 p8;have c0:=p0.cell hq.out (by simp);have c1:=World.block_lt_of_cell? _ _ c0;replace p0:=Lib.hid p0)
      | (go_at_call 59;(with_reducible refine (NQ.out _ p0.out).mono ?_);rintro e w3 ⟨rfl,ho3⟩;replace ho3:=Lib.hid (p0.out.trans ho3 (Fr.nil _ _))))
    go_ret2
    exact ⟨rfl,ho3.out⟩
  rw [if_neg e8] at hk0
  by_cases e10:k1=10
  · obtain ⟨g,off,q,t,rfl,hnp0,rfl,hq,hqr,hqs⟩:=hp0 (.inr e10)
    rw [if_pos e10] at hk0
    have NQ:Hid (∀ w',Oth [] w w'→Calls Tryz.prog 59 #[.slice q.b q.n q.c] w' fun e w2=>e = .returned (.tuple #[.int .i64 (prd q.l),.int .i64 0])∧Oth [] w' w2):=fun w' ho=>by
      have h9:=size_any (hqr.oth ho)
      rw [hqs,if_pos rfl] at h9
      exact h9
    have hdv:=prd_div hqs
    have hk1:k=S * (prd q.l / q.l.getD 0 0):=by rw [hk0];rfl
    have hql:=shB_len hqs
    have hy:=shB_side hqs (i:=0) (by omega)
    have hz:=shB_prd hqs
    rcases hqr.cases with ⟨e,-⟩ | ⟨gq,oq,hqb,hqn,-,-,hqc⟩
    · exact absurd hqr.len (by omega)
    have hq0:=hqc 0 hqn
    rw [Nat.add_zero] at hq0
    obtain ⟨Z,hZ⟩:∃ Z,Z=prd q.l:=⟨_,rfl⟩
    obtain ⟨y,hy0⟩:∃ y,y=q.l.getD 0 0:=⟨_,rfl⟩
    rw [← hZ] at NQ hk1 hdv hz
    rw [← hy0] at hk1 hdv hy hq0
    rw [hqb] at NQ hq
    obtain ⟨qb,qn,qc,ql⟩:=q
    dsimp only at *
    have hnp1:(0:Int) < (np:Int):=by omega
    have hqn1:(0:Int) < (qn:Int):=by omega
    have hyne:¬ y=0:=by omega
    have e0:Z.tdiv y=Z / y:=Int.tdiv_eq_ediv_of_nonneg (by omega)
    obtain ⟨d,hd⟩:∃ d,d=Z / y:=⟨_,rfl⟩
    rw [← hd] at e0 hdv hk1
    have e1:IntKind.i64.wrap d=d:=IntWalk.i64_in _ (by omega)
    have NM:=Lib.hid (fun w'=>mul_two w' hsp hdv)
    replace hq:=Lib.hid hq
    replace hq0:=Lib.hid hq0
    have HY:=Lib.hid (And.intro hy (And.intro hz hdv))
    clear hk0 hw12 hp0 hqr hqs hZ hy0 hqc hqb hql hy hz hd hdv hqn
    subst e10 hk1
    go_enter Tryz.func95,Tryz.ntmps95
    go_wp2_with (first
      | (go_at_call 112;(with_reducible refine (NS.out _ ((Oth.refl [] w).alloc _)).mono ?_);rintro e w1 ⟨⟨sb,sn,sc,rfl,hri⟩,ho1⟩;replace hri:=Lib.hid hri;replace ho1:=Lib.hid ho1)
      | (go_at_call 59;(with_reducible refine (NZ.out _ _ _ _ hri.out).mono ?_);rintro e w2 ⟨rfl,ho2⟩;replace ho1:=Lib.hid (ho1.out.trans ho2 (Fr.nil _ _));obtain ⟨p0,p1,p2,p3,p4,p5,p6,p7,p8⟩:=HK.out _ ho1.out;have p9:=World.block_lt_of_cell? _ _ p1;clear ho2 p2 p4 p5 p6 p7 p8;have c0:=p0.cell hq.out (by simp);have c1:=World.block_lt_of_cell? _ _ c0;replace p0:=Lib.hid p0)
      | (go_at_call 59;(with_reducible refine (NQ.out _ p0.out).mono ?_);rintro e w3 ⟨rfl,ho3⟩;have d0:=ho3.cell c0 (by simp);have d1:=World.block_lt_of_cell? _ _ d0;have d2:=(p0.out.trans ho3 (Fr.nil _ _)).cell hq0.out (by simp);have d3:=World.block_lt_of_cell? _ _ d2;replace ho3:=Lib.hid (p0.out.trans ho3 (Fr.nil _ _)))
      | (go_at_call 105;(with_reducible refine (NM.out _).mono ?_);rintro e w4 ⟨rfl,ho4⟩;replace ho4:=Lib.hid ho4))
    go_ret2
    exact ⟨rfl,(ho3.out.alloc _).trans ho4.out (Fr.nil _ _)⟩
  rw [if_neg e10] at hk0
  by_cases e11:k1=11∨k1=12
  · rw [if_pos e11] at hk0
    have hw:=hw12 e11
    have NM:=Lib.hid (fun w'=>mul_two w' (y:=k3) hsp (by omega))
    clear hw12 hp0 hw
    subst hk0
    rcases e11 with rfl | rfl
    · go_enter Tryz.func95,Tryz.ntmps95
      go_wp2_with (first
        | (go_at_call 112;(with_reducible refine (NS.out _ ((Oth.refl [] w).alloc _)).mono ?_);rintro e w1 ⟨⟨sb,sn,sc,rfl,hri⟩,ho1⟩;replace hri:=Lib.hid hri;replace ho1:=Lib.hid ho1)
        | (go_at_call 59;(with_reducible refine (NZ.out _ _ _ _ hri.out).mono ?_);rintro e w2 ⟨rfl,ho2⟩;replace ho1:=Lib.hid (ho1.out.trans ho2 (Fr.nil _ _));obtain ⟨p0,p1,p2,p3,p4,p5,p6,p7,p8⟩:=HK.out _ ho1.out;have p9:=World.block_lt_of_cell? _ _ p1;clear ho2 p2 p4 p5 p6 p7 p8;replace p0:=Lib.hid p0)
        | (go_at_call 105;(with_reducible refine (NM.out _).mono ?_);rintro e w4 ⟨rfl,ho4⟩;replace ho4:=Lib.hid ho4))
      go_ret2
      exact ⟨rfl,(p0.out.alloc _).trans ho4.out (Fr.nil _ _)⟩
    · go_enter Tryz.func95,Tryz.ntmps95
      go_wp2_with (first
        | (go_at_call 112;(with_reducible refine (NS.out _ ((Oth.refl [] w).alloc _)).mono ?_);rintro e w1 ⟨⟨sb,sn,sc,rfl,hri⟩,ho1⟩;replace hri:=Lib.hid hri;replace ho1:=Lib.hid ho1)
        | (go_at_call 59;(with_reducible refine (NZ.out _ _ _ _ hri.out).mono ?_);rintro e w2 ⟨rfl,ho2⟩;replace ho1:=Lib.hid (ho1.out.trans ho2 (Fr.nil _ _));obtain ⟨p0,p1,p2,p3,p4,p5,p6,p7,p8⟩:=HK.out _ ho1.out;have p9:=World.block_lt_of_cell? _ _ p1;clear ho2 p2 p4 p5 p6 p7 p8;replace p0:=Lib.hid p0)
        | (go_at_call 105;(with_reducible refine (NM.out _).mono ?_);rintro e w4 ⟨rfl,ho4⟩;replace ho4:=Lib.hid ho4))
      go_ret2
      exact ⟨rfl,(p0.out.alloc _).trans ho4.out (Fr.nil _ _)⟩
  rw [if_neg e11] at hk0
  have f8:(k1 == 8)=false:=by simp [e8]
  have f10:(k1 == 10)=false:=by simp [e10]
  have f11:(k1 == 11)=false:=by simp;omega
  have f12:(k1 == 12)=false:=by simp;omega
  clear hw12 hp0 e8 e10 e11
  subst hk0
  go_enter Tryz.func95,Tryz.ntmps95
  go_wp2_with (first
    | (go_at_call 112;(with_reducible refine (NS.out _ ((Oth.refl [] w).alloc _)).mono ?_);rintro e w1 ⟨⟨sb,sn,sc,rfl,hri⟩,ho1⟩;replace hri:=Lib.hid hri;replace ho1:=Lib.hid ho1)
    | (go_at_call 59;(with_reducible refine (NZ.out _ _ _ _ hri.out).mono ?_);rintro e w2 ⟨rfl,ho2⟩;replace ho1:=Lib.hid (ho1.out.trans ho2 (Fr.nil _ _));obtain ⟨p0,p1,p2,p3,p4,p5,p6,p7,p8⟩:=HK.out _ ho1.out;have p9:=World.block_lt_of_cell? _ _ p1;clear ho2 p2 p4 p5 p6 p7 p8;replace p0:=Lib.hid p0))
  go_ret2
  exact ⟨rfl,p0.out⟩
end
end Go.Proofs.YtnpdcjdmbkcpbaaGreat.Ins
namespace Go.Proofs.YtnpdcjdmbkcpbaaGreat.Ins
open Go.RowKit
theorem smI_bound {B:Int}:∀ (l:List Int),(∀ x∈l,0≤x∧x≤B)→smI l≤l.length * B
  | [],_=>by simp [smI]
  | x :: t,h=>by
    have h1:=smI_bound t (fun y hy=>h y (.tail _ hy))
    have h2:=h x (.head _)
    have e:((t.length + 1:Nat):Int) * B=t.length * B + B:=by rw [Int.natCast_add,Int.add_mul];simp
    simp only [smI,List.length_cons]
    rw [e];omega
def cosF (D:NetD) (f:Nat→List Int) (m i:Nat):Int:=if 1≤i∧i≤m then cstN D f (i - 1) else 0
theorem nms_ri {g N:Nat} {h:Nat→Int} {w:World} (hr:Nms g h N N w) (hb:∀ i,i < N→0≤h i∧h i≤4294967296):RI (some ⟨g,0,none⟩) N N ((List.range N).map h) w:=by
  refine ri_row (by unfold ivl;rw [List.map_map];exact hr) ?_
  intro k hk
  obtain ⟨i,hi,rfl⟩:=List.mem_map.1 hk
  have:=hb i (List.mem_range.1 hi)
  omega
section
variable {D:NetD} {o π:Nat→Nat} {w:World}
set_option maxRecDepth 100000 in
set_option maxHeartbeats 8000000 in
theorem price_any {O:List Int} {f:Nat→List Int} {l:Nat} (hs:NetS D) (hr:D.R w) (hl:D.look=some (O,f,l)) (hc:ChS D o π f) :
    Calls Tryz.prog 39 #[D.val] w fun e w'=>(∃ gw gc T,e = .returned (.tuple #[.agg #[.slice (some ⟨gw,0,none⟩) (D.n + 1) (D.n + 1),.slice (some ⟨gc,0,none⟩) (D.n + 1) (D.n + 1),.int .i64 T],.int .i64 0])∧w.heap.size≤gw∧w.heap.size≤gc ∧
      Nms gw (fun i=>prd (f i)) (D.n + 1) (D.n + 1) w'∧Nms gc (cosF D f D.n) (D.n + 1) (D.n + 1) w')∧Oth [] w w':=by
  have hn:=hc.c.n1
  obtain ⟨gN,oN,hb,hnd⟩:=hr.base hn.1
  have HND:Hid (∀ w',Oth [] w w'→∀ k d,D.L[k]?=some d→(∀ j v,d.cells[j]?=some v→w'.cell? ⟨gN,oN + k * 10 + j,none⟩=some v)∧d.R w'):=fun w' ho k d hk=>⟨fun j v hj=>ho.cell ((hnd k d hk).1 j v hj) (by simp),(hnd k d hk).2.oth ho⟩
  have hval:D.val = .agg #[.slice D.i.b D.i.n D.i.c,.slice (some ⟨gN,oN,none⟩) D.n D.c]:=by unfold NetD.val;rw [hb];rfl
  have NS:Hid (∀ w',Oth [] w w'→Calls Tryz.prog 93 #[D.val] w' fun e w2=>(∃ g,e = .returned (.tuple #[.slice (some ⟨g,0,none⟩) (D.n + 1) (D.n + 1),.int .i64 0])∧ShpR g (D.n + 1) f w2∧w'.heap.size≤g)∧Oth [] w' w2):=fun w' ho=>shapes_at hs (hr.oth ho) hl
  have NZ:Hid (∀ g w',ShpR g (D.n + 1) f w'→Calls Tryz.prog 94 #[.slice (some ⟨g,0,none⟩) (D.n + 1) (D.n + 1)] w' fun e w2=>∃ g',e = .returned (.tuple #[.slice (some ⟨g',0,none⟩) (D.n + 1) (D.n + 1),.int .i64 0])∧Nms g' (fun i=>prd (f i)) (D.n + 1) (D.n + 1) w2∧Oth [] w' w2∧w'.heap.size≤g'):=fun g w' h=>sizes_any h (by omega) (fun i hi=>hc.right (by omega))
  have HCST:Hid (∀ m,m < D.n→∃ (d:ND) (j:Nat),D.L[m]?=some d∧d.ins=[(j:Int)]∧j≤D.n∧d.op.cost (d.P.map Sh.l) [f j]=some (cstN D f m)):=fun m hm=>hc.cost hm
  have HCB:Hid (∀ m i,m≤D.n→0≤cosF D f m i∧cosF D f m i≤4294967296):=fun m i hm=>by
    unfold cosF
    split
    · exact hc.cb (by omega)
    · omega
  rw [hval] at NS ⊢
  have HBX:Hid (∀ w',Oth [] ((w.alloc (.cells #[.slice D.i.b D.i.n D.i.c,.slice (some ⟨gN,oN,none⟩) D.n D.c] 26)).alloc (.cells #[.slice none 0 0,.slice none 0 0,.int .i64 0] 115)) w' →
      Oth [] w w'∧w'.cell? ⟨w.heap.size,0,none⟩=some (.slice D.i.b D.i.n D.i.c)∧w'.cell? ⟨w.heap.size,1,none⟩=some (.slice (some ⟨gN,oN,none⟩) D.n D.c)∧w'.heap[w.heap.size + 1]?=some (.cells #[.slice none 0 0,.slice none 0 0,.int .i64 0] 115 (0,0))∧w.heap.size + 1 < w'.heap.size∧w.heap.size < w'.heap.size):=fun w' ho=>by
    have h9:=heap_alloc_new (w.alloc (.cells #[.slice D.i.b D.i.n D.i.c,.slice (some ⟨gN,oN,none⟩) D.n D.c] 26)) (.cells #[.slice none 0 0,.slice none 0 0,.int .i64 0] 115)
    rw [World.size_alloc] at h9
    have h8:=net_box (((Oth.refl [] (w.alloc (.cells #[.slice D.i.b D.i.n D.i.c,.slice (some ⟨gN,oN,none⟩) D.n D.c] 26))).alloc (.cells #[.slice none 0 0,.slice none 0 0,.int .i64 0] 115)).trans ho (Fr.nil _ _))
    have h7:=ho.heap h9 (by simp)
    exact ⟨h8.1,h8.2.1,h8.2.2,h7,lt_of_block h7,by have:=lt_of_block h7;omega⟩
  have hm0:∀ w',_:=fun w'=>run_make_row' (P:=Tryz.prog) 22 3 (.int .i64 0) 8 Tryz.underlying22 info3 rfl .i64 .i64 (D.n + 1) (by omega) (by omega) w'
  have hm1:∀ w',_:=fun w'=>run_make_row' (P:=Tryz.prog) 78 23 (.slice none 0 0) 24 Tryz.underlying78 info23s rfl .i64 .i64 1 (by omega) (by omega) w'
  simp only [Int.natCast_add,Int.natCast_one] at hm0 hm1
  have HR:=Lib.hid hr
  clear hr hnd hb hval hs hl hc
  go_enter Tryz.func39,Tryz.ntmps39
  go_wp2_with (first
    | (go_at_call 93;(with_reducible refine (NS.out _ (HBX.out _ (Oth.refl _ _)).1).mono ?_);rintro e w1 ⟨⟨g1,rfl,hsh,hg1⟩,ho1⟩;replace hsh:=Lib.hid hsh;replace ho1:=Lib.hid ho1)
    | (go_at_call 94;(with_reducible refine (NZ.out _ _ hsh.out).mono ?_);rintro e w2 ⟨g2,rfl,hws,ho2,hg2⟩;obtain ⟨p0,p1,p2,p3,p4,p5⟩:=HBX.out _ (ho1.out.trans ho2 (Fr.nil _ _));replace hws:=Lib.hid hws;replace hsh:=Lib.hid (hsh.out.oth ho2);replace ho2:=Lib.hid ho2;replace p0:=Lib.hid p0;replace p3:=Lib.hid p3))
  have HO12:Hid (Oth [] ((w.alloc (.cells #[.slice D.i.b D.i.n D.i.c,.slice (some ⟨gN,oN,none⟩) D.n D.c] 26)).alloc (.cells #[.slice none 0 0,.slice none 0 0,.int .i64 0] 115)) w2):=ho1.out.trans ho2.out (Fr.nil _ _)
  have HZ:Hid (Nms w2.heap.size (cosF D f 0) (D.n + 1) (D.n + 1) (w2.alloc (.cells (madeCells #[.int .i64 0] (D.n + 1)) 3))):=(nms_zero (heap_alloc_new _ _) (by unfold maxLen;omega)).ext (fun i _=>by unfold cosF;rw [if_neg (by omega)])
  have hgl:=hsh.out.lt
  have hwl:=hws.out.lt
  have hszw:w.heap.size + 2≤w2.heap.size:=by omega
  have hs1:w.heap.size + 2≤w1.heap.size:=by have:=ho1.out.size;rw [World.size_alloc,World.size_alloc] at this;omega
  clear NS NZ p1 p2 p4 p5 ho1 ho2 p0 p3
  go_loopw [40] (fun x wr=>∃ m:Nat,m≤D.n∧x = .int .i64 m∧Oth [] w2 wr∧Nms w2.heap.size (cosF D f m) (D.n + 1) (D.n + 1) wr) (fun x _=>D.n - (intOf x).toNat)
  case atStart=>exact ⟨0,by omega,rfl,(Oth.refl _ _).alloc _,HZ.out⟩
  case round=>
    rename World=>wo
    obtain ⟨m,hm,rfl,ho,hrow⟩:=hrel
    obtain ⟨p0,p1,p2,p3,p4,p5⟩:=HBX.out wo (HO12.out.trans ho (Fr.nil _ _))
    by_cases hlt:m < D.n
    · have t1:(m:Int) < D.n:=by omega
      obtain ⟨d,jj,hk,hins,hjn,hcost⟩:=HCST.out m hlt
      obtain ⟨j2,j3⟩:=HND.out wo p0 m d hk
      obtain ⟨o,bi,ni,ci,ins,bp,np,cp,P⟩:=d
      dsimp only at hins hcost
      have c0:=j2 0 _ rfl
      have c1:=j2 1 _ rfl
      have c2:=j2 2 _ rfl
      have c3:=j2 3 _ rfl
      have c4:=j2 4 _ rfl
      have c5:=j2 5 _ rfl
      have c6:=j2 6 _ rfl
      have c7:=j2 7 _ rfl
      have c8:=j2 8 _ rfl
      have c9:=j2 9 _ rfl
      rw [Nat.add_zero] at c0
      have l2:=World.block_lt_of_cell? _ _ c0
      have hni:ni=ins.length:=j3.ins.len
      have hni2:ni≤300:=by rw [hni,hins];simp
      have hcost2:o.cost (P.map Sh.l) (ins.map fun x=>f x.toNat)=some (cstN D f m):=by rw [hins];simpa using hcost
      have hib:∀ x∈ins,0≤x∧x≤(D.n:Int):=fun x hx=>by rw [hins] at hx;simp at hx;omega
      have HIB:=Lib.hid hib
      have HCO:=Lib.hid hcost2
      have HJ:Hid (ND.R ⟨o,bi,ni,ci,ins,bp,np,cp,P⟩ w):=(HND.out w (Oth.refl _ _) m _ hk).2
      have HNI:=Lib.hid hni
      have HK:=Lib.hid (And.intro ho hrow)
      have HP0:=Lib.hid p0
      have HP3:=Lib.hid p3
      have e4:IntKind.i64.wrap ((m:Int) + 1)=(m:Int) + 1:=IntWalk.i64_in _ (by omega)
      dsimp only at c0 c1 c2 c3 c4 c5 c6 c7 c8 c9
      have hm2:∀ w',_:=fun w'=>run_make_row' (P:=Tryz.prog) 78 23 (.slice none 0 0) 24 Tryz.underlying78 info23s rfl .i64 .i64 ni (by omega) (by omega) w'
      obtain ⟨WN,hWN⟩:∃ WN,WN=wo.alloc (.cells #[.int .i64 o.kind,.int .i64 o.k,.int .i64 o.width,.int .i64 o.step,.int .i64 o.side,.int .i64 o.fr,.int .i64 o.to,.slice o.b o.n o.c,.slice bi ni ci,.slice bp np cp] 80):=⟨_,rfl⟩
      have hszN:WN.heap.size=wo.heap.size + 1:=by rw [hWN,World.size_alloc]
      have HX0:Hid (ShpR (wo.heap.size + 1) ni (fun _=>[]) (WN.alloc (.cells (madeCells #[.slice none 0 0] ni) 23))):=by
        rw [← hszN];exact ShpR.make (by unfold maxLen;omega)
      have HPN:Hid (∀ w',Oth [] WN w'→Oth [] wo w'∧w'.heap[wo.heap.size]?=some (.cells #[.int .i64 o.kind,.int .i64 o.k,.int .i64 o.width,.int .i64 o.step,.int .i64 o.side,.int .i64 o.fr,.int .i64 o.to,.slice o.b o.n o.c,.slice bi ni ci,.slice bp np cp] 80 (0,0))):=fun w' h=>by
        rw [hWN] at h
        exact ⟨((Oth.refl [] wo).alloc _).trans h (Fr.nil _ _),h.heap (heap_alloc_new _ _) (by simp)⟩
      have HWN:=Lib.hid hWN
      clear j2 j3 hk hni ho hrow p0 hWN hszN hins hcost hcost2 hib hjn p3 hm1
      go_wp2_with fail
      go_loopw [52] (fun y w3=>∃ j:Nat,j≤ni∧y = .int .i64 j∧Oth [] WN w3∧ShpR (wo.heap.size + 1) ni (fun i=>if i < j then f (ins.getD i 0).toNat else []) w3) (fun y _=>ni - (intOf y).toNat)
      case atStart=>
        have h:=HX0.out
        have h2:Oth [] WN (WN.alloc (.cells (madeCells #[.slice none 0 0] ni) 23)):=(Oth.refl _ _).alloc _
        rw [HWN.out] at h h2
        refine ⟨0,by omega,rfl,by rw [HWN.out];exact h2,h.ext (fun i _=>by rw [if_neg (by omega)])⟩
      case round=>
        obtain ⟨j,hj,rfl,ho,hx⟩:=hrel
        obtain ⟨ho2,hp⟩:=HPN.out wr ho
        have ho3:=HP0.out.trans ho2 (Fr.nil _ _)
        have hshr:=hsh.out.oth (HK.out.1.trans ho2 (Fr.nil _ _))
        by_cases hlj:j < ni
        · have t3:(j:Int) < ni:=by omega
          obtain ⟨x,hxi⟩:∃ x,ins[j]?=some x:=⟨_,List.getElem?_eq_getElem (by rw [← HNI.out];exact hlj)⟩
          obtain ⟨gi,oi,rfl,hc⟩:=(HJ.out.oth ho3).ins.at_ j x hxi
          have hxb:=HIB.out x (List.mem_of_getElem? hxi)
          obtain ⟨zz,rfl⟩:∃ zz:Nat,x=zz:=⟨x.toNat,by omega⟩
          have lgi:=World.block_lt_of_cell? _ _ hc
          obtain ⟨s,b1,b2,b3⟩:=hshr.at_ (i:=zz) (by omega)
          have b4:=World.block_lt_of_cell? _ _ b1
          obtain ⟨s',x1,-,-⟩:=hx.at_ (i:=j) hlj
          have x2:=hx.free j
          have x3:=hx.lt
          have t4:(zz:Int) < (D.n:Int) + 1:=by omega
          have e5:IntKind.i64.wrap ((j:Int) + 1)=(j:Int) + 1:=IntWalk.i64_in _ (by omega)
          have HX:=Lib.hid hxi
          have HF:=Lib.hid (And.intro ho (And.intro hx (And.intro b2 b3)))
          clear hxi hxb ho hx hshr ho2 ho3 hp b2 b3
          go_wp2_with fail
          go_roundw
          case rel=>
            refine ⟨j + 1,by omega,by go_num,HF.out.1.setCell (.inr (by rw [HWN.out,World.size_alloc];exact Nat.le_refl _)) _,(HF.out.2.1.set HF.out.2.2.1 j).ext (fun i hi=>?_)⟩
            by_cases e:i=j
            · subst e
              rw [if_pos rfl,if_pos (by omega),HF.out.2.2.2,List.getD_eq_getElem?_getD,HX.out]
              rfl
            · rw [if_neg e]
              by_cases e2:i < j
              · rw [if_pos e2,if_pos (by omega)]
              · rw [if_neg e2,if_neg (by omega)]
          case measure=>simp [intOf];omega
        · obtain rfl:j=ni:=by omega
          have t3:¬ (j:Int) < j:=by omega
          obtain ⟨S,hS1,hS2⟩:=hx.rl (by unfold maxLen;omega)
          rw [range_map HNI.out (fun x=>f x.toNat)] at hS2
          have hJ:=HJ.out.oth ho3
          have N2:Hid (Calls Tryz.prog 95 #[o.val,.slice bp np cp,.slice (some ⟨wo.heap.size + 1,0,none⟩) j j] wr fun e w'=>e = .returned (.tuple #[.int .i64 (cstN D f m),.int .i64 0])∧Oth [] wr w'):=opCost_any ⟨hJ.op,hJ.p,hS1⟩ (by rw [hS2];exact HCO.out)
          have r0:wr.cell? ⟨wo.heap.size,0,none⟩=some (.int .i64 o.kind):=by rw [World.cell?,hp];rfl
          have r1:wr.cell? ⟨wo.heap.size,1,none⟩=some (.int .i64 o.k):=by rw [World.cell?,hp];rfl
          have r2:wr.cell? ⟨wo.heap.size,2,none⟩=some (.int .i64 o.width):=by rw [World.cell?,hp];rfl
          have r3:wr.cell? ⟨wo.heap.size,3,none⟩=some (.int .i64 o.step):=by rw [World.cell?,hp];rfl
          have r4:wr.cell? ⟨wo.heap.size,4,none⟩=some (.int .i64 o.side):=by rw [World.cell?,hp];rfl
          have r5:wr.cell? ⟨wo.heap.size,5,none⟩=some (.int .i64 o.fr):=by rw [World.cell?,hp];rfl
          have r6:wr.cell? ⟨wo.heap.size,6,none⟩=some (.int .i64 o.to):=by rw [World.cell?,hp];rfl
          have r7:wr.cell? ⟨wo.heap.size,7,none⟩=some (.slice o.b o.n o.c):=by rw [World.cell?,hp];rfl
          have r9:wr.cell? ⟨wo.heap.size,9,none⟩=some (.slice bp np cp):=by rw [World.cell?,hp];rfl
          have r10:=World.block_lt_of_cell? _ _ r0
          simp only at r10
          unfold OpD.val at N2
          have hrow:=HK.out.2.oth ho2 (by simp)
          have HF:=Lib.hid (And.intro ho2 hrow)
          obtain ⟨C,hC⟩:∃ C,C=cstN D f m:=⟨_,rfl⟩
          rw [← hC] at N2
          have HC:=Lib.hid hC
          have t6:(m:Int) + 1 < (D.n:Int) + 1:=by omega
          clear ho ho2 ho3 hx hrow hJ hS1 hS2 hp hshr hC
          go_wp2_with (go_at_call 95;(with_reducible refine N2.out.mono ?_);rintro e w9 ⟨rfl,ho9⟩;have hs9:=HF.out.2.oth ho9 (by simp);have v1:=hs9.at_ (i:=m + 1) (by omega);have v2:=hs9.free (m + 1);have v3:=hs9.lt;replace hs9:=Lib.hid hs9;replace ho9:=Lib.hid ho9)
          go_roundw
          case rel=>
            refine ⟨m + 1,by omega,by go_num,((HK.out.1.trans HF.out.1 (Fr.nil _ _)).trans ho9.out (Fr.nil _ _)).setCell (.inr (Nat.le_refl _)) _,(hs9.out.set (m + 1) C).ext (fun i hi=>?_)⟩
            unfold cosF
            by_cases e:i=m + 1
            · subst e
              rw [if_pos rfl,if_pos (by omega),HC.out,Nat.add_sub_cancel]
            · rw [if_neg e]
              by_cases e2:1≤i∧i≤m
              · rw [if_pos e2,if_pos (by omega)]
              · rw [if_neg e2,if_neg (by omega)]
          case measure=>simp [intOf];omega
    · obtain rfl:m=D.n:=by omega
      have t1:¬ (D.n:Int) < (D.n:Int):=by omega
      have hri:=nms_ri hrow (fun i hi=>HCB.out D.n i (Nat.le_refl _))
      have hsum:=smI_bound (B:=4294967296) ((List.range (D.n + 1)).map (cosF D f D.n)) (fun x hx=>by
        obtain ⟨i,-,rfl⟩:=List.mem_map.1 hx
        exact HCB.out D.n i (Nat.le_refl _))
      rw [List.length_map,List.length_range] at hsum
      have hsa:=sadd_any hri (fun x hx=>by
        obtain ⟨i,-,rfl⟩:=List.mem_map.1 hx
        have:=HCB.out D.n i (Nat.le_refl _)
        omega)
      rw [decide_eq_true (by omega)] at hsa
      obtain ⟨T,hT⟩:∃ T,T=smI ((List.range (D.n + 1)).map (cosF D f D.n)):=⟨_,rfl⟩
      rw [← hT] at hsa
      have NA:Hid (Calls Tryz.prog 96 #[.slice (some ⟨w2.heap.size,0,none⟩) (D.n + 1) (D.n + 1)] wo fun e w'=>e = .returned (.tuple #[.int .i64 T,.int .i64 0])∧Oth [] wo w'):=hsa
      have HF:=Lib.hid (And.intro ho hrow)
      have HP3:=Lib.hid p3
      have HP0:=Lib.hid p0
      clear ho hrow hri hsum hsa hT p0 p3
      go_wp2_with (go_at_call 96;(with_reducible refine NA.out.mono ?_);rintro e w5 ⟨rfl,ho5⟩;have q3:=ho5.heap HP3.out (by simp);obtain ⟨z0,z1,z2,z3,z4⟩:=three_cells q3;replace q3:=Lib.hid q3;replace ho5:=Lib.hid ho5)
      refine bodyPost_ret (res_cell_tmp rfl _ _ (w.heap.size + 1) 115 #[.slice (some ⟨g2,0,none⟩) (D.n + 1) (D.n + 1),.slice (some ⟨w2.heap.size,0,none⟩) (D.n + 1) (D.n + 1),.int .i64 T] (0,0) _ rfl (three_set q3.out) Tryz.underlying115 rfl (by kernel_rfl)) rfl ⟨?_,?_⟩
      · have hoS:Oth [w.heap.size + 1] w5 (((w5.setCell ⟨w.heap.size + 1,0,none⟩ (.slice (some ⟨g2,0,none⟩) (D.n + 1) (D.n + 1))).setCell ⟨w.heap.size + 1,1,none⟩ (.slice (some ⟨w2.heap.size,0,none⟩) (D.n + 1) (D.n + 1))).setCell ⟨w.heap.size + 1,2,none⟩ (.int .i64 T)):=
          (((Oth.refl _ _).setCell (.inl (by simp)) _).setCell (.inl (by simp)) _).setCell (.inl (by simp)) _
        exact ⟨g2,w2.heap.size,T,rfl,by omega,by omega,((hws.out.oth HF.out.1 (by simp)).oth ho5.out (by simp)).oth hoS (by simp;omega),(HF.out.2.oth ho5.out (by simp)).oth hoS (by simp;omega)⟩
      · exact three_oth (HP0.out.trans ho5.out (Fr.nil _ _)) (by omega)
theorem price_conts {O:List Int} {f:Nat→List Int} {l:Nat} (hs:NetS D) (hl:D.look=some (O,f,l)) (hc:ChS D o π f):PriC D o (wsF D o f) (csF D o f):=by
  intro w hr
  refine (price_any hs hr hl hc).mono ?_
  rintro e w' ⟨⟨gw,gc,T,rfl,h1,h2,h3,h4⟩,h5⟩
  refine ⟨gw,gc,T,rfl,h5,h1,h2,h3.lt,h4.lt,fun p hp=>?_,fun p hp=>?_⟩
  · have h6:=hc.c.pm.op p hp
    have h7:=shB_prd (hc.right h6.1)
    have h8:=h3.at_ (i:=o p) (by omega)
    rw [h8,wsF_at hp]
    congr 2;omega
  · have h6:=hc.c.pm.op (p + 1) (by omega)
    have h7:=hc.c.pm.opos (p:=p + 1) (by omega) (by omega)
    have h8:=h4.at_ (i:=o (p + 1)) (by omega)
    have h9:=hc.cb (i:=o (p + 1) - 1) (by omega)
    have h10:cosF D f D.n (o (p + 1))=cstN D f (o (p + 1) - 1):=by unfold cosF;rw [if_pos (by omega)]
    rw [h8,h10,csF_at hp]
    congr 2;omega
end
end Go.Proofs.YtnpdcjdmbkcpbaaGreat.Ins
namespace Go.Proofs.YtnpdcjdmbkcpbaaGreat.Ins
open Go.RowKit Go
end Go.Proofs.YtnpdcjdmbkcpbaaGreat.Ins
namespace Go.Proofs.YtnpdcjdmbkcpbaaGreat.Ev
open Go
def pureRun {α:Type}:Sem α→Option α
  | .pure a=>some a
  | _=>none
inductive T (α:Type) where
  | lf
  | nd (v:Option α) (l r:T α)
inductive Ob where
  | cells (vs:List Value) (t:TypeId)
  | map (es:List (Value × Value))
structure St where
  heap:T Ob
  next:Nat
def U:Nat:=9223372036854775808
abbrev Tm:=List (Nat × Value)
section
variable {α:Type}
noncomputable def forceN (n:Nat) (f:Nat→Option α):Option α:=@Nat.casesOn (fun _=>Option α) n (f 0) fun m=>f (Nat.succ m)
noncomputable def forceI (n:Int) (f:Int→Option α):Option α:=@Int.casesOn (fun _=>Option α) n (fun a=>forceN a fun a=>f (Int.ofNat a)) (fun a=>forceN a fun a=>f (Int.negSucc a))
noncomputable def forceB (b:Bool) (f:Bool→Option α):Option α:=@Bool.casesOn (fun _=>Option α) b (f false) (f true)
noncomputable def listK {β:Type} (a:Array β) (f:List β→Option α):Option α:=@Array.casesOn β (fun _=>Option α) a f
noncomputable def appK {β:Type} (l r:List β) (f:List β→Option α):Option α:=@List.rec β (fun _=>(List β→Option α)→Option α) (fun f=>f r) (fun v _ ih f=>ih fun t=>f (v :: t)) l f
noncomputable def atK (l:Tm) (k:Nat) (f:Value→Option α):Option α:=
  @List.rec (Nat × Value) (fun _=>Option α) none (fun p _ ih=>(@Bool.rec (fun _=>Option α) (ih) (f p.2) (Nat.beq p.1 k))) l
noncomputable def getK {β:Type} (t:T β):Nat→(β→Option α)→Option α:=
  @T.rec β (fun _=>Nat→(β→Option α)→Option α) (fun _ _=>none)
    (fun v _ _ gl gr k f=>(@Bool.rec (fun _=>Option α) ((@Bool.rec (fun _=>Option α) (gl (Nat.shiftRight k 1) f) (gr (Nat.shiftRight (Nat.sub k 1) 1) f) (Nat.beq (Nat.land k 1) 0))) (@Option.rec β (fun _=>Option α) none f v) (Nat.beq k 0))) t
noncomputable def setK {β:Type} (x:Option β) (n:Nat):T β→Nat→(T β→Option α)→Option α:=
  @Nat.rec (fun _=>T β→Nat→(T β→Option α)→Option α) (fun t _ f=>f t)
    (fun _ ih t k f=>@T.casesOn β (fun _=>Option α) t
      (@Bool.rec (fun _=>Option α) ((@Bool.rec (fun _=>Option α) (ih .lf (Nat.shiftRight k 1) fun l=>f (.nd none l .lf)) (ih .lf (Nat.shiftRight (Nat.sub k 1) 1) fun r=>f (.nd none .lf r)) (Nat.beq (Nat.land k 1) 0))) (f (.nd x .lf .lf)) (Nat.beq k 0))
      (fun v l r=>(@Bool.rec (fun _=>Option α) ((@Bool.rec (fun _=>Option α) (ih l (Nat.shiftRight k 1) fun l=>f (.nd v l r)) (ih r (Nat.shiftRight (Nat.sub k 1) 1) fun r=>f (.nd v l r)) (Nat.beq (Nat.land k 1) 0))) (f (.nd x l r)) (Nat.beq k 0)))) n
noncomputable def putS (s:St) (i:Nat) (o:Ob) (f:St→Option α):Option α:=@St.casesOn (fun _=>Option α) s fun h n=>setK (some o) (Nat.succ i) h i fun h=>f ⟨h,n⟩
noncomputable def killS (s:St) (i:Nat) (f:St→Option α):Option α:=@St.casesOn (fun _=>Option α) s fun h n=>setK none (Nat.succ i) h i fun h=>f ⟨h,n⟩
noncomputable def newS (s:St) (o:Ob) (f:Nat→St→Option α):Option α:=@St.casesOn (fun _=>Option α) s fun h n=>setK (some o) (Nat.succ n) h n fun h=>forceN (Nat.succ n) fun m=>f n ⟨h,m⟩
noncomputable def nthK {β:Type} (l:List β):Nat→(β→Option α)→Option α:=
  @List.rec β (fun _=>Nat→(β→Option α)→Option α) (fun _ _=>none) (fun v _ ih n f=>(@Bool.rec (fun _=>Option α) (ih (Nat.sub n 1) f) (f v) (Nat.beq n 0))) l
noncomputable def dropK {β:Type} (l:List β):Nat→(List β→Option α)→Option α:=
  @List.rec β (fun _=>Nat→(List β→Option α)→Option α) (fun n f=>(@Bool.rec (fun _=>Option α) (none) (f []) (Nat.beq n 0))) (fun v l ih n f=>(@Bool.rec (fun _=>Option α) (ih (Nat.sub n 1) f) (f (v :: l)) (Nat.beq n 0))) l
noncomputable def takeK {β:Type} (l:List β):Nat→(List β→Option α)→Option α:=
  @List.rec β (fun _=>Nat→(List β→Option α)→Option α) (fun n f=>(@Bool.rec (fun _=>Option α) (none) (f []) (Nat.beq n 0))) (fun v _ ih n f=>(@Bool.rec (fun _=>Option α) (ih (Nat.sub n 1) fun r=>f (v :: r)) (f []) (Nat.beq n 0))) l
noncomputable def writeK (l:List Value):Nat→List Value→(List Value→Option α)→Option α:=
  @List.rec Value (fun _=>Nat→List Value→(List Value→Option α)→Option α)
    (fun n ys f=>@List.casesOn Value (fun _=>Option α) ys (@Bool.rec (fun _=>Option α) (none) (f []) (Nat.beq n 0)) (fun _ _=>none))
    (fun v l ih n ys f=>(@Bool.rec (fun _=>Option α) (ih (Nat.sub n 1) ys fun r=>f (v :: r)) (@List.casesOn Value (fun _=>Option α) ys (f (v :: l)) (fun y yt=>ih 0 yt fun r=>f (y :: r))) (Nat.beq n 0))) l
noncomputable def cellsK (s:St) (i:Nat) (f:List Value→TypeId→Option α):Option α:=
  @St.casesOn (fun _=>Option α) s fun h _=>getK h i fun ob=>@Ob.casesOn (fun _=>Option α) ob f (fun _=>none)
noncomputable def mapK (s:St) (i:Nat) (f:List (Value × Value)→Option α):Option α:=
  @St.casesOn (fun _=>Option α) s fun h _=>getK h i fun ob=>@Ob.casesOn (fun _=>Option α) ob (fun _ _=>none) f
noncomputable def readK (s:St) (i off n:Nat) (f:List Value→Option α):Option α:=
  cellsK s i fun vs _=>dropK vs off fun l=>takeK l n f
noncomputable def storeS (s:St) (i off:Nat) (ys:List Value) (f:St→Option α):Option α:=
  cellsK s i fun vs t=>writeK vs off ys fun l=>putS s i (.cells l t) f
noncomputable def intK (v:Value) (f:IntKind→Int→Option α):Option α:=(@Value.casesOn (fun _=>Option α) v (fun _=>none) (f) (fun _ _=>none) (fun _ _ _=>none) (fun _=>none) (fun _=>none) (fun _ _ _=>none) (fun _=>none) (fun _=>none) (fun _ _ _=>none) none (fun _ _=>none) none (fun _=>none) (fun _=>none))
noncomputable def natK (v:Value) (f:Nat→Option α):Option α:=intK v fun _ n=>@Int.casesOn (fun _=>Option α) n f (fun _=>none)
noncomputable def boolK (v:Value) (a b:Option α):Option α:=(@Value.casesOn (fun _=>Option α) v (fun c=>(@Bool.rec (fun _=>Option α) (b) (a) (c))) (fun _ _=>none) (fun _ _=>none) (fun _ _ _=>none) (fun _=>none) (fun _=>none) (fun _ _ _=>none) (fun _=>none) (fun _=>none) (fun _ _ _=>none) none (fun _ _=>none) none (fun _=>none) (fun _=>none))
noncomputable def ptrK (v:Value) (f:Addr→Option α):Option α:=(@Value.casesOn (fun _=>Option α) v (fun _=>none) (fun _ _=>none) (fun _ _=>none) (fun _ _ _=>none) (fun _=>none) (fun p=>@Option.casesOn Addr (fun _=>Option α) p none f) (fun _ _ _=>none) (fun _=>none) (fun _=>none) (fun _ _ _=>none) none (fun _ _=>none) none (fun _=>none) (fun _=>none))
noncomputable def slK (v:Value) (e:Option α) (f:Addr→Nat→Nat→Option α):Option α:=(@Value.casesOn (fun _=>Option α) v (fun _=>none) (fun _ _=>none) (fun _ _=>none) (fun _ _ _=>none) (fun _=>none) (fun _=>none) (fun p n c=>@Option.casesOn Addr (fun _=>Option α) p (@Bool.rec (fun _=>Option α) (none) ((@Bool.rec (fun _=>Option α) (none) (e) (Nat.beq c 0))) (Nat.beq n 0)) (fun a=>@Addr.casesOn (fun _=>Option α) a fun b o sp=>@Option.casesOn Nat (fun _=>Option α) sp (f ⟨b,o,none⟩ n c) (fun _=>none))) (fun _=>none) (fun _=>none) (fun _ _ _=>none) none (fun _ _=>none) none (fun _=>none) (fun _=>none))
noncomputable def slE (v:Value) (e:Option α) (f:Addr→Nat→Nat→Option α):Option α:=(@Value.casesOn (fun _=>Option α) v (fun _=>none) (fun _ _=>none) (fun _ _=>none) (fun _ _ _=>none) (fun _=>none) (fun _=>none) (fun p n c=>@Option.casesOn Addr (fun _=>Option α) p (@Bool.rec (fun _=>Option α) (none) ((@Bool.rec (fun _=>Option α) (none) (e) (Nat.beq c 0))) (Nat.beq n 0)) (fun a=>@Addr.casesOn (fun _=>Option α) a fun b o sp=>@Option.casesOn Nat (fun _=>Option α) sp (f ⟨b,o,none⟩ n c) (fun _=>(@Bool.rec (fun _=>Option α) (none) (e) (Nat.beq n 0))))) (fun _=>none) (fun _=>none) (fun _ _ _=>none) none (fun _ _=>none) none (fun _=>none) (fun _=>none))
def emptyV:Value:=.slice (some ⟨0,0,some 0⟩) 0 0
noncomputable def refK (v:Value) (f:Nat→Option α):Option α:=(@Value.casesOn (fun _=>Option α) v (fun _=>none) (fun _ _=>none) (fun _ _=>none) (fun _ _ _=>none) (fun _=>none) (fun _=>none) (fun _ _ _=>none) (fun p=>@Option.casesOn Nat (fun _=>Option α) p none f) (fun _=>none) (fun _ _ _=>none) none (fun _ _=>none) none (fun _=>none) (fun _=>none))
noncomputable def tupK (v:Value) (f:List Value→Option α):Option α:=(@Value.casesOn (fun _=>Option α) v (fun _=>none) (fun _ _=>none) (fun _ _=>none) (fun _ _ _=>none) (fun _=>none) (fun _=>none) (fun _ _ _=>none) (fun _=>none) (fun _=>none) (fun _ _ _=>none) none (fun _ _=>none) none (fun _=>none) (fun a=>listK a f))
noncomputable def funK (v:Value) (f:FuncId→List Value→Option α):Option α:=
  (@Value.casesOn (fun _=>Option α) v (fun _=>none) (fun _ _=>none) (fun _ _=>none) (fun _ _ _=>none) (fun _=>none) (fun _=>none) (fun _ _ _=>none) (fun _=>none) (fun _=>none) (fun fn first caps=>listK first fun l=>@List.casesOn Value (fun _=>Option α) l (@Fn.casesOn (fun _=>Option α) fn (fun g=>listK caps fun c=>f g c) (fun _=>none) (fun _ _=>none) (fun _ _ _ _=>none) (fun _=>none)) (fun _ _=>none)) none (fun _ _=>none) none (fun _=>none) (fun _=>none))
noncomputable def cellsV (v:Value) (f:List Value→Option α):Option α:=(@Value.casesOn (fun _=>Option α) v (fun _=>(f [v])) (fun _ _=>(f [v])) (fun _ _=>(f [v])) (fun _ _ _=>(f [v])) (fun _=>(f [v])) (fun _=>(f [v])) (fun _ _ _=>(f [v])) (fun _=>(f [v])) (fun _=>(f [v])) (fun _ _ _=>(f [v])) (f [v]) (fun _ _=>(f [v])) (f [v]) (fun a=>listK a f) (fun _=>none))
end
end Go.Proofs.YtnpdcjdmbkcpbaaGreat.Ev
