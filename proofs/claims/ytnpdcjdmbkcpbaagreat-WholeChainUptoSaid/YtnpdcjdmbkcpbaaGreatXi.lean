/- The walk of conv.Shape. The walk of Op.Shape. The lowering of package roots in memory; the walks of add, many, compute, drop. No condition. -/
import Derived.Test.YtnpdcjdmbkcpbaaGreatXg
import Derived.BigQuiet
import Derived.Test.YtnpdcjdmbkcpbaaGreatXh
set_option linter.unusedVariables false
set_option linter.unusedSimpArgs false
namespace Go.Proofs.YtnpdcjdmbkcpbaaGreat.Ins
open Go.RowKit
def cvS (w x:List Int) (step:Int):Nat→Option (List Int)
  | 0=>some []
  | m + 1=>match cvS w x step m with
    | none=>none
    | some l=>match windowB (x.getD (m + 1) 0) (w.getD (m + 2) 0) step with
      | none=>none
      | some y=>some (l ++ [y])
def convB (w x:List Int) (step:Int):Option (List Int):=
  if shB w=true∧shB x=true∧(2≤x.length∧x.length≤3)∧w.length=x.length + 1∧w.getD 1 0=x.getD 0 0 then
    match cvS w x step (x.length - 1) with
    | none=>none
    | some l=>if shB (w.getD 0 0 :: l)=true then some (w.getD 0 0 :: l) else none
  else none
theorem cvS_side {w x:List Int} {step:Int}:∀ m l,cvS w x step m=some l→l.length=m∧∀ k,k∈l→1≤k∧k≤1024
  | 0,l,h=>by simp only [cvS,Option.some.injEq] at h;subst h;simp
  | m + 1,l,h=>by
    rw [cvS] at h
    cases h1:cvS w x step m with
    | none=>rw [h1] at h;simp at h
    | some l1=>
      rw [h1] at h
      simp only at h
      cases h2:windowB (x.getD (m + 1) 0) (w.getD (m + 2) 0) step with
      | none=>rw [h2] at h;simp at h
      | some y=>
        rw [h2] at h
        simp only [Option.some.injEq] at h
        obtain ⟨k1,k2⟩:=cvS_side m l1 h1
        subst h
        refine ⟨by simp [k1],fun k hk=>?_⟩
        rcases List.mem_append.1 hk with h3 | h3
        · exact k2 k h3
        · rw [List.mem_singleton] at h3;rw [h3];exact window_side h2
theorem cvS_none {w x:List Int} {step:Int} {m:Nat} (h:cvS w x step m=none):∀ d,cvS w x step (m + d)=none
  | 0=>h
  | d + 1=>by rw [← Nat.add_assoc,cvS,cvS_none h d]
section
variable {w:World}
set_option maxRecDepth 100000 in
set_option maxHeartbeats 4000000 in
theorem conv_any {b1 b2:Option Addr} {n1 c1 n2 c2:Nat} {l1 l2:List Int} (h1:RI b1 n1 c1 l1 w) (h2:RI b2 n2 c2 l2 w) (step:Int) :
    Calls Tryz.prog 156 #[.slice b1 n1 c1,.slice b2 n2 c2,.int .i64 step] w fun e w'=>ShR (convB l1 l2 step) e w'∧Oth [] w w':=by
  have N1:=Lib.hid (shRight_any h1)
  have N2:Hid (∀ w',Oth [] w w'→Calls Tryz.prog 54 #[.slice b2 n2 c2] w' fun e w2=>e = .returned (.bool (shB l2))∧Oth [] w' w2):=fun w' ho=>shRight_any (h2.oth ho)
  by_cases s1:shB l1=true
  · rw [s1] at N1
    by_cases s2:shB l2=true
    · rw [s2] at N2
      have k1:=shB_len s1
      have k2:=shB_len s2
      have e1:=h1.len
      have e2:=h2.len
      obtain ⟨g1,o1,rfl,-,lt1,r1⟩:=ri_opened h1 (by omega)
      obtain ⟨g2,o2,rfl,-,lt2,r2⟩:=ri_opened h2 (by omega)
      by_cases q1:2≤n2∧n2≤3
      · by_cases q2:n1=n2 + 1
        · subst q2
          have v0:=r1 0 (by omega)
          have v1:=r1 1 (by omega)
          have u0:=r2 0 (by omega)
          rw [Nat.add_zero] at v0 u0
          have hx0:=shB_side s1 (i:=0) (by omega)
          by_cases q3:l1.getD 1 0=l2.getD 0 0
          · have hc : convB l1 l2 step=match cvS l1 l2 step (n2 - 1) with
                | none=>none
                | some l=>if shB (l1.getD 0 0 :: l)=true then some (l1.getD 0 0 :: l) else none:=by
              rw [convB,if_pos ⟨s1,s2,by omega,by omega,q3⟩,e2]
            obtain ⟨R,hRR⟩:∃ R,R=convB l1 l2 step:=⟨_,rfl⟩
            rw [← hRR]
            rw [hc] at hRR
            replace hRR:=Lib.hid hRR
            obtain ⟨x,hx⟩:∃ x,x=l1.getD 1 0:=⟨_,rfl⟩
            obtain ⟨y,hy⟩:∃ y,y=l1.getD 0 0:=⟨_,rfl⟩
            rw [← hx] at v1 q3
            rw [← q3] at u0
            rw [← hy] at v0 hx0 hRR
            have V1:Hid (∀ i,i < n2 + 1→w.cell? ⟨g1,o1 + i,none⟩=some (.int .i64 (l1.getD i 0))):=r1
            have U1:Hid (∀ i,i < n2→w.cell? ⟨g2,o2 + i,none⟩=some (.int .i64 (l2.getD i 0))):=r2
            have HC1:Hid (n2≤c2):=h2.cap.1
            obtain ⟨i0,hi,hz0,hz1,hz2⟩:=info_parts' info3
            obtain ⟨N,hN⟩:∃ N,N=n2 - 1:=⟨_,rfl⟩
            obtain rfl:n2=N + 1:=by omega
            obtain ⟨D,rfl⟩:∃ D,c2=D + 1:=⟨c2 - 1,by have:=HC1.out;omega⟩
            rw [show N + 1 - 1=N by omega] at hRR
            have hDN:¬ D=0:=by have:=HC1.out;omega
            have t1:((((N + 1:Nat)):Int) < 2)=False:=eq_false (by omega)
            have t2:((3:Int) < (((N + 1:Nat)):Int))=False:=eq_false (by omega)
            have t1':((N:Int) + 1 < 2)=False:=eq_false (by omega)
            have t2':((3:Int) < (N:Int) + 1)=False:=eq_false (by omega)
            have t3:IntKind.i64.wrap ((N:Int) + 1 + 1)=(N:Int) + 1 + 1:=IntWalk.i64_in _ (by omega)
            have t5:(1:Int) < (N:Int) + 1 + 1:=by omega
            have t6:(0:Int) < (N:Int) + 1:=by omega
            have t7:(0:Int) < (N:Int) + 1 + 1:=by omega
            have hN3:N≤2:=by omega
            clear h1 h2 s1 s2 k1 k2 e1 e2 r1 r2 q1 hx hy hc hN q3
            go_enter Tryz.func156,Tryz.ntmps156
            go_wp2_with (first
              | (go_at_call 54;(with_reducible refine N1.out.mono ?_);rintro e w1 ⟨rfl,ho1⟩;replace ho1:=Lib.hid ho1;clear N1)
              | (go_at_call 54;(with_reducible refine (N2.out _ ho1.out).mono ?_);rintro e w2 ⟨rfl,ho2⟩;have ho3:=Lib.hid (ho1.out.trans ho2 (Fr.nil _ _));clear ho2;replace v1:=ho3.out.cell v1 (by simp);replace v0:=ho3.out.cell v0 (by simp);replace u0:=ho3.out.cell u0 (by simp);replace lt1:=World.block_lt_of_cell? _ _ v1;replace lt2:=World.block_lt_of_cell? _ _ u0))
            go_quiet (fail)
            go_wp2_with fail
            go_loopw [53,8] (fun x v wr=>∃ m:Nat,m≤N∧x = .int .i64 m∧∃ l,cvS l1 l2 step m=some l∧wr.ownsRow 0 3 1 v (m + 1) (ivl (y :: l))∧Oth [] w wr∧∀ k,v.ownBlock=some k→w.heap.size≤k) (fun x _ _=>N - (intOf x).toNat)
            case atStart=>
              refine ⟨0,by omega,rfl,[],rfl,?_,(ho3.out.drewN _).alloc _,fun k hk=>?_⟩
              · exact (row_of_list (xs:=[.int .i64 y]) (heap_alloc_new _ _) rfl (by show 1≤maxLen;decide)).owns
              · simp [Value.ownBlock] at hk
                subst hk
                exact ho3.out.size
            case round=>
              obtain ⟨m,hm,rfl,l,hl,hown,ho,hown2⟩:=hrel
              obtain ⟨hll,hls⟩:=cvS_side m l hl
              by_cases hlt:m < N
              · have t8:(m:Int) < N:=by omega
                have a1:=ho.cell (V1.out (m + 2) (by omega)) (by simp)
                have a2:=ho.cell (U1.out (m + 1) (by omega)) (by simp)
                rw [show o2 + (m + 1)=o2 + 1 + m by omega] at a2
                have a3:=World.block_lt_of_cell? _ _ a1
                have a4:=World.block_lt_of_cell? _ _ a2
                have hnext:cvS l1 l2 step (m + 1)=match windowB (l2.getD (m + 1) 0) (l1.getD (m + 2) 0) step with
                    | none=>none
                    | some z=>some (l ++ [z]):=by rw [cvS,hl]
                obtain ⟨p,hp⟩:∃ p,p=l1.getD (m + 2) 0:=⟨_,rfl⟩
                obtain ⟨q,hq⟩:∃ q,q=l2.getD (m + 1) 0:=⟨_,rfl⟩
                rw [← hp] at a1 hnext
                rw [← hq] at a2 hnext
                have N3:Hid (∀ w',Calls Tryz.prog 197 #[.int .i64 q,.int .i64 p,.int .i64 step] w' fun e w2=>IntR (windowB q p step) e∧Oth [] w' w2):=fun w'=>window_any q p step
                have e1:IntKind.i64.wrap ((m:Int) + 1)=(m:Int) + 1:=IntWalk.i64_in _ (by omega)
                have e2:IntKind.i64.wrap ((m:Int) + 2)=(m:Int) + 2:=IntWalk.i64_in _ (by omega)
                have t9:(m:Int) + 2 < (N:Int) + 1 + 1:=by omega
                have HOWN:=Lib.hid hown
                have HOWN2:=Lib.hid hown2
                have HO:=Lib.hid ho
                have HNEXT:=Lib.hid hnext
                clear hp hq hown hown2 ho hnext hl hls
                obtain ⟨r,hr⟩:∃ r,r=windowB q p step:=⟨_,rfl⟩
                rw [← hr] at N3 HNEXT
                clear hr
                cases r with
                | none=>
                  go_wp2_with fail
                  go_at_call 197
                  (with_reducible refine (N3.out _).mono ?_)
                  rintro e w5 ⟨⟨k,hk,rfl⟩,ho5⟩
                  have HO5:=Lib.hid (HO.out.trans ho5 (Fr.nil _ _))
                  clear ho5
                  have hk':(k != 0)=true:=by simp [hk]
                  go_wp2_with fail
                  go_ret2
                  refine ⟨?_,HO5.out⟩
                  have h9:=cvS_none HNEXT.out (N - (m + 1))
                  rw [show m + 1 + (N - (m + 1))=N by omega] at h9
                  rw [hRR.out,h9]
                  exact ⟨k,hk,rfl⟩
                | some z=>
                  go_wp2_with fail
                  go_at_call 197
                  (with_reducible refine (N3.out _).mono ?_)
                  rintro e w5 ⟨he,ho5⟩
                  cases he
                  have HO5:=Lib.hid (HO.out.trans ho5 (Fr.nil _ _))
                  have HOWN5:=Lib.hid (Row.own HOWN.out ho5 (fun g hg=>by simp))
                  clear ho5
                  go_wp2_with (at_builtin;refine wpList_append_own_at _ rfl _ _ 23 rfl 0 3 i0 _ 1 8 Tryz.underlying23 hi hz0 hz1 hz2 rfl (by decide) u8 (m + 1) (ivl (y :: l)) rfl (HOWN5.out.alloc _) ⟨w5.heap.size,0,none⟩ 1 1 [.int .i64 z] rfl rfl ?a1 ?a2 ?a3 ?a4 ?a5 ?_)
                  case a1=>exact one_new _ _ _
                  case a2=>intro u hu;simp at hu;subst hu;rfl
                  case a3=>unfold maxLen;omega
                  case a4=>omega
                  case a5=>omega
                  intro v' w6 hown6 hgrow hx1 hx2
                  have ho6:Oth [] w w6:=(HO5.out.alloc _).grown hgrow (fun k hk=>.inr (HOWN2.out k hk))
                  have HF:Hid (w6.ownsRow 0 3 1 v' (m + 1 + 1) (ivl (y :: (l ++ [z])))∧Oth [] w w6∧∀ k,v'.ownBlock=some k→w.heap.size≤k):=by
                    refine ⟨by simpa [ivl] using hown6,ho6,fun k hk=>?_⟩
                    rcases hx2 with e | e
                    · exact HOWN2.out k (by rw [← e];exact hk)
                    · rw [e] at hk
                      simp at hk
                      subst hk
                      have:=HO5.out.size
                      omega
                  clear hown6 hgrow hx1 hx2 ho6
                  go_wp2_with fail
                  go_roundw
                  case rel=>exact ⟨m + 1,by omega,by go_num,l ++ [z],HNEXT.out,HF.out⟩
                  case measure=>simp [intOf];omega
              · obtain rfl:m=N:=by omega
                have t8:¬ (m:Int) < m:=by omega
                obtain ⟨g',c',rfl,_,hR⟩:=row_of_owns hown (by omega)
                have hri:RI (some ⟨g',0,none⟩) (m + 1) c' (y :: l) wr:=by
                  refine ri_row hR fun k hk=>?_
                  rcases List.mem_cons.1 hk with e | e
                  · rw [e];omega
                  · have:=hls k e;omega
                have N5:Hid (Calls Tryz.prog 54 #[.slice (some ⟨g',0,none⟩) (m + 1) c'] wr fun e w2=>e = .returned (.bool (shB (y :: l)))∧Oth [] wr w2):=shRight_any hri
                have HRI:=Lib.hid hri
                have HO:=Lib.hid ho
                replace hRR:Hid (R=if shB (y :: l)=true then some (y :: l) else none):=by
                  have h9:=hRR.out
                  rw [hl] at h9
                  exact h9
                clear hri ho hR hown hown2 hl hls
                obtain ⟨r,hr⟩:∃ r,r=shB (y :: l):=⟨_,rfl⟩
                rw [← hr] at N5 hRR
                clear hr
                cases r
                · go_wp2_with (go_at_call 54;(with_reducible refine N5.out.mono ?_);rintro e w9 ⟨rfl,ho9⟩;replace ho9:=Lib.hid ho9)
                  go_ret2
                  refine ⟨?_,HO.out.trans ho9.out (Fr.nil _ _)⟩
                  rw [hRR.out]
                  exact ⟨20,by decide,rfl⟩
                · go_wp2_with (go_at_call 54;(with_reducible refine N5.out.mono ?_);rintro e w9 ⟨rfl,ho9⟩;replace ho9:=Lib.hid ho9)
                  go_ret2
                  refine ⟨?_,HO.out.trans ho9.out (Fr.nil _ _)⟩
                  rw [hRR.out]
                  exact ⟨_,_,_,rfl,HRI.out.oth ho9.out⟩
          · have hc:convB l1 l2 step=none:=by rw [convB,if_neg (fun h=>q3 h.2.2.2.2)]
            rw [hc]
            obtain ⟨x,hx⟩:∃ x,x=l1.getD 1 0:=⟨_,rfl⟩
            obtain ⟨y,hy⟩:∃ y,y=l2.getD 0 0:=⟨_,rfl⟩
            rw [← hx] at v1 q3
            rw [← hy] at u0 q3
            have t1:((n2:Int) < 2)=False:=eq_false (by omega)
            have t2:((3:Int) < n2)=False:=eq_false (by omega)
            have t3:IntKind.i64.wrap ((n2:Int) + 1)=(n2:Int) + 1:=IntWalk.i64_in _ (by omega)
            have t4:(x != y)=true:=by simp [q3]
            have t5:(1:Int) < (n2:Int) + 1:=by omega
            have t6:(0:Int) < (n2:Int):=by omega
            clear h1 h2 s1 s2 k1 k2 e1 e2 r1 r2 q1 v0 hx hy hc hx0
            go_enter Tryz.func156,Tryz.ntmps156
            go_wp2_with (first
              | (go_at_call 54;(with_reducible refine N1.out.mono ?_);rintro e w1 ⟨rfl,ho1⟩;replace ho1:=Lib.hid ho1;clear N1)
              | (go_at_call 54;(with_reducible refine (N2.out _ ho1.out).mono ?_);rintro e w2 ⟨rfl,ho2⟩;have ho3:=Lib.hid (ho1.out.trans ho2 (Fr.nil _ _));clear ho2;replace v1:=ho3.out.cell v1 (by simp);replace u0:=ho3.out.cell u0 (by simp);replace lt1:=World.block_lt_of_cell? _ _ v1;replace lt2:=World.block_lt_of_cell? _ _ u0))
            go_quiet (fail)
            go_wp2_with fail
            go_ret2
            exact ⟨⟨20,by decide,rfl⟩,ho3.out.drewN _⟩
        · have hc:convB l1 l2 step=none:=by rw [convB,if_neg (fun h=>q2 (by have:=h.2.2.2.1;omega))]
          rw [hc]
          have t1:((n2:Int) < 2)=False:=eq_false (by omega)
          have t2:((3:Int) < n2)=False:=eq_false (by omega)
          have t3:IntKind.i64.wrap ((n2:Int) + 1)=(n2:Int) + 1:=IntWalk.i64_in _ (by omega)
          have t4:((n1:Int) != (n2:Int) + 1)=true:=by simp;omega
          clear h1 h2 s1 s2 k1 k2 e1 e2 r1 r2 q1 hc
          go_enter Tryz.func156,Tryz.ntmps156
          go_wp2_with (first
            | (go_at_call 54;(with_reducible refine N1.out.mono ?_);rintro e w1 ⟨rfl,ho1⟩;replace ho1:=Lib.hid ho1;clear N1)
            | (go_at_call 54;(with_reducible refine (N2.out _ ho1.out).mono ?_);rintro e w2 ⟨rfl,ho2⟩;have ho3:=Lib.hid (ho1.out.trans ho2 (Fr.nil _ _));clear ho2))
          go_quiet (fail)
          go_wp2_with fail
          go_ret2
          exact ⟨⟨20,by decide,rfl⟩,ho3.out.drewN _⟩
      · have hc:convB l1 l2 step=none:=by rw [convB,if_neg (fun h=>q1 (by have:=h.2.2.1;omega))]
        rw [hc]
        have hq:((n2:Int) < 2)=True∨(((n2:Int) < 2)=False∧((3:Int) < n2)=True):=by
          by_cases hh:(n2:Int) < 2
          · exact .inl (eq_true hh)
          · exact .inr ⟨eq_false hh,eq_true (by omega)⟩
        clear h1 h2 s1 s2 k1 k2 e1 e2 r1 r2 q1 hc
        rcases hq with u | ⟨u,u2⟩
        all_goals
          go_enter Tryz.func156,Tryz.ntmps156
          go_wp2_with (first
            | (go_at_call 54;(with_reducible refine N1.out.mono ?_);rintro e w1 ⟨rfl,ho1⟩;replace ho1:=Lib.hid ho1;clear N1)
            | (go_at_call 54;(with_reducible refine (N2.out _ ho1.out).mono ?_);rintro e w2 ⟨rfl,ho2⟩;have ho3:=Lib.hid (ho1.out.trans ho2 (Fr.nil _ _));clear ho2))
          go_quiet (fail)
          go_wp2_with fail
          go_ret2
          exact ⟨⟨20,by decide,rfl⟩,ho3.out.drewN _⟩
    · rw [show shB l2=false by simpa using s2] at N2
      rw [show convB l1 l2 step=none by rw [convB,if_neg (fun h=>s2 h.2.1)]]
      clear h1 h2 s1 s2
      go_enter Tryz.func156,Tryz.ntmps156
      go_wp2_with (first
        | (go_at_call 54;(with_reducible refine N1.out.mono ?_);rintro e w1 ⟨rfl,ho1⟩;replace ho1:=Lib.hid ho1;clear N1)
        | (go_at_call 54;(with_reducible refine (N2.out _ ho1.out).mono ?_);rintro e w2 ⟨rfl,ho2⟩;have ho3:=Lib.hid (ho1.out.trans ho2 (Fr.nil _ _));clear ho2))
      go_ret2
      exact ⟨⟨20,by decide,rfl⟩,ho3.out⟩
  · rw [show shB l1=false by simpa using s1] at N1
    rw [show convB l1 l2 step=none by rw [convB,if_neg (fun h=>s1 h.1)]]
    clear h1 h2 s1
    go_enter Tryz.func156,Tryz.ntmps156
    go_wp2_with (go_at_call 54;(with_reducible refine N1.out.mono ?_);rintro e w1 ⟨rfl,ho1⟩;replace ho1:=Lib.hid ho1;clear N1)
    go_ret2
    exact ⟨⟨20,by decide,rfl⟩,ho1.out⟩
end
end Go.Proofs.YtnpdcjdmbkcpbaaGreat.Ins
namespace Go.Proofs.YtnpdcjdmbkcpbaaGreat.Ins
open Go.RowKit
def ShT (r:Option (List Int)) (b:Option Addr) (n c:Nat) (k:Int) (w:World):Prop:=
  match r with
  | some l=>k=0∧RI b n c l w
  | none=>k≠0∧b=none∧n=0∧c=0
theorem shR_tuple {r:Option (List Int)} {e:Ending} {w:World} (h:ShR r e w):∃ b n c k,e = .returned (.tuple #[.slice b n c,.int .i64 k])∧ShT r b n c k w:=by
  cases r with
  | some l=>obtain ⟨b,n,c,h1,h2⟩:=h;exact ⟨b,n,c,0,h1,rfl,h2⟩
  | none=>obtain ⟨k,h1,h2⟩:=h;exact ⟨none,0,0,k,h2,h1,rfl,rfl,rfl⟩
theorem shR_of {r:Option (List Int)} {b:Option Addr} {n c:Nat} {k:Int} {w:World} (h:ShT r b n c k w):ShR r (.returned (.tuple #[.slice b n c,.int .i64 k])) w:=by
  cases r with
  | some l=>obtain ⟨rfl,h2⟩:=h;exact ⟨b,n,c,rfl,h2⟩
  | none=>obtain ⟨h1,rfl,rfl,rfl⟩:=h;exact ⟨k,h1,rfl⟩
def OpD.shape (o:OpD) (p x:List (List Int)):Option (List Int):=
  if o.counts p.length x.length≠0 then none
  else if p.all shB=false then none
  else if x.all shB=false then none
  else if o.kind=8 then denseB (p.getD 0 []) (p.getD 1 []) (x.getD 0 [])
  else if o.kind=9 then sameB [p.getD 0 [],x.getD 0 []]
  else if o.kind=10 then convB (p.getD 0 []) (x.getD 0 []) o.step
  else if o.kind=11∨o.kind=12 then poolB (x.getD 0 []) o.width o.step
  else if o.kind=13 then joinedL o.side x
  else if o.kind=14 then cutB (x.getD 0 []) o.side o.fr o.to
  else if o.kind=15 then turnedB (x.getD 0 []) o.s
  else sameB x
theorem counts_zero {o:OpD} {p x:Int} (h:o.counts p x=0):o.right=true∧(o.least≤x∧x≤o.most)∧p=o.params:=by
  unfold OpD.counts at h
  split at h
  · rename_i h1
    split at h
    · omega
    · rename_i h2
      exact ⟨h1,by omega,by omega⟩
  · omega
theorem right_kind {o:OpD} (h:o.right=true):1≤o.kind∧o.kind≤15:=by
  simp only [OpD.right,Bool.and_eq_true,decide_eq_true_eq] at h
  exact h.1
theorem least_one {o:OpD} (h:o.right=true):1≤o.least:=by
  have:=right_kind h
  unfold OpD.least pIns
  rw [if_pos h]
  split
  · split
    · omega
    · split <;> omega
  · omega
section
variable {w:World}
theorem rl_pair {w:World} {s t:Sh} (hs:s.R w) (ht:t.R w):RL (some ⟨w.heap.size,0,none⟩) 2 2 [s,t] (w.alloc (.cells #[s.val,t.val] 23)):=by
  have ho:Oth [] w (w.alloc (.cells #[s.val,t.val] 23)):=(Oth.refl _ _).alloc _
  have h:=heap_alloc_new w (.cells #[s.val,t.val] 23)
  refine ⟨rfl,by unfold maxLen;omega,fun i u hi=>⟨w.heap.size,0,rfl,?_⟩⟩
  match i,hi with
  | 0,hi=>cases hi;exact ⟨by rw [World.cell?,h];rfl,RI.oth hs ho⟩
  | 1,hi=>cases hi;exact ⟨by rw [World.cell?,h];rfl,RI.oth ht ho⟩
theorem shs_right {L:List Sh} (h:∀ i (s:Sh),i < L.length→L[i]?=some s→shB s.l=true):(L.map Sh.l).all shB=true:=by
  rw [List.all_eq_true]
  intro t ht
  obtain ⟨s,h1,rfl⟩:=List.mem_map.1 ht
  obtain ⟨i,h2⟩:=List.getElem?_of_mem h1
  exact h i s (List.getElem?_eq_some_iff.1 h2).1 h2
theorem shs_wrong {L:List Sh} {i:Nat} {s:Sh} (h1:L[i]?=some s) (h2:shB s.l=false):(L.map Sh.l).all shB=false:=by
  cases h:(L.map Sh.l).all shB with
  | false=>rfl
  | true=>
    rw [List.all_eq_true] at h
    have:=h s.l (List.mem_map.2 ⟨s,List.mem_of_getElem? h1,rfl⟩)
    rw [h2] at this;simp at this
theorem map_getD {L:List Sh} {i:Nat} {s:Sh} (h:L[i]?=some s):(L.map Sh.l).getD i []=s.l:=by
  rw [List.getD_eq_getElem?_getD,List.getElem?_map,h];rfl
theorem head_of {L:List Sh} {s:Sh} (h:L[0]?=some s):∃ T,L=s :: T:=by
  cases L with
  | nil=>simp at h
  | cons a T=>simp at h;subst h;exact ⟨T,rfl⟩
structure OpIn (o:OpD) (bp:Option Addr) (np cp:Nat) (P:List Sh) (bx:Option Addr) (nx cx:Nat) (X:List Sh) (w:World):Prop where
  o:o.R w
  p:RL bp np cp P w
  x:RL bx nx cx X w
theorem OpIn.oth {o:OpD} {bp:Option Addr} {np cp:Nat} {P:List Sh} {bx:Option Addr} {nx cx:Nat} {X:List Sh} {w w':World} (h:OpIn o bp np cp P bx nx cx X w) (ho:Oth [] w w'):OpIn o bp np cp P bx nx cx X w':=⟨h.o.oth ho,h.p.oth ho,h.x.oth ho⟩
theorem RL.get {b:Option Addr} {n c:Nat} {L:List Sh} {w:World} (h:RL b n c L w) {i:Nat} (hi:i < n):∃ g off s,b=some ⟨g,off,none⟩∧L[i]?=some s∧w.cell? ⟨g,off + i,none⟩=some (.slice s.b s.n s.c)∧RI s.b s.n s.c s.l w:=by
  have hl:i < L.length:=by rw [← h.len];exact hi
  obtain ⟨g,off,h1,h2,h3⟩:=h.at_ i _ (List.getElem?_eq_getElem hl)
  exact ⟨g,off,_,h1,List.getElem?_eq_getElem hl,h2,h3⟩
set_option maxRecDepth 100000 in
set_option maxHeartbeats 8000000 in
theorem opShape_any {o:OpD} {bp:Option Addr} {np cp:Nat} {P:List Sh} {bx:Option Addr} {nx cx:Nat} {X:List Sh} (h:OpIn o bp np cp P bx nx cx X w) :
    Calls Tryz.prog 112 #[o.val,.slice bp np cp,.slice bx nx cx] w fun e w'=>(∃ r,ShR r e w'∧r=o.shape (P.map Sh.l) (X.map Sh.l))∧Oth [] w w':=by
  have N1:Hid (∀ w',Oth [] w w'→Calls Tryz.prog 153 #[o.val,.int .i64 np,.int .i64 nx] w' fun e w2=>e = .returned (.int .i64 (o.counts np nx))∧Oth [] w' w2):=fun w' ho=>counts_any (h.o.oth ho) _ _
  have H:=Lib.hid h
  have HLN:Hid (np=P.length∧nx=X.length):=⟨h.p.len,h.x.len⟩
  have hcp:np≤9223372036854775807:=by have:=h.p.cap;unfold maxLen at this;omega
  have hcx:nx≤9223372036854775807:=by have:=h.x.cap;unfold maxLen at this;omega
  have HSH:o.shape (P.map Sh.l) (X.map Sh.l)=(if o.counts np nx≠0 then none
      else if (P.map Sh.l).all shB=false then none
      else if (X.map Sh.l).all shB=false then none
      else if o.kind=8 then denseB ((P.map Sh.l).getD 0 []) ((P.map Sh.l).getD 1 []) ((X.map Sh.l).getD 0 [])
      else if o.kind=9 then sameB [(P.map Sh.l).getD 0 [],(X.map Sh.l).getD 0 []]
      else if o.kind=10 then convB ((P.map Sh.l).getD 0 []) ((X.map Sh.l).getD 0 []) o.step
      else if o.kind=11∨o.kind=12 then poolB ((X.map Sh.l).getD 0 []) o.width o.step
      else if o.kind=13 then joinedL o.side (X.map Sh.l)
      else if o.kind=14 then cutB ((X.map Sh.l).getD 0 []) o.side o.fr o.to
      else if o.kind=15 then turnedB ((X.map Sh.l).getD 0 []) o.s
      else sameB (X.map Sh.l)):=by
    rw [OpD.shape,List.length_map,List.length_map,← h.p.len,← h.x.len]
  obtain ⟨R,hR⟩:∃ R,R=o.shape (P.map Sh.l) (X.map Sh.l):=⟨_,rfl⟩
  rw [← hR] at HSH ⊢
  clear hR
  replace HSH:=Lib.hid HSH
  have HCZ:Hid (o.counts np nx=0→o.right=true∧(o.least≤nx∧(nx:Int)≤o.most)∧(np:Int)=o.params):=counts_zero
  obtain ⟨C,hC⟩:∃ C,C=o.counts np nx:=⟨_,rfl⟩
  rw [← hC] at N1 HSH HCZ
  clear hC h
  have hv:∃ k1 k2 k3 k4 k5 k6 k7 b n c s,o=⟨k1,k2,k3,k4,k5,k6,k7,b,n,c,s⟩:=⟨_,_,_,_,_,_,_,_,_,_,_,rfl⟩
  obtain ⟨k1,k2,k3,k4,k5,k6,k7,b,n,c,s,ho⟩:=hv
  have HK:=Lib.hid (op_held w k1 k2 k3 k4 k5 k6 k7 b n c)
  have hval:o.val = .agg #[.int .i64 k1,.int .i64 k2,.int .i64 k3,.int .i64 k4,.int .i64 k5,.int .i64 k6,.int .i64 k7,.slice b n c]:=by rw [ho];rfl
  rw [hval] at N1 ⊢
  have HO:=Lib.hid ho
  clear ho hval
  by_cases hC0:C=0
  · subst hC0
    go_enter Tryz.func112,Tryz.ntmps112
    go_wp2_with (go_at_call 153;(with_reducible refine (N1.out _ ((Oth.refl [] w).alloc _)).mono ?_);rintro e w1 ⟨rfl,ho1⟩;replace ho1:=Lib.hid ho1)
    go_loopw [24] (fun x wr=>∃ m:Nat,m≤np∧x = .int .i64 m∧Oth [] (w.alloc (.cells #[.int .i64 k1,.int .i64 k2,.int .i64 k3,.int .i64 k4,.int .i64 k5,.int .i64 k6,.int .i64 k7,.slice b n c] 77)) wr∧∀ i (s:Sh),i < m→P[i]?=some s→shB s.l=true) (fun x _=>np - (intOf x).toNat)
    case atStart=>exact ⟨0,by omega,rfl,ho1.out,fun i s hi=>by omega⟩
    case round=>
      obtain ⟨m,hm,rfl,ho,hi⟩:=hrel
      by_cases hlt:m < np
      · have t1:(m:Int) < np:=by omega
        have how:Oth [] w wr:=((Oth.refl _ _).alloc _).trans ho (Fr.nil _ _)
        obtain ⟨g,off,s1,rfl,q1,q2,q3⟩:=(H.out.oth how).p.get hlt
        have q4:=World.block_lt_of_cell? _ _ q2
        have e1:IntKind.i64.wrap ((m:Int) + 1)=(m:Int) + 1:=IntWalk.i64_in _ (by omega)
        obtain ⟨sb,sn,sc,sl⟩:=s1
        dsimp only at q2 q3
        have N2:=Lib.hid (shRight_any q3)
        obtain ⟨r,hr⟩:∃ r,r=shB sl:=⟨_,rfl⟩
        rw [← hr] at N2
        have HI:=Lib.hid (And.intro q1 (And.intro hr (And.intro hi ho)))
        clear q1 hr hi ho how q3
        cases r
        · go_wp2_with (go_at_call 54;(with_reducible refine N2.out.mono ?_);rintro e w2 ⟨rfl,ho2⟩;replace ho2:=Lib.hid ho2)
          go_ret2
          refine ⟨⟨none,⟨20,by decide,rfl⟩,?_⟩,(((Oth.refl _ _).alloc _).trans HI.out.2.2.2 (Fr.nil _ _)).trans ho2.out (Fr.nil _ _)⟩
          rw [HSH.out,if_neg (by simp),if_pos (shs_wrong HI.out.1 HI.out.2.1.symm)]
        · go_wp2_with (go_at_call 54;(with_reducible refine N2.out.mono ?_);rintro e w2 ⟨rfl,ho2⟩;replace ho2:=Lib.hid ho2)
          go_roundw
          case rel=>
            refine ⟨m + 1,by omega,by go_num,HI.out.2.2.2.trans ho2.out (Fr.nil _ _),fun i s h1 h2=>?_⟩
            rcases Nat.lt_or_ge i m with h9 | h9
            · exact HI.out.2.2.1 i s h9 h2
            · obtain rfl:i=m:=by omega
              rw [HI.out.1] at h2
              cases h2
              exact HI.out.2.1.symm
          case measure=>simp [intOf];omega
      · obtain rfl:m=np:=by omega
        have t1:¬ (m:Int) < m:=by omega
        have HP1:Hid ((P.map Sh.l).all shB=true):=shs_right (by rw [← HLN.out.1];exact hi)
        have HO1:=Lib.hid ho
        clear ho hi ho1
        go_wp2_with fail
        go_loopw [34] (fun x wr=>∃ m:Nat,m≤nx∧x = .int .i64 m∧Oth [] (w.alloc (.cells #[.int .i64 k1,.int .i64 k2,.int .i64 k3,.int .i64 k4,.int .i64 k5,.int .i64 k6,.int .i64 k7,.slice b n c] 77)) wr∧∀ i (s:Sh),i < m→X[i]?=some s→shB s.l=true) (fun x _=>nx - (intOf x).toNat)
        case atStart=>exact ⟨0,by omega,rfl,HO1.out,fun i s hi=>by omega⟩
        case round=>
          obtain ⟨v,hm,rfl,ho,hi⟩:=hrel
          by_cases hlt:v < nx
          · have t1:(v:Int) < nx:=by omega
            have how:Oth [] w wr:=((Oth.refl _ _).alloc _).trans ho (Fr.nil _ _)
            obtain ⟨g,off,s1,rfl,q1,q2,q3⟩:=(H.out.oth how).x.get hlt
            have q4:=World.block_lt_of_cell? _ _ q2
            have e1:IntKind.i64.wrap ((v:Int) + 1)=(v:Int) + 1:=IntWalk.i64_in _ (by omega)
            obtain ⟨sb,sn,sc,sl⟩:=s1
            dsimp only at q2 q3
            have N2:=Lib.hid (shRight_any q3)
            obtain ⟨r,hr⟩:∃ r,r=shB sl:=⟨_,rfl⟩
            rw [← hr] at N2
            have HI:=Lib.hid (And.intro q1 (And.intro hr (And.intro hi ho)))
            clear q1 hr hi ho how q3
            cases r
            · go_wp2_with (go_at_call 54;(with_reducible refine N2.out.mono ?_);rintro e w2 ⟨rfl,ho2⟩;replace ho2:=Lib.hid ho2)
              go_ret2
              refine ⟨⟨none,⟨20,by decide,rfl⟩,?_⟩,(((Oth.refl _ _).alloc _).trans HI.out.2.2.2 (Fr.nil _ _)).trans ho2.out (Fr.nil _ _)⟩
              rw [HSH.out,if_neg (by simp),if_neg (by rw [HP1.out];simp),if_pos (shs_wrong HI.out.1 HI.out.2.1.symm)]
            · go_wp2_with (go_at_call 54;(with_reducible refine N2.out.mono ?_);rintro e w2 ⟨rfl,ho2⟩;replace ho2:=Lib.hid ho2)
              go_roundw
              case rel=>
                refine ⟨v + 1,by omega,by go_num,HI.out.2.2.2.trans ho2.out (Fr.nil _ _),fun i s h1 h2=>?_⟩
                rcases Nat.lt_or_ge i v with h9 | h9
                · exact HI.out.2.2.1 i s h9 h2
                · obtain rfl:i=v:=by omega
                  rw [HI.out.1] at h2
                  cases h2
                  exact HI.out.2.1.symm
              case measure=>simp [intOf];omega
          · obtain rfl:v=nx:=by omega
            have t1:¬ (v:Int) < v:=by omega
            have HX1:Hid ((X.map Sh.l).all shB=true):=shs_right (by rw [← HLN.out.2];exact hi)
            obtain ⟨p0,p1,p2,p3,p4,p5,p6,p7,p8⟩:=HK.out _ ho
            have HZ:=Lib.hid (H.out.oth p0)
            replace HSH:Hid (R=(if o.kind=8 then denseB ((P.map Sh.l).getD 0 []) ((P.map Sh.l).getD 1 []) ((X.map Sh.l).getD 0 [])
              else if o.kind=9 then sameB [(P.map Sh.l).getD 0 [],(X.map Sh.l).getD 0 []]
              else if o.kind=10 then convB ((P.map Sh.l).getD 0 []) ((X.map Sh.l).getD 0 []) o.step
              else if o.kind=11∨o.kind=12 then poolB ((X.map Sh.l).getD 0 []) o.width o.step
              else if o.kind=13 then joinedL o.side (X.map Sh.l)
              else if o.kind=14 then cutB ((X.map Sh.l).getD 0 []) o.side o.fr o.to
              else if o.kind=15 then turnedB ((X.map Sh.l).getD 0 []) o.s
              else sameB (X.map Sh.l))):=by
              have h9:=HSH.out
              rw [if_neg (by simp),if_neg (by rw [HP1.out];simp),if_neg (by rw [HX1.out];simp)] at h9
              exact h9
            clear ho hi HO1 H HK N1
            have ho9:=HO.out
            subst ho9
            dsimp only at HSH
            have hcz:=HCZ.out (by trivial)
            try dsimp only at hcz
            have hk:=right_kind hcz.1
            have hl1:=least_one hcz.1
            try dsimp only at hk
            obtain ⟨gx,offx,x0,rfl,xq,xa,xr⟩:=HZ.out.x.get (i:=0) (by omega)
            rw [Nat.add_zero] at xa
            have xl:=World.block_lt_of_cell? _ _ xa
            have hx4:=shB_len (show shB x0.l=true from by
              have h9:=HX1.out
              rw [List.all_eq_true] at h9
              exact h9 x0.l (List.mem_map.2 ⟨x0,List.mem_of_getElem? xq,rfl⟩))
            have hv0:(0:Int) < v:=by omega
            have hv0n:0 < v:=by omega
            by_cases e8:k1=8
            · subst e8
              have hnp:m=2:=by
                have:=hcz.2.2
                rw [OpD.params,if_pos hcz.1] at this
                simp at this;omega
              subst hnp
              obtain ⟨gp,op,y0,rfl,yq0,ya0,yr0⟩:=HZ.out.p.get (i:=0) (by omega)
              have yl0:=World.block_lt_of_cell? _ _ ya0
              obtain ⟨gp1,op1,y1,hbq,yq1,ya1,yr1⟩:=HZ.out.p.get (i:=1) (by omega)
              cases hbq
              have yl1:=World.block_lt_of_cell? _ _ ya1
              rw [Nat.add_zero] at ya0
              have HE:Hid (R=denseB y0.l y1.l x0.l):=by
                have h9:=HSH.out
                rw [map_getD xq,map_getD yq0,map_getD yq1] at h9
                have h8:R=denseB y0.l y1.l x0.l:=by simpa using h9
                exact h8
              have N9:Hid (∀ w',Oth [] wr w'→Calls Tryz.prog 154 #[.slice y0.b y0.n y0.c,.slice y1.b y1.n y1.c,.slice x0.b x0.n x0.c] w' fun e w2=>ShR (denseB y0.l y1.l x0.l) e w2∧Oth [] w' w2):=fun w' ho=>dense_any (yr0.oth ho) (yr1.oth ho) (xr.oth ho)
              obtain ⟨RR,hRR⟩:∃ RR,RR=denseB y0.l y1.l x0.l:=⟨_,rfl⟩
              rw [← hRR] at N9 HE
              clear hRR HSH HCZ hcz HZ HO xq xr yr0 yq0 yr1 yq1
              replace p0:=Lib.hid p0
              have KEEP:Hid (∀ w',Oth [] wr w'→Oth [] wr w'∧w'.cell? ⟨gp,op,none⟩=some (.slice y0.b y0.n y0.c)∧w'.cell? ⟨gp,op + 1,none⟩=some (.slice y1.b y1.n y1.c)∧w'.cell? ⟨gx,offx,none⟩=some (.slice x0.b x0.n x0.c)):=fun w' ho=>⟨ho,ho.cell ya0 (by simp),ho.cell ya1 (by simp),ho.cell xa (by simp)⟩
              go_wp2_with fail
              first | (go_region_held3 (fun w'=>Oth [] wr w'∧w'.cell? ⟨gp,op,none⟩=some (.slice y0.b y0.n y0.c)∧w'.cell? ⟨gp,op + 1,none⟩=some (.slice y1.b y1.n y1.c)∧w'.cell? ⟨gx,offx,none⟩=some (.slice x0.b x0.n x0.c)) (first | exact KEEP.out _ (Oth.refl _ _).drew | exact KEEP.out _ ((Oth.refl _ _).drew.trans ho9 (Fr.nil _ _))) (first | (go_at_call 154;(with_reducible refine (N9.out _ (Oth.refl _ _).drew).mono ?_);rintro e w' ⟨hr9,ho9⟩;obtain ⟨b9,n9,c9,k9,rfl,ht⟩:=shR_tuple hr9))) | fail
              go_wp2_with fail
              go_ret2
              rename_i hh
              exact ⟨⟨_,shR_of ht,HE.out.symm⟩,p0.out.trans hh.1 (Fr.nil _ _)⟩
            by_cases e9:k1=9
            · subst e9
              have hnp:m=1:=by
                have:=hcz.2.2
                rw [OpD.params,if_pos hcz.1] at this
                simp at this;omega
              subst hnp
              obtain ⟨gp,op,y0,rfl,yq0,ya0,yr0⟩:=HZ.out.p.get (i:=0) (by omega)
              have yl0:=World.block_lt_of_cell? _ _ ya0
              rw [Nat.add_zero] at ya0
              have hy4:=shB_len (show shB y0.l=true from by
                have h9:=HP1.out
                rw [List.all_eq_true] at h9
                exact h9 y0.l (List.mem_map.2 ⟨y0,List.mem_of_getElem? yq0,rfl⟩))
              have HE:Hid (R=sameB [y0.l,x0.l]):=by
                have h9:=HSH.out
                rw [map_getD xq,map_getD yq0] at h9
                have h8:R=sameB [y0.l,x0.l]:=by simpa using h9
                exact h8
              have N9:Hid (∀ w',Oth [] (wr.alloc (.cells #[.slice y0.b y0.n y0.c,.slice x0.b x0.n x0.c] 23)) w'→Calls Tryz.prog 155 #[.slice (some ⟨wr.heap.size,0,none⟩) 2 2] w' fun e w2=>ShR (sameB [y0.l,x0.l]) e w2∧Oth [] w' w2):=
                fun w' ho=>same_any ((rl_pair (s:=y0) (t:=x0) yr0 xr).oth ho) (by omega)
              obtain ⟨RR,hRR⟩:∃ RR,RR=sameB [y0.l,x0.l]:=⟨_,rfl⟩
              rw [← hRR] at N9 HE
              clear hRR HSH HCZ hcz HZ HO xq xr yr0 yq0
              replace p0:=Lib.hid p0
              have KEEP:Hid (∀ w',Oth [] wr w'→Oth [] wr w'∧w'.cell? ⟨gp,op,none⟩=some (.slice y0.b y0.n y0.c)∧w'.cell? ⟨gx,offx,none⟩=some (.slice x0.b x0.n x0.c)):=fun w' ho=>⟨ho,ho.cell ya0 (by simp),ho.cell xa (by simp)⟩
              go_wp2_with fail
              first | (go_region_held3 (fun w'=>Oth [] wr w'∧w'.cell? ⟨gp,op,none⟩=some (.slice y0.b y0.n y0.c)∧w'.cell? ⟨gx,offx,none⟩=some (.slice x0.b x0.n x0.c)) (first | exact KEEP.out _ (Oth.refl _ _).drew | exact KEEP.out _ ((Oth.refl _ _).alloc _).drew | exact KEEP.out _ (((Oth.refl _ _).alloc _).drew.trans ho9 (Fr.nil _ _))) (first | (go_at_call 155;(with_reducible refine (N9.out _ (Oth.refl _ _).drew).mono ?_);rintro e w' ⟨hr9,ho9⟩;obtain ⟨b9,n9,c9,k9,rfl,ht⟩:=shR_tuple hr9))) | fail
              go_wp2_with fail
              go_ret2
              rename_i hh
              exact ⟨⟨_,shR_of ht,HE.out.symm⟩,p0.out.trans hh.1 (Fr.nil _ _)⟩
            by_cases e10:k1=10
            · subst e10
              have hnp:m=1:=by
                have:=hcz.2.2
                rw [OpD.params,if_pos hcz.1] at this
                simp at this;omega
              subst hnp
              obtain ⟨gp,op,y0,rfl,yq0,ya0,yr0⟩:=HZ.out.p.get (i:=0) (by omega)
              have yl0:=World.block_lt_of_cell? _ _ ya0
              rw [Nat.add_zero] at ya0
              have HE:Hid (R=convB y0.l x0.l k4):=by
                have h9:=HSH.out
                rw [map_getD xq,map_getD yq0] at h9
                have h8:R=convB y0.l x0.l k4:=by simpa using h9
                exact h8
              have N9:Hid (∀ w',Oth [] wr w'→Calls Tryz.prog 156 #[.slice y0.b y0.n y0.c,.slice x0.b x0.n x0.c,.int .i64 k4] w' fun e w2=>ShR (convB y0.l x0.l k4) e w2∧Oth [] w' w2):=fun w' ho=>conv_any (yr0.oth ho) (xr.oth ho) k4
              obtain ⟨RR,hRR⟩:∃ RR,RR=convB y0.l x0.l k4:=⟨_,rfl⟩
              rw [← hRR] at N9 HE
              clear hRR HSH HCZ hcz HZ HO xq xr yr0 yq0
              replace p0:=Lib.hid p0
              have KEEP:Hid (∀ w',Oth [] wr w'→Oth [] wr w'∧w'.cell? ⟨gp,op,none⟩=some (.slice y0.b y0.n y0.c)∧w'.cell? ⟨gx,offx,none⟩=some (.slice x0.b x0.n x0.c)∧w'.cell? ⟨w.heap.size,3,none⟩=some (.int .i64 k4)):=fun w' ho=>⟨ho,ho.cell ya0 (by simp),ho.cell xa (by simp),ho.cell p4 (by simp)⟩
              go_wp2_with fail
              first | (go_region_held3 (fun w'=>Oth [] wr w'∧w'.cell? ⟨gp,op,none⟩=some (.slice y0.b y0.n y0.c)∧w'.cell? ⟨gx,offx,none⟩=some (.slice x0.b x0.n x0.c)∧w'.cell? ⟨w.heap.size,3,none⟩=some (.int .i64 k4)) (first | exact KEEP.out _ (Oth.refl _ _).drew | exact KEEP.out _ ((Oth.refl _ _).drew.trans ho9 (Fr.nil _ _))) (first | (go_at_call 156;(with_reducible refine (N9.out _ (Oth.refl _ _).drew).mono ?_);rintro e w' ⟨hr9,ho9⟩;obtain ⟨b9,n9,c9,k9,rfl,ht⟩:=shR_tuple hr9))) | fail
              go_wp2_with fail
              go_ret2
              rename_i hh
              exact ⟨⟨_,shR_of ht,HE.out.symm⟩,p0.out.trans hh.1 (Fr.nil _ _)⟩
            by_cases e11:k1=11
            · subst e11
              have HE:Hid (R=poolB x0.l k3 k4):=by
                have h9:=HSH.out
                rw [map_getD xq] at h9
                have h8:R=poolB x0.l k3 k4:=by simpa using h9
                exact h8
              have N9:Hid (∀ w',Oth [] wr w'→Calls Tryz.prog 157 #[.slice x0.b x0.n x0.c,.int .i64 k3,.int .i64 k4] w' fun e w2=>ShR (poolB x0.l k3 k4) e w2∧Oth [] w' w2):=fun w' ho=>pool_any (xr.oth ho) k3 k4
              obtain ⟨RR,hRR⟩:∃ RR,RR=poolB x0.l k3 k4:=⟨_,rfl⟩
              rw [← hRR] at N9 HE
              clear hRR HSH HCZ hcz HZ HO xq xr
              replace p0:=Lib.hid p0
              have KEEP:Hid (∀ w',Oth [] wr w'→Oth [] wr w'∧w'.cell? ⟨gx,offx,none⟩=some (.slice x0.b x0.n x0.c)∧w'.cell? ⟨w.heap.size,2,none⟩=some (.int .i64 k3)∧w'.cell? ⟨w.heap.size,3,none⟩=some (.int .i64 k4)):=fun w' ho=>⟨ho,ho.cell xa (by simp),ho.cell p3 (by simp),ho.cell p4 (by simp)⟩
              go_wp2_with fail
              first | (go_region_held3 (fun w'=>Oth [] wr w'∧w'.cell? ⟨gx,offx,none⟩=some (.slice x0.b x0.n x0.c)∧w'.cell? ⟨w.heap.size,2,none⟩=some (.int .i64 k3)∧w'.cell? ⟨w.heap.size,3,none⟩=some (.int .i64 k4)) (first | exact KEEP.out _ (Oth.refl _ _).drew | exact KEEP.out _ ((Oth.refl _ _).drew.trans ho9 (Fr.nil _ _))) (first | (go_at_call 157;(with_reducible refine (N9.out _ (Oth.refl _ _).drew).mono ?_);rintro e w' ⟨hr9,ho9⟩;obtain ⟨b9,n9,c9,k9,rfl,ht⟩:=shR_tuple hr9))) | fail
              go_wp2_with fail
              go_ret2
              rename_i hh
              exact ⟨⟨_,shR_of ht,HE.out.symm⟩,p0.out.trans hh.1 (Fr.nil _ _)⟩
            by_cases e12:k1=12
            · subst e12
              have HE:Hid (R=poolB x0.l k3 k4):=by
                have h9:=HSH.out
                rw [map_getD xq] at h9
                have h8:R=poolB x0.l k3 k4:=by simpa using h9
                exact h8
              have N9:Hid (∀ w',Oth [] wr w'→Calls Tryz.prog 157 #[.slice x0.b x0.n x0.c,.int .i64 k3,.int .i64 k4] w' fun e w2=>ShR (poolB x0.l k3 k4) e w2∧Oth [] w' w2):=fun w' ho=>pool_any (xr.oth ho) k3 k4
              obtain ⟨RR,hRR⟩:∃ RR,RR=poolB x0.l k3 k4:=⟨_,rfl⟩
              rw [← hRR] at N9 HE
              clear hRR HSH HCZ hcz HZ HO xq xr
              replace p0:=Lib.hid p0
              have KEEP:Hid (∀ w',Oth [] wr w'→Oth [] wr w'∧w'.cell? ⟨gx,offx,none⟩=some (.slice x0.b x0.n x0.c)∧w'.cell? ⟨w.heap.size,2,none⟩=some (.int .i64 k3)∧w'.cell? ⟨w.heap.size,3,none⟩=some (.int .i64 k4)):=fun w' ho=>⟨ho,ho.cell xa (by simp),ho.cell p3 (by simp),ho.cell p4 (by simp)⟩
              go_wp2_with fail
              first | (go_region_held3 (fun w'=>Oth [] wr w'∧w'.cell? ⟨gx,offx,none⟩=some (.slice x0.b x0.n x0.c)∧w'.cell? ⟨w.heap.size,2,none⟩=some (.int .i64 k3)∧w'.cell? ⟨w.heap.size,3,none⟩=some (.int .i64 k4)) (first | exact KEEP.out _ (Oth.refl _ _).drew | exact KEEP.out _ ((Oth.refl _ _).drew.trans ho9 (Fr.nil _ _))) (first | (go_at_call 157;(with_reducible refine (N9.out _ (Oth.refl _ _).drew).mono ?_);rintro e w' ⟨hr9,ho9⟩;obtain ⟨b9,n9,c9,k9,rfl,ht⟩:=shR_tuple hr9))) | fail
              go_wp2_with fail
              go_ret2
              rename_i hh
              exact ⟨⟨_,shR_of ht,HE.out.symm⟩,p0.out.trans hh.1 (Fr.nil _ _)⟩
            obtain ⟨T,hT⟩:=head_of xq
            by_cases e13:k1=13
            · subst e13
              have HE:Hid (R=joinedL k5 ((x0 :: T).map Sh.l)):=by
                have h9:=HSH.out
                rw [hT] at h9
                have h8:R=joinedL k5 ((x0 :: T).map Sh.l):=by simpa using h9
                exact h8
              have N9:Hid (∀ w',Oth [] wr w'→Calls Tryz.prog 158 #[.int .i64 k5,.slice (some ⟨gx,offx,none⟩) v cx] w' fun e w2=>ShR (joinedL k5 ((x0 :: T).map Sh.l)) e w2∧Oth [] w' w2):=fun w' ho=>joined_any (by have:=HZ.out.x.oth ho;rw [hT] at this;exact this) (by omega) k5
              obtain ⟨RR,hRR⟩:∃ RR,RR=joinedL k5 ((x0 :: T).map Sh.l):=⟨_,rfl⟩
              rw [← hRR] at N9 HE
              clear hRR HSH HCZ hcz HZ HO xq xr hT
              replace p0:=Lib.hid p0
              go_wp2_with (go_at_call 158;(with_reducible refine (N9.out _ (Oth.refl _ _)).mono ?_);rintro e w9 ⟨hr9,ho9⟩;obtain ⟨b9,n9,c9,k9,rfl,ht⟩:=shR_tuple hr9;replace ht:=Lib.hid ht;replace ho9:=Lib.hid (p0.out.trans ho9 (Fr.nil _ _));clear hr9)
              go_ret2
              exact ⟨⟨_,shR_of ht.out,HE.out.symm⟩,ho9.out⟩
            by_cases e14:k1=14
            · subst e14
              have HE:Hid (R=cutB x0.l k5 k6 k7):=by
                have h9:=HSH.out
                rw [map_getD xq] at h9
                have h8:R=cutB x0.l k5 k6 k7:=by simpa using h9
                exact h8
              have N9:Hid (∀ w',Oth [] wr w'→Calls Tryz.prog 159 #[.slice x0.b x0.n x0.c,.int .i64 k5,.int .i64 k6,.int .i64 k7] w' fun e w2=>ShR (cutB x0.l k5 k6 k7) e w2∧Oth [] w' w2):=fun w' ho=>cut_any (xr.oth ho) k5 k6 k7
              obtain ⟨RR,hRR⟩:∃ RR,RR=cutB x0.l k5 k6 k7:=⟨_,rfl⟩
              rw [← hRR] at N9 HE
              clear hRR HSH HCZ hcz HZ HO xq xr
              replace p0:=Lib.hid p0
              have KEEP:Hid (∀ w',Oth [] wr w'→Oth [] wr w'∧w'.cell? ⟨gx,offx,none⟩=some (.slice x0.b x0.n x0.c)∧w'.cell? ⟨w.heap.size,4,none⟩=some (.int .i64 k5)∧w'.cell? ⟨w.heap.size,5,none⟩=some (.int .i64 k6)∧w'.cell? ⟨w.heap.size,6,none⟩=some (.int .i64 k7)):=fun w' ho=>⟨ho,ho.cell xa (by simp),ho.cell p5 (by simp),ho.cell p6 (by simp),ho.cell p7 (by simp)⟩
              go_wp2_with fail
              first | (go_region_held3 (fun w'=>Oth [] wr w'∧w'.cell? ⟨gx,offx,none⟩=some (.slice x0.b x0.n x0.c)∧w'.cell? ⟨w.heap.size,4,none⟩=some (.int .i64 k5)∧w'.cell? ⟨w.heap.size,5,none⟩=some (.int .i64 k6)∧w'.cell? ⟨w.heap.size,6,none⟩=some (.int .i64 k7)) (first | exact KEEP.out _ (Oth.refl _ _).drew | exact KEEP.out _ ((Oth.refl _ _).drew.trans ho9 (Fr.nil _ _))) (first | (go_at_call 159;(with_reducible refine (N9.out _ (Oth.refl _ _).drew).mono ?_);rintro e w' ⟨hr9,ho9⟩;obtain ⟨b9,n9,c9,k9,rfl,ht⟩:=shR_tuple hr9))) | fail
              go_wp2_with fail
              go_ret2
              rename_i hh
              exact ⟨⟨_,shR_of ht,HE.out.symm⟩,p0.out.trans hh.1 (Fr.nil _ _)⟩
            have hs9:=HZ.out.o.s
            dsimp only at hs9
            by_cases e15:k1=15
            · subst e15
              have HE:Hid (R=turnedB x0.l s):=by
                have h9:=HSH.out
                rw [map_getD xq] at h9
                have h8:R=turnedB x0.l s:=by simpa using h9
                exact h8
              have N9:Hid (∀ w',Oth [] wr w'→Calls Tryz.prog 160 #[.slice x0.b x0.n x0.c,.slice b n c] w' fun e w2=>ShR (turnedB x0.l s) e w2∧Oth [] w' w2):=fun w' ho=>turned_any (xr.oth ho) (hs9.oth ho)
              obtain ⟨RR,hRR⟩:∃ RR,RR=turnedB x0.l s:=⟨_,rfl⟩
              rw [← hRR] at N9 HE
              clear hRR HSH HCZ hcz HZ HO xq xr
              replace p0:=Lib.hid p0
              have KEEP:Hid (∀ w',Oth [] wr w'→Oth [] wr w'∧w'.cell? ⟨gx,offx,none⟩=some (.slice x0.b x0.n x0.c)∧w'.cell? ⟨w.heap.size,7,none⟩=some (.slice b n c)):=fun w' ho=>⟨ho,ho.cell xa (by simp),ho.cell p8 (by simp)⟩
              go_wp2_with fail
              first | (go_region_held3 (fun w'=>Oth [] wr w'∧w'.cell? ⟨gx,offx,none⟩=some (.slice x0.b x0.n x0.c)∧w'.cell? ⟨w.heap.size,7,none⟩=some (.slice b n c)) (first | exact KEEP.out _ (Oth.refl _ _).drew | exact KEEP.out _ ((Oth.refl _ _).drew.trans ho9 (Fr.nil _ _))) (first | (go_at_call 160;(with_reducible refine (N9.out _ (Oth.refl _ _).drew).mono ?_);rintro e w' ⟨hr9,ho9⟩;obtain ⟨b9,n9,c9,k9,rfl,ht⟩:=shR_tuple hr9))) | fail
              go_wp2_with fail
              go_ret2
              rename_i hh
              exact ⟨⟨_,shR_of ht,HE.out.symm⟩,p0.out.trans hh.1 (Fr.nil _ _)⟩
            have HE:Hid (R=sameB ((x0 :: T).map Sh.l)):=by
              have h9:=HSH.out
              rw [if_neg e8,if_neg e9,if_neg e10,if_neg (by omega),if_neg e13,if_neg e14,if_neg e15,hT] at h9
              exact h9
            have N9:Hid (∀ w',Oth [] wr w'→Calls Tryz.prog 155 #[.slice (some ⟨gx,offx,none⟩) v cx] w' fun e w2=>ShR (sameB ((x0 :: T).map Sh.l)) e w2∧Oth [] w' w2):=fun w' ho=>same_any (by have:=HZ.out.x.oth ho;rw [hT] at this;exact this) (by omega)
            obtain ⟨RR,hRR⟩:∃ RR,RR=sameB ((x0 :: T).map Sh.l):=⟨_,rfl⟩
            rw [← hRR] at N9 HE
            clear hRR HSH HCZ hcz HZ HO xq xr hT hs9
            replace p0:=Lib.hid p0
            go_wp2_with (go_at_call 155;(with_reducible refine (N9.out _ (Oth.refl _ _)).mono ?_);rintro e w9 ⟨hr9,ho9⟩;obtain ⟨b9,n9,c9,k9,rfl,ht⟩:=shR_tuple hr9;replace ht:=Lib.hid ht;replace ho9:=Lib.hid (p0.out.trans ho9 (Fr.nil _ _));clear hr9)
            go_ret2
            exact ⟨⟨_,shR_of ht.out,HE.out.symm⟩,ho9.out⟩
  · have hk':(C != 0)=true:=by simp [hC0]
    go_enter Tryz.func112,Tryz.ntmps112
    go_wp2_with (go_at_call 153;(with_reducible refine (N1.out _ ((Oth.refl [] w).alloc _)).mono ?_);rintro e w1 ⟨rfl,ho1⟩;replace ho1:=Lib.hid (((Oth.refl [] _).alloc _).trans ho1 (Fr.nil _ _)))
    go_ret2
    refine ⟨⟨none,⟨C,hC0,rfl⟩,?_⟩,ho1.out⟩
    rw [HSH.out,if_pos hC0]
end
end Go.Proofs.YtnpdcjdmbkcpbaaGreat.Ins
namespace Go.Proofs.YtnpdcjdmbkcpbaaGreat.Ins
open Go.RowKit
structure LLy where
  (q gk ck gp cp go co gl cl gf cf bN offN cN n:Nat)
  inn:Value
  (o π:Nat→Nat)
def lcells (L:LLy) (v:Value):Array Value:=
  #[L.inn,.slice (some ⟨L.bN,L.offN,none⟩) L.n L.cN,.slice (some ⟨L.go,0,none⟩) L.n L.co,.slice (some ⟨L.gl,0,none⟩) (L.n + 1) L.cl,.slice (some ⟨L.gf,0,none⟩) (L.n + 1) L.cf,.int .i64 (L.o L.n:Nat),
    .slice (some ⟨L.gk,0,none⟩) (L.n + 1) L.ck,.slice (some ⟨L.gp,0,none⟩) (L.n + 1) L.cp,v]
def rawc (o:Nat→Nat) (code:List (Nat × Nat)):List (Nat × Nat):=code.map fun x=>(x.1,o x.2)
structure LRd (L:LLy) (N:Nat→Prop) (w:World):Prop where
  od:∀ p,p < L.n→w.cell? ⟨L.go,p,none⟩=some (.int .i64 (L.o (p + 1):Nat))
  la:∀ p,p≤L.n→w.cell? ⟨L.gl,L.o p,none⟩=some (.int .i64 (usr L.n p:Nat))
  fi:∀ p,p≤L.n→w.cell? ⟨L.gf,L.o p,none⟩=some (.int .i64 (usr L.n p:Nat))
  nd:∀ p,p < L.n→∃ gi oi ci,w.cell? ⟨L.bN,L.offN + (L.o (p + 1) - 1) * 10 + 8,none⟩=some (.slice (some ⟨gi,oi,none⟩) 1 ci)∧w.cell? ⟨gi,oi,none⟩=some (.int .i64 (L.o p:Nat))∧N gi
  nn:N L.go∧N L.gl∧N L.gf∧N L.bN
  lt:∀ k,N k→k < w.heap.size
theorem LRd.kept {L:LLy} {N:Nat→Prop} {w w':World} (h:LRd L N w) (k:Kp N w w'):LRd L N w':=by
  obtain ⟨n1,n2,n3,n4⟩:=h.nn
  refine ⟨fun p hp=>k.cell (h.od p hp) n1,fun p hp=>k.cell (h.la p hp) n2,fun p hp=>k.cell (h.fi p hp) n3,fun p hp=>?_,h.nn,fun i hi=>Nat.lt_of_lt_of_le (h.lt i hi) k.size⟩
  obtain ⟨gi,oi,ci,h1,h2,h3⟩:=h.nd p hp
  exact ⟨gi,oi,ci,k.cell h1 n4,k.cell h2 h3,h3⟩
structure LW (L:LLy) (N:Nat→Prop) (w0:World) (K:Nat→Bool) (s:LS) (w:World):Prop where
  v:∃ v,w.heap[L.q]?=some (.cells (lcells L v) 153 (0,0))∧w.ownsRow 0 63 2 v s.code.length (cds (rawc L.o s.code))∧∀ g,v.ownBlock=some g→g≠L.q∧g≠L.gp∧g≠L.gk∧¬ N g∧w0.heap.size≤g
  pr:Bls L.gp (fun i=>s.pr (L.π i)) (L.n + 1) L.cp w
  kp:Bls L.gk (fun i=>K (L.π i)) (L.n + 1) L.ck w
  rd:LRd L N w
  ne:L.q≠L.gp∧L.q≠L.gk∧L.gp≠L.gk∧¬ N L.q∧¬ N L.gp∧¬ N L.gk
  lo:w0.heap.size≤L.q∧w0.heap.size≤L.gp∧w0.heap.size≤L.gk
  o:Oth [] w0 w
  pm:Perm L.n L.o L.π
  n1:1≤L.n∧L.n≤64
section
variable {L:LLy} {N:Nat→Prop} {w0:World} {K:Nat→Bool} {s:LS} {w:World}
theorem LW.oth {w':World} (h:LW L N w0 K s w) (ho:Oth [] w w'):LW L N w0 K s w':=by
  obtain ⟨v,h1,h2,h3⟩:=h.v
  exact ⟨⟨v,ho.heap h1 (by simp),Row.own h2 ho (fun g hg=>by simp),h3⟩,h.pr.oth ho (by simp),h.kp.oth ho (by simp),h.rd.kept (kp_oth ho h.rd.lt (by simp)),h.ne,h.lo,h.o.trans ho (Fr.nil _ _),h.pm,h.n1⟩
theorem LW.at_ (h:LW L N w0 K s w):w.cell? ⟨L.q,1,none⟩=some (.slice (some ⟨L.bN,L.offN,none⟩) L.n L.cN)∧w.cell? ⟨L.q,2,none⟩=some (.slice (some ⟨L.go,0,none⟩) L.n L.co)∧w.cell? ⟨L.q,3,none⟩=some (.slice (some ⟨L.gl,0,none⟩) (L.n + 1) L.cl)∧w.cell? ⟨L.q,4,none⟩=some (.slice (some ⟨L.gf,0,none⟩) (L.n + 1) L.cf)∧w.cell? ⟨L.q,5,none⟩=some (.int .i64 (L.o L.n:Nat))∧w.cell? ⟨L.q,6,none⟩=some (.slice (some ⟨L.gk,0,none⟩) (L.n + 1) L.ck)∧w.cell? ⟨L.q,7,none⟩=some (.slice (some ⟨L.gp,0,none⟩) (L.n + 1) L.cp)∧L.q < w.heap.size∧(∀ j,w.frozen? ⟨L.q,j,none⟩=false):=by
  obtain ⟨v,hb,-,-⟩:=h.v
  refine ⟨?_,?_,?_,?_,?_,?_,?_,lt_of_block hb,fun j=>?_⟩
  any_goals (rw [World.cell?,hb];rfl)
  rw [World.frozen?,hb];rfl
theorem LW.code (h:LW L N w0 K s w):∃ a c,w.cell? ⟨L.q,8,none⟩=some (.slice a s.code.length c):=by
  obtain ⟨v,hb,h2,-⟩:=h.v
  have h8:w.cell? ⟨L.q,8,none⟩=some v:=by rw [World.cell?,hb];rfl
  rw [h8]
  rcases Nat.eq_zero_or_pos s.code.length with h0 | h0
  · rw [h0] at h2 ⊢
    obtain ⟨-,h3⟩:=h2
    rcases h3 with ⟨rfl,-⟩ | h3
    · exact ⟨none,0,rfl⟩
    · obtain ⟨g,c,_,rfl,_⟩:=h3
      exact ⟨_,c,rfl⟩
  · obtain ⟨g,c,rfl,-,-⟩:=row_of_owns h2 h0
    exact ⟨_,c,rfl⟩
theorem LW.prAt (h:LW L N w0 K s w) {p:Nat} (hp:p≤L.n):w.cell? ⟨L.gp,L.o p,none⟩=some (.bool (s.pr p)):=by
  have h1:=h.pm.op p hp
  have:=h.pr.at_ (i:=L.o p) (by omega)
  rw [h1.2] at this;exact this
theorem LW.kpAt (h:LW L N w0 K s w) {p:Nat} (hp:p≤L.n):w.cell? ⟨L.gk,L.o p,none⟩=some (.bool (K p)):=by
  have h1:=h.pm.op p hp
  have:=h.kp.at_ (i:=L.o p) (by omega)
  rw [h1.2] at this;exact this
theorem on_at2 {n:Nat} {o π:Nat→Nat} (h:Perm n o π) {p:Nat} (hp:p≤n) (f:Nat→Bool) (b:Bool):∀ i,i < n + 1→on (fun i=>f (π i)) (o p) b i=on f p b (π i):=by
  intro i hi
  have h1:=h.po i (by omega)
  have h2:=h.op p hp
  unfold on
  by_cases e:i=o p
  · subst e;rw [if_pos rfl,if_pos h2.2]
  · rw [if_neg e,if_neg (fun e2=>e (by rw [← e2,h1.2]))]
theorem LW.set (h:LW L N w0 K s w) {p:Nat} (hp:p≤L.n) (b:Bool):LW L N w0 K ⟨on s.pr p b,s.code⟩ (w.setCell ⟨L.gp,L.o p,none⟩ (.bool b))∧Kp N w (w.setCell ⟨L.gp,L.o p,none⟩ (.bool b)):=by
  have ho:Oth [L.gp] w (w.setCell ⟨L.gp,L.o p,none⟩ (.bool b)):=(Oth.refl _ _).setCell (.inl (by simp)) _
  obtain ⟨n1,n2,n3,n4,n5,n6⟩:=h.ne
  have hk:Kp N w (w.setCell ⟨L.gp,L.o p,none⟩ (.bool b)):=kp_oth ho h.rd.lt (by simpa using n5)
  obtain ⟨v,h1,h2,h3⟩:=h.v
  refine ⟨⟨⟨v,ho.heap h1 (by simpa using n1),Row.own h2 ho (fun g hg=>by simpa using (h3 g hg).2.1),h3⟩,(h.pr.set (L.o p) b).ext (on_at2 h.pm hp s.pr b),h.kp.oth ho (by simpa using n3.symm),h.rd.kept hk,h.ne,h.lo,h.o.setCell (.inr h.lo.2.1) _,h.pm,h.n1⟩,hk⟩
theorem rawc_append (o:Nat→Nat) (a b:List (Nat × Nat)):rawc o (a ++ b)=rawc o a ++ rawc o b:=by simp [rawc]
theorem rawc_length (o:Nat→Nat) (a:List (Nat × Nat)):(rawc o a).length=a.length:=by simp [rawc]
theorem LW.added {v v':Value} {w1:World} {ob:Obj} {k p:Nat} (h:LW L N w0 K s w)
    (h1:w.heap[L.q]?=some (.cells (lcells L v) 153 (0,0))) (h3:∀ g,v.ownBlock=some g→g≠L.q∧g≠L.gp∧g≠L.gk∧¬ N g∧w0.heap.size≤g)
    (hown:w1.ownsRow 0 63 2 v' (s.code.length + 1) (cds (rawc L.o s.code) ++ [.int .i64 (k:Int),.int .i64 (L.o p:Int)])) (hg:(w.alloc ob).grownBy w1 v.ownBlock) (hat:v'.ownBlock=v.ownBlock∨v'.ownBlock=some (w.alloc ob).heap.size) :
    LW L N w0 K (s.add k p) (w1.setCell ⟨L.q,8,none⟩ v')∧Kp N w (w1.setCell ⟨L.q,8,none⟩ v'):=by
  have ho:Oth v.ownBlock.toList w w1:=((Oth.refl _ _).alloc ob).grown hg (fun k hk=>.inl (by simp [hk]))
  have hq:L.q∉v.ownBlock.toList:=fun e=>(h3 L.q (by simpa using e)).1 rfl
  have hgp:L.gp∉v.ownBlock.toList:=fun e=>(h3 L.gp (by simpa using e)).2.1 rfl
  have hgk:L.gk∉v.ownBlock.toList:=fun e=>(h3 L.gk (by simpa using e)).2.2.1 rfl
  have o2:Oth [L.q] w1 (w1.setCell ⟨L.q,8,none⟩ v'):=(Oth.refl _ _).setCell (.inl (by simp)) _
  obtain ⟨n1,n2,n3,n4,n5,n6⟩:=h.ne
  have b1:=ho.heap h1 hq
  have hsz:=hg.size
  simp at hsz
  have hlq:=lt_of_block h1
  have hk1:Kp N w w1:=kp_oth ho h.rd.lt (fun k hk=>(h3 k (by simpa using hk)).2.2.2.1)
  have hk2:Kp N w1 (w1.setCell ⟨L.q,8,none⟩ v'):=kp_oth o2 (h.rd.kept hk1).lt (by simpa using n4)
  have hk:=hk1.trans hk2
  have h4:∀ g,v'.ownBlock=some g→g≠L.q∧g≠L.gp∧g≠L.gk∧¬ N g∧w0.heap.size≤g:=by
    intro g hg'
    rcases hat with e | e
    · exact h3 g (by rw [← e];exact hg')
    · rw [e] at hg'
      simp at hg'
      subst hg'
      have e1:=h.pr.lt
      have e2:=h.kp.lt
      have e3:=h.o.size
      exact ⟨by omega,by omega,by omega,fun e=>by have:=h.rd.lt _ e;omega,by omega⟩
  refine ⟨⟨⟨v',?_,?_,h4⟩,(h.pr.oth ho hgp).oth o2 (by simpa using n1.symm),(h.kp.oth ho hgk).oth o2 (by simpa using n2.symm),h.rd.kept hk,h.ne,h.lo,?_,h.pm,h.n1⟩,hk⟩
  · simp [World.setCell,Array.getElem?_modify,b1];rfl
  · unfold LS.add
    simp only
    rw [rawc_append,cds_append,List.length_append]
    exact Row.own hown o2 (fun g hg=>by simpa using (h4 g hg).1)
  · have o3:Oth [] w0 w1:=by
      have:=h.o.trans ho (fun k hk=>by
        rw [Option.mem_toList] at hk
        exact .inr (h3 k hk).2.2.2.2)
      exact this
    exact o3.setCell (.inr h.lo.1) _
set_option maxRecDepth 100000 in
set_option maxHeartbeats 4000000 in
theorem ladd_any {k p i:Nat} (h:LW L N w0 K s w) (hn:s.code.length≤1000000) (hi9:i=L.o p) :
    Calls Tryz.prog 64 #[.pointer (some ⟨L.q,0,none⟩),.int .i64 k,.int .i64 i] w fun e w'=>e = .returned (.tuple #[])∧LW L N w0 K (s.add k p) w'∧Kp N w w':=by
  obtain ⟨v,h1,h2,h3⟩:=h.v
  obtain ⟨i0,hi,hz0,hz1,hz2⟩:=info_parts' info63
  have hlt:=lt_of_block h1
  have c2:w.cell? ⟨L.q,8,none⟩=some v:=by rw [World.cell?,h1];rfl
  have f2:w.frozen? ⟨L.q,8,none⟩=false:=by rw [World.frozen?,h1];rfl
  have H:=Lib.hid h
  have H1:=Lib.hid h1
  have H2:=Lib.hid h2
  have H3:=Lib.hid h3
  have HI:=Lib.hid hi9
  clear h h1 h2 h3 hi9
  go_enter Tryz.func64,Tryz.ntmps64
  go_wp2_with (at_builtin;refine wpList_append_own_at _ rfl _ _ 35 rfl 0 63 i0 _ 2 16 Tryz.underlying35 hi hz0 hz1 hz2 rfl (by decide) v _ _ rfl (H2.out.alloc _) ⟨w.heap.size,0,none⟩ 1 1 [.int .i64 k,.int .i64 i] rfl rfl ?c1 ?c2 ?c3 ?c4 ?c5 ?_)
  case c1=>exact two_new _ _ _ _
  case c2=>intro u hu;simp at hu;rcases hu with rfl | rfl <;> rfl
  case c3=>unfold maxLen;omega
  case c4=>omega
  case c5=>omega
  intro v' w1 hown1 hgrow1 hx1 hx2
  have hq1:w1.heap[L.q]?=some (.cells (lcells L v) 153 (0,0)):=by
    rw [hgrow1.block L.q (by simp;omega) (fun e=>(H3.out L.q e.symm).1 rfl),Below.heap_alloc _ _ _ hlt];exact H1.out
  have d2:w1.cell? ⟨L.q,8,none⟩=some v:=by rw [World.cell?,hq1];rfl
  have d3:w1.frozen? ⟨L.q,8,none⟩=false:=by rw [World.frozen?,hq1];rfl
  have HF:=Lib.hid (H.out.added (p:=p) H1.out H3.out (by rw [← HI.out];exact hown1) hgrow1 (by simpa using hx2))
  obtain ⟨g',cap',rfl,_,_⟩:=row_of_owns hown1 (by omega)
  clear hown1 hgrow1 hx1 hx2 hq1 c2 f2
  go_wp2_with fail
  go_end0
  exact ⟨rfl,HF.out⟩
set_option maxRecDepth 100000 in
set_option maxHeartbeats 4000000 in
theorem many_any (h:LW L N w0 K s w) (hn:s.code.length≤65536) :
    Calls Tryz.prog 67 #[.pointer (some ⟨L.q,0,none⟩)] w fun e w'=>e = .returned (.bool false)∧w'=w:=by
  obtain ⟨a,c,h8⟩:=h.code
  obtain ⟨-,-,-,-,-,-,-,hq,-⟩:=h.at_
  obtain ⟨m,hm⟩:∃ m,m=s.code.length:=⟨_,rfl⟩
  rw [← hm] at h8 hn
  have t1:((65536:Int) < (m:Int))=False:=eq_false (by omega)
  clear h hm
  go_enter Tryz.func67,Tryz.ntmps67
  go_wp2_with fail
  go_ret
  exact ⟨rfl,rfl⟩
set_option maxRecDepth 100000 in
set_option maxHeartbeats 4000000 in
theorem lcomp_any {k p i:Nat} (h:LW L N w0 K s w) (hn:s.code.length≤1000000) (hp:p≤L.n) (hi9:i=L.o p) :
    Calls Tryz.prog 114 #[.pointer (some ⟨L.q,0,none⟩),.int .i64 k,.int .i64 i] w fun e w'=>e = .returned (.tuple #[])∧LW L N w0 K (s.comp k p) w'∧Kp N w w':=by
  have N1:=Lib.hid (ladd_any (k:=k) h hn hi9)
  have hop:=(h.pm.op p hp).1
  have t1:(i:Int) < (L.n:Int) + 1:=by omega
  have HI:=Lib.hid hi9
  clear h hi9
  go_enter Tryz.func114,Tryz.ntmps114
  go_wp2_with (go_at_call 64;(with_reducible refine N1.out.mono ?_);rintro e w1 ⟨rfl,h1,k1⟩;have b1:=h1.prAt hp;rw [← HI.out] at b1;have b2:=h1.pr.free i;have b3:=h1.pr.lt;obtain ⟨-,-,-,-,-,-,a7,hq,-⟩:=h1.at_;have H1:=Lib.hid (And.intro h1 k1);clear h1 k1)
  go_end0
  have h9:=H1.out.1.set hp true
  rw [← HI.out] at h9
  exact ⟨rfl,h9.1,H1.out.2.trans h9.2⟩
set_option maxRecDepth 100000 in
set_option maxHeartbeats 4000000 in
theorem ldrop_any {p i:Nat} (h:LW L N w0 K s w) (hn:s.code.length≤1000000) (hp:p≤L.n) (hi9:i=L.o p) :
    Calls Tryz.prog 65 #[.pointer (some ⟨L.q,0,none⟩),.int .i64 i] w fun e w'=>e = .returned (.tuple #[])∧LW L N w0 K (s.drop p) w'∧Kp N w w':=by
  have N1:Hid (Calls Tryz.prog 64 #[.pointer (some ⟨L.q,0,none⟩),.int .i64 3,.int .i64 i] w fun e w'=>e = .returned (.tuple #[])∧LW L N w0 K (s.add 3 p) w'∧Kp N w w'):=ladd_any (k:=3) h hn hi9
  have hop:=(h.pm.op p hp).1
  have t1:(i:Int) < (L.n:Int) + 1:=by omega
  have HI:=Lib.hid hi9
  clear h hi9
  go_enter Tryz.func65,Tryz.ntmps65
  go_wp2_with (go_at_call 64;(with_reducible refine N1.out.mono ?_);rintro e w1 ⟨rfl,h1,k1⟩;have b1:=h1.prAt hp;rw [← HI.out] at b1;have b2:=h1.pr.free i;have b3:=h1.pr.lt;obtain ⟨-,-,-,-,-,-,a7,hq,-⟩:=h1.at_;have H1:=Lib.hid (And.intro h1 k1);clear h1 k1)
  go_end0
  have h9:=H1.out.1.set hp false
  rw [← HI.out] at h9
  exact ⟨rfl,h9.1,H1.out.2.trans h9.2⟩
end
end Go.Proofs.YtnpdcjdmbkcpbaaGreat.Ins
