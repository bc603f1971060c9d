/- Lists of shapes as they read; the walk of same (package op). The walk of shape.Join. The walk of joined (package op). No condition. -/
import Derived.Test.YtnpdcjdmbkcpbaaGreatXf
set_option linter.unusedVariables false
set_option linter.unusedSimpArgs false
namespace Go.Proofs.YtnpdcjdmbkcpbaaGreat.Ins
open Go.RowKit
structure Sh where
  (b:Option Addr)
  (n c:Nat)
  (l:List Int)
def Sh.val (s:Sh):Value:=.slice s.b s.n s.c
def Sh.R (s:Sh) (w:World):Prop:=RI s.b s.n s.c s.l w
structure RL (b:Option Addr) (n c:Nat) (L:List Sh) (w:World):Prop where
  len:n=L.length
  cap:n≤c∧c≤maxLen
  at_:∀ i s,L[i]?=some s→∃ g off,b=some ⟨g,off,none⟩∧w.cell? ⟨g,off + i,none⟩=some s.val∧s.R w
theorem RL.oth {b:Option Addr} {n c:Nat} {L:List Sh} {w w':World} (h:RL b n c L w) (ho:Oth [] w w'):RL b n c L w':=by
  refine ⟨h.len,h.cap,fun i s hi=>?_⟩
  obtain ⟨g,off,hb,hc,hr⟩:=h.at_ i s hi
  exact ⟨g,off,hb,ho.cell hc (by simp),hr.oth ho⟩
theorem RL.cases {b:Option Addr} {n c:Nat} {L:List Sh} {w:World} (h:RL b n c L w):(n=0∧L=[]) ∨
    ∃ g off,b=some ⟨g,off,none⟩∧0 < n∧g < w.heap.size∧∀ i s,L[i]?=some s→w.cell? ⟨g,off + i,none⟩=some s.val∧s.R w:=by
  cases L with
  | nil=>exact .inl ⟨h.len,rfl⟩
  | cons x L=>
    obtain ⟨g,off,hb,hc,-⟩:=h.at_ 0 x rfl
    refine .inr ⟨g,off,hb,by rw [h.len];simp,World.block_lt_of_cell? _ _ hc,fun i s hi=>?_⟩
    obtain ⟨g',off',hb',hc',hr⟩:=h.at_ i s hi
    rw [hb] at hb'
    simp only [Option.some.injEq,Addr.mk.injEq] at hb'
    obtain ⟨rfl,rfl,_⟩:=hb'
    exact ⟨hc',hr⟩
def sameB:List (List Int)→Option (List Int)
  | []=>none
  | s :: T=>if T.all (fun t=>decide (t=s))=true then some s else none
section
variable {w:World}
set_option maxRecDepth 100000 in
set_option maxHeartbeats 4000000 in
theorem same_any {b:Option Addr} {n c:Nat} {s0:Sh} {T:List Sh} (h:RL b n c (s0 :: T) w) (hs:s0.l.length≤1000000) :
    Calls Tryz.prog 155 #[.slice b n c] w fun e w'=>ShR (sameB ((s0 :: T).map Sh.l)) e w'∧Oth [] w w':=by
  have hn:=h.len
  have hc:=h.cap
  rcases h.cases with ⟨h1,h2⟩ | ⟨g,off,rfl,-,-,h6⟩
  · simp at h2
  obtain ⟨b0,n0,c0,l0⟩:=s0
  obtain ⟨a0,r0⟩:=h6 0 _ rfl
  rw [Nat.add_zero] at a0
  simp only [Sh.val] at a0
  have r0':RI b0 n0 c0 l0 w:=r0
  have hl0:n0≤1000000:=by rw [r0'.len];exact hs
  have N1:Hid (∀ w',Oth [] w w'→Calls Tryz.prog 111 #[.slice b0 n0 c0] w' fun e w2=>∃ g,e = .returned (.slice (some ⟨g,0,none⟩) n0 n0)∧Oth [] w' w2∧w'.heap.size≤g∧RI (some ⟨g,0,none⟩) n0 n0 l0 w2):=fun w' ho=>copy_any (r0'.oth ho) hl0
  have N2:Hid (∀ i (s:Sh),T[i]?=some s→∀ w',Oth [] w w'→w'.cell? ⟨g,off + 1 + i,none⟩=some (.slice s.b s.n s.c)∧Calls Tryz.prog 92 #[.slice s.b s.n s.c,.slice b0 n0 c0] w' fun e w2=>e = .returned (.bool (decide (s.l=l0)))∧Oth [] w' w2):=by
    intro i s hi w' ho
    obtain ⟨k1,k2⟩:=h6 (i + 1) s hi
    have k2':RI s.b s.n s.c s.l w:=k2
    refine ⟨?_,shEqual_any (k2'.oth ho) (r0'.oth ho)⟩
    rw [show off + 1 + i=off + (i + 1) by omega]
    exact ho.cell k1 (by simp)
  obtain ⟨N,hN⟩:∃ N,N=T.length:=⟨_,rfl⟩
  have hn':n=N + 1:=by rw [hn,hN];rfl
  obtain ⟨D,hD⟩:∃ D,c=D + 1:=⟨c - 1,by omega⟩
  have HA:Hid (∀ w',Oth [] w w'→w'.cell? ⟨g,off,none⟩=some (.slice b0 n0 c0)):=fun w' ho=>ho.cell a0 (by simp)
  have HL:=Lib.hid hN
  have HCAP:Hid (N + 1≤D + 1∧D + 1≤maxLen):=by rw [← hn',← hD];exact hc
  have hcap2:N + 1≤9223372036854775807:=by have:=HCAP.out;unfold maxLen at this;omega
  subst hn' hD
  have hlt:=World.block_lt_of_cell? _ _ a0
  clear h h6 hc hn hs r0 r0' hl0 a0 hN
  rw [show (Sh.mk b0 n0 c0 l0 :: T).map Sh.l=l0 :: T.map Sh.l from rfl,sameB]
  obtain ⟨R,hRR⟩:∃ R,R=(if (T.map Sh.l).all (fun t=>decide (t=l0))=true then some l0 else none):=⟨_,rfl⟩
  rw [← hRR]
  replace hRR:=Lib.hid hRR
  go_enter Tryz.func155,Tryz.ntmps155
  go_wp2_with fail
  · have hN0:N=0:=by have:=HCAP.out;omega
    subst hN0
    have k0:=HA.out w (Oth.refl _ _)
    have hT:T=[]:=List.eq_nil_of_length_eq_zero HL.out.symm
    refine wp_loop_rounds 1 ?_
    rw [rounds_succ]
    go_wp2_with (go_at_call 111;(with_reducible refine (N1.out _ (Oth.refl _ _)).mono ?_);rintro e w1 ⟨g1,rfl,ho1,-,hr⟩;replace ho1:=Lib.hid ho1;replace hr:=Lib.hid hr)
    go_ret2
    subst hT
    rw [hRR.out]
    exact ⟨⟨_,_,_,rfl,hr.out⟩,ho1.out⟩
  · go_loopw [9] (fun x wr=>∃ m:Nat,m≤N∧x = .int .i64 m∧Oth [] w wr∧∀ i (s:Sh),i < m→T[i]?=some s→s.l=l0) (fun x _=>N - (intOf x).toNat)
    case atStart=>exact ⟨0,by omega,rfl,Oth.refl _ _,fun i s hi=>by omega⟩
    case round=>
      obtain ⟨m,hm,rfl,ho,hi⟩:=hrel
      by_cases hlt':m < N
      · have t1:(m:Int) < N:=by omega
        obtain ⟨s,hs⟩:∃ s,T[m]?=some s:=⟨_,List.getElem?_eq_getElem (by rw [← HL.out];exact hlt')⟩
        obtain ⟨k1,k2⟩:=N2.out m s hs wr ho
        have k0:=HA.out wr ho
        have k3:=World.block_lt_of_cell? _ _ k0
        have HI:=Lib.hid (And.intro hs (And.intro hi ho))
        clear hs hi ho
        obtain ⟨sb,sn,sc,sl⟩:=s
        dsimp only at k1 k2
        obtain ⟨r,hr⟩:∃ r,r=decide (sl=l0):=⟨_,rfl⟩
        rw [← hr] at k2
        have HR:=Lib.hid hr
        have K2:=Lib.hid k2
        clear hr k2
        have e1:IntKind.i64.wrap ((m:Int) + 1)=(m:Int) + 1:=IntWalk.i64_in _ (by omega)
        cases r
        · go_wp2_with (go_at_call 92;(with_reducible refine K2.out.mono ?_);rintro e w1 ⟨rfl,ho1⟩;replace ho1:=Lib.hid ho1)
          go_ret2
          refine ⟨?_,HI.out.2.2.trans ho1.out (Fr.nil _ _)⟩
          rw [hRR.out,if_neg]
          · exact ⟨20,by decide,rfl⟩
          · intro h
            have:=List.all_eq_true.1 h sl (List.mem_map.2 ⟨_,List.mem_of_getElem? HI.out.1,rfl⟩)
            rw [← HR.out] at this;simp at this
        · go_wp2_with (go_at_call 92;(with_reducible refine K2.out.mono ?_);rintro e w1 ⟨rfl,ho1⟩;replace ho1:=Lib.hid ho1)
          go_roundw
          case rel=>
            refine ⟨m + 1,by omega,by go_num,HI.out.2.2.trans ho1.out (Fr.nil _ _),fun i s h1 h2=>?_⟩
            rcases Nat.lt_or_ge i m with h9 | h9
            · exact HI.out.2.1 i s h9 h2
            · obtain rfl:i=m:=by omega
              rw [HI.out.1] at h2
              cases h2
              simpa using HR.out.symm
          case measure=>simp [intOf];omega
      · obtain rfl:m=N:=by omega
        have t1:¬ (m:Int) < m:=by omega
        have k0:=HA.out wr ho
        have k3:=World.block_lt_of_cell? _ _ k0
        have HI:=Lib.hid (And.intro hi ho)
        clear hi ho
        go_wp2_with (go_at_call 111;(with_reducible refine (N1.out _ HI.out.2).mono ?_);rintro e w1 ⟨g1,rfl,ho1,-,hr⟩;replace ho1:=Lib.hid ho1;replace hr:=Lib.hid hr)
        go_ret2
        rw [hRR.out,if_pos]
        · exact ⟨⟨_,_,_,rfl,hr.out⟩,HI.out.2.trans ho1.out (Fr.nil _ _)⟩
        · rw [List.all_eq_true]
          intro t ht
          obtain ⟨s,h1,rfl⟩:=List.mem_map.1 ht
          obtain ⟨i,h2⟩:=List.getElem?_of_mem h1
          have h3:=(List.getElem?_eq_some_iff.1 h2).1
          exact decide_eq_true (HI.out.1 i s (by rw [HL.out];exact h3) h2)
end
end Go.Proofs.YtnpdcjdmbkcpbaaGreat.Ins
namespace Go.Proofs.YtnpdcjdmbkcpbaaGreat.Ins
open Go.RowKit
theorem ri_opened {b:Option Addr} {n c:Nat} {l:List Int} {w:World} (h:RI b n c l w) (h0:0 < n):∃ g off,b=some ⟨g,off,none⟩∧n=l.length∧g < w.heap.size∧∀ i,i < n→w.cell? ⟨g,off + i,none⟩=some (.int .i64 (l.getD i 0)):=by
  rcases h.cases with ⟨h,-⟩ | ⟨g,off,h1,h2,h3,h4,h5⟩
  · omega
  · exact ⟨g,off,h1,h3,h4,h5⟩
theorem getD_some {l:List Int} {i:Nat} (h:i < l.length):l[i]?=some (l.getD i 0):=by
  rw [List.getD_eq_getElem?_getD,List.getElem?_eq_getElem h];rfl
section
variable {w:World}
def JC (l1 l2:List Int) (side:Int):Prop:=
  (shB l1=true∧shB l2=true)∧l1.length=l2.length∧(0≤side∧side < l1.length)∧(∀ i,i < l1.length→i≠side.toNat→l1.getD i 0=l2.getD i 0)∧shB (l1.set side.toNat (l1.getD side.toNat 0 + l2.getD side.toNat 0))=true
instance (l1 l2:List Int) (side:Int):Decidable (JC l1 l2 side):=by unfold JC;infer_instance
def joinB (l1 l2:List Int) (side:Int):Option (List Int):=if JC l1 l2 side then some (l1.set side.toNat (l1.getD side.toNat 0 + l2.getD side.toNat 0)) else none
theorem joinB_no {l1 l2:List Int} {side:Int} (h:¬ JC l1 l2 side) {e:Ending} {w:World} {k:Int} (hk:k≠0) (he:e = .returned (.tuple #[.slice none 0 0,.int .i64 k])):ShR (joinB l1 l2 side) e w:=by
  rw [joinB,if_neg h];exact ⟨k,hk,he⟩
def jn (l l2:List Int) (sd m:Nat):List Int:=if sd < m then l.set sd (l.getD sd 0 + l2.getD sd 0) else l
set_option maxRecDepth 100000 in
set_option maxHeartbeats 4000000 in
theorem join_any {b1 b2:Option Addr} {n1 c1 n2 c2:Nat} {l1 l2:List Int} (h1:RI b1 n1 c1 l1 w) (h2:RI b2 n2 c2 l2 w) (side:Int) :
    Calls Tryz.prog 198 #[.slice b1 n1 c1,.slice b2 n2 c2,.int .i64 side] w fun e w'=>ShR (joinB l1 l2 side) e w'∧Oth [] w w':=by
  have N1:=Lib.hid (shRight_any h1)
  have N2:Hid (∀ w',Oth [] w w'→Calls Tryz.prog 54 #[.slice b2 n2 c2] w' fun e w2=>e = .returned (.bool (shB l2))∧Oth [] w' w2):=fun w' ho=>shRight_any (h2.oth ho)
  by_cases s1:shB l1=true
  · rw [s1] at N1
    by_cases s2:shB l2=true
    · rw [s2] at N2
      have k1:=shB_len s1
      have k2:=shB_len s2
      by_cases q1:n1=n2
      · subst q1
        by_cases q2:0≤side∧side < n1
        · obtain ⟨sd,rfl⟩:∃ m:Nat,side=m:=⟨side.toNat,by omega⟩
          have e1:=h1.len
          have e2:=h2.len
          obtain ⟨g1,o1,rfl,-,-,r1⟩:=ri_opened h1 (by omega)
          obtain ⟨g2,o2,rfl,-,-,r2⟩:=ri_opened h2 (by omega)
          have N3:Hid (∀ w',Oth [] w w'→Calls Tryz.prog 111 #[.slice (some ⟨g1,o1,none⟩) n1 c1] w' fun e w2=>∃ g,e = .returned (.slice (some ⟨g,0,none⟩) n1 n1)∧Oth [] w' w2∧w'.heap.size≤g∧Row 3 1 g n1 n1 (ivl l1) w2):=fun w' ho=>copy_row (h1.oth ho) (by omega)
          have HSS:Hid (shB l1=true∧shB l2=true):=⟨s1,s2⟩
          have HS:Hid (∀ i,i < n1→(1≤l1.getD i 0∧l1.getD i 0≤1024)∧(1≤l2.getD i 0∧l2.getD i 0≤1024)):=fun i hi=>⟨shB_side s1 (by omega),shB_side s2 (by omega)⟩
          have R1:=Lib.hid r1
          have R2:=Lib.hid r2
          have HW:=Lib.hid h1.wf
          have HE:Hid (n1=l1.length∧n1=l2.length):=⟨e1,e2⟩
          have t1:¬ (sd:Int) < 0:=by omega
          have t2:¬ (n1:Int)≤sd:=by omega
          have hn4:n1≤4:=by omega
          have hsd:sd < n1:=by omega
          clear h1 h2 s1 s2 r1 r2 e1 e2 k1 k2 q2
          go_enter Tryz.func198,Tryz.ntmps198
          go_wp2_with (first
            | (go_at_call 54;(with_reducible refine N1.out.mono ?_);rintro e w1 ⟨rfl,ho1⟩;replace ho1:=Lib.hid ho1;clear N1)
            | (go_at_call 54;(with_reducible refine (N2.out _ ho1.out).mono ?_);rintro e w2 ⟨rfl,ho2⟩;have ho3:=Lib.hid (ho1.out.trans ho2 (Fr.nil _ _));clear ho2)
            | (go_at_call 111;(with_reducible refine (N3.out _ ho3.out).mono ?_);rintro e w3 ⟨g3,rfl,ho5,hg3,hr⟩;have ho4:=Lib.hid (ho3.out.trans ho5 (Fr.nil _ _));have hgx:=Lib.hid (Nat.le_trans ho3.out.size hg3);clear ho5 hg3;replace hr:=Lib.hid hr))
          go_loopw [37] (fun x wr=>∃ m:Nat,m≤n1∧x = .int .i64 m∧Oth [] w wr∧Row 3 1 g3 n1 n1 (ivl (jn l1 l2 sd m)) wr∧∀ i,i < m→i≠sd→l1.getD i 0=l2.getD i 0) (fun x _=>n1 - (intOf x).toNat)
          case atStart=>exact ⟨0,by omega,rfl,ho4.out,hr.out,fun i hi=>by omega⟩
          case round=>
            obtain ⟨m,hm,rfl,ho,hrow,heq⟩:=hrel
            replace heq:=Lib.hid heq
            have HROW:=Lib.hid hrow
            have HO:=Lib.hid ho
            by_cases hlt:m < n1
            · have t5 : (m:Int) < n1:=by omega
              have v1:=ho.cell (R1.out m hlt) (by simp)
              have v2:=ho.cell (R2.out m hlt) (by simp)
              have v4:=World.block_lt_of_cell? _ _ v1
              have v5:=World.block_lt_of_cell? _ _ v2
              have hb:=HS.out m hlt
              have e1:IntKind.i64.wrap ((m:Int) + 1)=(m:Int) + 1:=IntWalk.i64_in _ (by omega)
              by_cases hms:m=sd
              · subst hms
                have v3:wr.cell? ⟨g3,m,none⟩=some (.int .i64 (l1.getD m 0)):=by
                  refine hrow.cell (ivl_get ?_)
                  rw [jn,if_neg (by omega)]
                  exact getD_some (by rw [← HE.out.1];exact hlt)
                have v6:=hrow.lt
                have v7:=hrow.free m
                obtain ⟨x,hx⟩:∃ x,x=l1.getD m 0:=⟨_,rfl⟩
                obtain ⟨y,hy⟩:∃ y,y=l2.getD m 0:=⟨_,rfl⟩
                rw [← hx] at v1 v3 hb
                rw [← hy] at v2 hb
                have e2:IntKind.i64.wrap (x + y)=x + y:=IntWalk.i64_in _ (by omega)
                have HXY:=Lib.hid (And.intro hx hy)
                clear hx hy ho hrow
                go_wp2_with fail
                first | (go_region) | fail
                go_wp2_with fail
                go_roundw
                case rel=>
                  refine ⟨m + 1,by omega,by go_num,(HO.out.drew).setCell (.inr hgx.out) _,?_,fun i h1 h2=>heq.out i (by omega) h2⟩
                  have h9:=(HROW.out.drew).set m (.int .i64 (x + y))
                  rw [ivl_set,jn,if_neg (by omega)] at h9
                  rw [jn,if_pos (by omega),← HXY.out.1,← HXY.out.2]
                  exact h9
                case measure=>simp [intOf];omega
              · have t6:¬ (m:Int)=sd:=by omega
                obtain ⟨x,hx⟩:∃ x,x=l1.getD m 0:=⟨_,rfl⟩
                obtain ⟨y,hy⟩:∃ y,y=l2.getD m 0:=⟨_,rfl⟩
                rw [← hx] at v1
                rw [← hy] at v2
                have HXY:=Lib.hid (And.intro hx hy)
                clear hx hy ho hrow hb
                by_cases hxy:x=y
                · have t7:(x != y)=false:=by simp [hxy]
                  replace hxy:=Lib.hid hxy
                  go_wp2_with fail
                  go_quiet (fail)
                  go_wp2_with fail
                  go_roundw
                  case rel=>
                    refine ⟨m + 1,by omega,by go_num,HO.out.drewN _,?_,fun i h1 h2=>(if e:i=m then by rw [e,← HXY.out.1,← HXY.out.2];exact hxy.out else heq.out i (by omega) h2)⟩
                    have h9:=HROW.out
                    have h8:jn l1 l2 sd (m + 1)=jn l1 l2 sd m:=by
                      unfold jn
                      by_cases h7:sd < m
                      · rw [if_pos h7,if_pos (by omega)]
                      · rw [if_neg h7,if_neg (by omega)]
                    rw [h8];exact h9
                  case measure=>simp [intOf];omega
                · have t7:(x != y)=true:=by simp [hxy]
                  have HNO:Hid (¬ JC l1 l2 (sd:Int)):=fun h=>hxy (by rw [HXY.out.1,HXY.out.2];exact h.2.2.2.1 m (by rw [← HE.out.1];exact hlt) (by simpa using hms))
                  clear hxy
                  go_wp2_with fail
                  go_quiet (fail)
                  go_wp2_with fail
                  go_ret2
                  exact ⟨joinB_no HNO.out (by decide) rfl,HO.out.drewN _⟩
            · obtain rfl:m=n1:=by omega
              have t5:¬ (m:Int) < m:=by omega
              have hri:RI (some ⟨g3,0,none⟩) m m (jn l1 l2 sd m) wr:=by
                refine ri_row hrow ?_
                rw [jn,if_pos hsd]
                have hb:=HS.out sd hsd
                exact wf_set HW.out (by omega)
              have N5:Hid (Calls Tryz.prog 54 #[.slice (some ⟨g3,0,none⟩) m m] wr fun e w2=>e = .returned (.bool (shB (jn l1 l2 sd m)))∧Oth [] wr w2):=shRight_any hri
              have HRI:=Lib.hid hri
              have hjn:jn l1 l2 sd m=l1.set sd (l1.getD sd 0 + l2.getD sd 0):=by rw [jn,if_pos hsd]
              have HJC:Hid (JC l1 l2 (sd:Int) ↔ shB (jn l1 l2 sd m)=true):=by
                rw [hjn]
                unfold JC
                simp only [Int.toNat_natCast]
                exact ⟨fun h=>h.2.2.2.2,fun h=>⟨HSS.out,by rw [← HE.out.1];exact HE.out.2,⟨by omega,by rw [← HE.out.1];omega⟩,fun i hi h2=>heq.out i (by rw [HE.out.1];exact hi) h2,h⟩⟩
              have HJV:Hid (JC l1 l2 (sd:Int)→joinB l1 l2 (sd:Int)=some (jn l1 l2 sd m)):=fun h=>by
                rw [joinB,if_pos h,hjn];simp
              clear hri ho hrow hjn
              generalize shB (jn l1 l2 sd m)=r at N5 HJC
              cases r
              · go_wp2_with (go_at_call 54;(with_reducible refine N5.out.mono ?_);rintro e w9 ⟨rfl,ho9⟩;replace ho9:=Lib.hid ho9)
                go_ret2
                exact ⟨joinB_no (fun h=>by have:=HJC.out.1 h;cases this) (by decide) rfl,HO.out.trans ho9.out (Fr.nil _ _)⟩
              · go_wp2_with (go_at_call 54;(with_reducible refine N5.out.mono ?_);rintro e w9 ⟨rfl,ho9⟩;replace ho9:=Lib.hid ho9)
                go_ret2
                refine ⟨?_,HO.out.trans ho9.out (Fr.nil _ _)⟩
                rw [HJV.out (HJC.out.2 (by first | trivial | rfl))]
                exact ⟨_,_,_,rfl,HRI.out.oth ho9.out⟩
        · have hq:side < 0∨(¬ side < 0∧(n1:Int)≤side):=by omega
          have HNO:Hid (¬ JC l1 l2 side):=fun h=>q2 (by have:=h.2.2.1;have:=h1.len;omega)
          clear h1 h2 s1 s2 k1 k2 q2
          rcases hq with u | ⟨u,u2⟩
          all_goals
            go_enter Tryz.func198,Tryz.ntmps198
            go_wp2_with (first
              | (go_at_call 54;(with_reducible refine N1.out.mono ?_);rintro e w1 ⟨rfl,ho1⟩;replace ho1:=Lib.hid ho1;clear N1)
              | (go_at_call 54;(with_reducible refine (N2.out _ ho1.out).mono ?_);rintro e w2 ⟨rfl,ho2⟩;have ho3:=Lib.hid (ho1.out.trans ho2 (Fr.nil _ _));clear ho2))
            go_ret2
            exact ⟨joinB_no HNO.out (by decide) rfl,ho3.out⟩
      · have t1:((n1:Int) != (n2:Int))=true:=by simp;omega
        have HNO:Hid (¬ JC l1 l2 side):=fun h=>q1 (by have:=h.2.1;have:=h1.len;have:=h2.len;omega)
        clear h1 h2 s1 s2 k1 k2 q1
        go_enter Tryz.func198,Tryz.ntmps198
        go_wp2_with (first
          | (go_at_call 54;(with_reducible refine N1.out.mono ?_);rintro e w1 ⟨rfl,ho1⟩;replace ho1:=Lib.hid ho1;clear N1)
          | (go_at_call 54;(with_reducible refine (N2.out _ ho1.out).mono ?_);rintro e w2 ⟨rfl,ho2⟩;have ho3:=Lib.hid (ho1.out.trans ho2 (Fr.nil _ _));clear ho2))
        go_ret2
        exact ⟨joinB_no HNO.out (by decide) rfl,ho3.out⟩
    · rw [show shB l2=false by simpa using s2] at N2
      have HNO:Hid (¬ JC l1 l2 side):=fun h=>s2 h.1.2
      clear h1 h2 s1 s2
      go_enter Tryz.func198,Tryz.ntmps198
      go_wp2_with (first
        | (go_at_call 54;(with_reducible refine N1.out.mono ?_);rintro e w1 ⟨rfl,ho1⟩;replace ho1:=Lib.hid ho1;clear N1)
        | (go_at_call 54;(with_reducible refine (N2.out _ ho1.out).mono ?_);rintro e w2 ⟨rfl,ho2⟩;have ho3:=Lib.hid (ho1.out.trans ho2 (Fr.nil _ _));clear ho2))
      go_ret2
      exact ⟨joinB_no HNO.out (by decide) rfl,ho3.out⟩
  · rw [show shB l1=false by simpa using s1] at N1
    have HNO:Hid (¬ JC l1 l2 side):=fun h=>s1 h.1.1
    clear h1 h2 s1
    go_enter Tryz.func198,Tryz.ntmps198
    go_wp2_with (go_at_call 54;(with_reducible refine N1.out.mono ?_);rintro e w1 ⟨rfl,ho1⟩;replace ho1:=Lib.hid ho1;clear N1)
    go_ret2
    exact ⟨joinB_no HNO.out (by decide) rfl,ho1.out⟩
end
end Go.Proofs.YtnpdcjdmbkcpbaaGreat.Ins
namespace Go.Proofs.YtnpdcjdmbkcpbaaGreat.Ins
open Go.RowKit
def joinedB (side:Int) (l:List Int):Option (List Int):=if side < 0∨(l.length:Int)≤side then none else some l
def joinsB (side:Int):List Int→List (List Int)→Option (List Int)
  | s,[]=>some s
  | s,t :: T=>match joinB s t side with
    | none=>none
    | some u=>joinsB side u T
def joinedL (side:Int):List (List Int)→Option (List Int)
  | []=>none
  | s :: T=>if T.isEmpty=true then joinedB side s else joinsB side s T
section
variable {w:World}
set_option maxRecDepth 100000 in
set_option maxHeartbeats 4000000 in
theorem joined_any {b:Option Addr} {n c:Nat} {s0:Sh} {T:List Sh} (h:RL b n c (s0 :: T) w) (hs:s0.l.length≤1000000) (side:Int) :
    Calls Tryz.prog 158 #[.int .i64 side,.slice b n c] w fun e w'=>ShR (joinedL side ((s0 :: T).map Sh.l)) e w'∧Oth [] w w':=by
  have hn:=h.len
  have hc:=h.cap
  rcases h.cases with ⟨h1,h2⟩ | ⟨g,off,rfl,-,-,h6⟩
  · simp at h2
  obtain ⟨b0,n0,c0,l0⟩:=s0
  obtain ⟨a0,r0⟩:=h6 0 _ rfl
  rw [Nat.add_zero] at a0
  simp only [Sh.val] at a0
  have r0':RI b0 n0 c0 l0 w:=r0
  have hl0:n0=l0.length:=r0'.len
  have hl1:n0≤1000000:=by rw [hl0];exact hs
  have N1:Hid (∀ w',Oth [] w w'→Calls Tryz.prog 111 #[.slice b0 n0 c0] w' fun e w2=>∃ g,e = .returned (.slice (some ⟨g,0,none⟩) n0 n0)∧Oth [] w' w2∧w'.heap.size≤g∧RI (some ⟨g,0,none⟩) n0 n0 l0 w2):=fun w' ho=>copy_any (r0'.oth ho) hl1
  have N2:Hid (∀ i (s:Sh),T[i]?=some s→∀ w' bx nx cx lx,Oth [] w w'→RI bx nx cx lx w'→w'.cell? ⟨g,off + 1 + i,none⟩=some (.slice s.b s.n s.c)∧Calls Tryz.prog 198 #[.slice bx nx cx,.slice s.b s.n s.c,.int .i64 side] w' fun e w2=>ShR (joinB lx s.l side) e w2∧Oth [] w' w2):=by
    intro i s hi w' bx nx cx lx ho hx
    obtain ⟨k1,k2⟩:=h6 (i + 1) s hi
    have k2':RI s.b s.n s.c s.l w:=k2
    refine ⟨?_,join_any hx (k2'.oth ho) side⟩
    rw [show off + 1 + i=off + (i + 1) by omega]
    exact ho.cell k1 (by simp)
  obtain ⟨N,hN⟩:∃ N,N=T.length:=⟨_,rfl⟩
  have hn':n=N + 1:=by rw [hn,hN];rfl
  obtain ⟨D,hD⟩:∃ D,c=D + 1:=⟨c - 1,by omega⟩
  have HL:=Lib.hid hN
  have HCAP:Hid (N + 1≤D + 1∧D + 1≤maxLen):=by rw [← hn',← hD];exact hc
  have hcap2:N + 1≤9223372036854775807:=by have:=HCAP.out;unfold maxLen at this;omega
  subst hn' hD
  have hlt:=World.block_lt_of_cell? _ _ a0
  have HQ:Hid (T=[] ↔ N=0):=⟨fun e=>by rw [hN,e];rfl,fun e=>List.eq_nil_of_length_eq_zero (by omega)⟩
  have HT:Hid (joinedL side (((⟨b0,n0,c0,l0⟩:Sh) :: T).map Sh.l)=if N=0 then joinedB side l0 else joinsB side l0 (T.map Sh.l)):=by
    show (if (T.map Sh.l).isEmpty=true then joinedB side l0 else joinsB side l0 (T.map Sh.l))=_
    by_cases e:N=0
    · have e2:T=[]:=HQ.out.2 e
      rw [e2,if_pos e];rfl
    · rw [if_neg e,if_neg (fun h=>e (HQ.out.1 (by simpa using h)))]
  obtain ⟨JL,hJL⟩:∃ JL,JL=joinedL side (((⟨b0,n0,c0,l0⟩:Sh) :: T).map Sh.l):=⟨_,rfl⟩
  rw [← hJL] at HT ⊢
  clear hJL
  obtain ⟨R,hRR⟩:∃ R,R=joinedB side l0:=⟨_,rfl⟩
  rw [← hRR] at HT
  have hRB:(side < 0∨(n0:Int)≤side)∧R=none∨¬ (side < 0∨(n0:Int)≤side)∧R=some l0:=by
    rw [hRR,joinedB,hl0]
    by_cases hq:side < 0∨(l0.length:Int)≤side
    · rw [if_pos hq];exact .inl ⟨hq,rfl⟩
    · rw [if_neg hq];exact .inr ⟨hq,rfl⟩
  clear h h6 hc hn hs r0 r0' hl1 hl0 hN hRR
  by_cases hN0:N=0
  · subst hN0
    clear N2
    rw [if_pos rfl] at HT
    rcases hRB with ⟨hq,rfl⟩ | ⟨hq,rfl⟩
    · have hq':side < 0∨(¬ side < 0∧(n0:Int)≤side):=by omega
      rcases hq' with u | ⟨u,u2⟩
      all_goals
        go_enter Tryz.func158,Tryz.ntmps158
        go_wp2_with fail
        go_ret2
        refine ⟨?_,Oth.refl _ _⟩
        rw [HT.out]
        exact ⟨11,by decide,rfl⟩
    · have u:¬ side < 0:=by omega
      have u2:¬ (n0:Int)≤side:=by omega
      go_enter Tryz.func158,Tryz.ntmps158
      go_wp2_with (go_at_call 111;(with_reducible refine (N1.out _ (Oth.refl _ _)).mono ?_);rintro e w1 ⟨g1,rfl,ho1,-,hr⟩;replace ho1:=Lib.hid ho1;replace hr:=Lib.hid hr)
      all_goals
        refine wp_loop_rounds 1 ?_
        rw [rounds_succ]
        go_wp2_with fail
        go_ret2
        refine ⟨?_,ho1.out⟩
        rw [HT.out]
        exact ⟨_,_,_,rfl,hr.out⟩
  · have t0 : ¬ ((N:Int) + 1=1):=by omega
    rw [if_neg hN0] at HT
    have hDN:¬ D=0:=by have:=HCAP.out;omega
    clear hRB
    go_enter Tryz.func158,Tryz.ntmps158
    go_wp2_with (go_at_call 111;(with_reducible refine (N1.out _ (Oth.refl _ _)).mono ?_);rintro e w1 ⟨g1,rfl,ho1,-,hr⟩;replace ho1:=Lib.hid ho1;replace hr:=Lib.hid hr)
    go_loopw [33,6] (fun x y wr=>∃ m:Nat,m≤N∧x = .int .i64 m∧Oth [] w wr∧∃ bx nx cx lx,y = .slice bx nx cx∧RI bx nx cx lx wr∧JL=joinsB side lx ((T.drop m).map Sh.l)) (fun x _ _=>N - (intOf x).toNat)
    case atStart=>exact ⟨0,by omega,rfl,ho1.out,_,_,_,_,rfl,hr.out,HT.out⟩
    case round=>
      obtain ⟨m,hm,rfl,ho,bx,nx,cx,lx,rfl,hx,hjl⟩:=hrel
      by_cases hlt':m < N
      · have t1:(m:Int) < N:=by omega
        obtain ⟨s,hs⟩:∃ s,T[m]?=some s:=⟨_,List.getElem?_eq_getElem (by rw [← HL.out];exact hlt')⟩
        obtain ⟨k1,k2⟩:=N2.out m s hs wr _ _ _ _ ho hx
        have k3:=World.block_lt_of_cell? _ _ k1
        have e1:IntKind.i64.wrap ((m:Int) + 1)=(m:Int) + 1:=IntWalk.i64_in _ (by omega)
        have K2:=Lib.hid k2
        have HO:=Lib.hid ho
        have HJ:Hid (JL=match joinB lx s.l side with | none=>none | some u=>joinsB side u ((T.drop (m + 1)).map Sh.l)):=by
          have h9:=hjl
          rw [List.drop_eq_getElem_cons (by rw [← HL.out];exact hlt'),List.map_cons] at h9
          rw [h9,joinsB]
          have h8:T[m]'(by rw [← HL.out];exact hlt')=s:=by
            rw [List.getElem?_eq_getElem (by rw [← HL.out];exact hlt')] at hs
            exact Option.some.inj hs
          rw [h8]
          exact Lib.hid rfl
        generalize joinB lx s.l side=r at K2 HJ
        clear k2 ho hx hs hjl
        go_wp2_with fail
        go_at_call 198
        (with_reducible refine K2.out.mono ?_)
        rintro e w2 ⟨hr2,ho2⟩
        have HO2:=Lib.hid (HO.out.trans ho2 (Fr.nil _ _))
        clear ho2
        cases r with
        | none=>
          obtain ⟨k,hk,rfl⟩:=hr2
          have hk':(k != 0)=true:=by simp [hk]
          go_wp2_with fail
          go_ret2
          refine ⟨?_,HO2.out⟩
          rw [HJ.out]
          exact ⟨k,hk,rfl⟩
        | some l2=>
          obtain ⟨b2,n2,c2,rfl,hx2⟩:=hr2
          replace hx2:=Lib.hid hx2
          go_wp2_with fail
          go_roundw
          case rel=>exact ⟨m + 1,by omega,by go_num,HO2.out,_,_,_,_,rfl,hx2.out,HJ.out⟩
          case measure=>simp [intOf];omega
      · obtain rfl:m=N:=by omega
        have t1:¬ (m:Int) < m:=by omega
        have HX:=Lib.hid hx
        have HO:=Lib.hid ho
        have HJ:Hid (JL=some lx):=by
          rw [hjl,HL.out,List.drop_length];rfl
        clear hx ho hjl
        go_wp2_with fail
        go_ret2
        refine ⟨?_,HO.out⟩
        rw [HJ.out]
        exact ⟨_,_,_,rfl,HX.out⟩
end
end Go.Proofs.YtnpdcjdmbkcpbaaGreat.Ins
