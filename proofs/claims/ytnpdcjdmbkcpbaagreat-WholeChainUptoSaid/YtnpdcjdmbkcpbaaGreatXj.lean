/- The walks of package roots: sweep at its two questions, fetch. The walks of package roots: forward, backward. A net as it lies; what is known of a chain; the walk of price.Last over a contract of Order. A net as it reads, out of what is told of an argument. No condition. -/
import Derived.Test.YtnpdcjdmbkcpbaaGreatXi
import Derived.Test.YtnpdcjdmbkcpbaaGreatRows
import Derived.Deep.Slices
import Derived.WalkKit
import Derived.ProofKit
import Derived.OpenShut
import Derived.ChangeArms
import Derived.DataShut
set_option linter.unusedVariables false
set_option linter.unusedSimpArgs false
namespace Go.Proofs.YtnpdcjdmbkcpbaaGreat.Ins
open Go.RowKit
theorem sweep_len (π:Nat→Nat) (f:Nat→Bool) (s:LS) (j:Nat):(s.sweep π f j).code.length≤s.code.length + j:=by
  obtain ⟨t,h1,h2,-⟩:=sweep_code (π:=π) f s j
  rw [h1,List.length_append];omega
theorem fetch_len (s:LS):∀ q,(s.fetch q).code.length≤s.code.length + q
  | 0=>by simp [LS.fetch]
  | q + 1=>by
    rw [LS.fetch]
    split
    · omega
    · have:=fetch_len s q
      simp only [LS.comp,List.length_append,List.length_cons,List.length_nil];omega
section
variable {L:LLy} {N:Nat→Prop} {w0:World} {K:Nat→Bool} {s:LS} {w:World}
set_option maxRecDepth 100000 in
set_option maxHeartbeats 4000000 in
theorem sweep116_any {c1 c2:Nat} (f:Nat→Bool) (h:LW L N w0 K s w) (hn:s.code.length≤900000)
    (hk:∀ s' w' p,LW L N w0 K s' w'→Kp N w w'→1≤p→p≤L.n→Calls Tryz.prog 116 #[.int .i64 (L.o p:Nat),.pointer (some ⟨c1,0,none⟩),.pointer (some ⟨c2,0,none⟩)] w' fun e w2=>e = .returned (.bool (f p))∧Oth [] w' w2) :
    Calls Tryz.prog 115 #[.pointer (some ⟨L.q,0,none⟩),.func (.func 116) #[] #[.pointer (some ⟨c1,0,none⟩),.pointer (some ⟨c2,0,none⟩)]] w fun e w'=>e = .returned (.tuple #[])∧LW L N w0 K (s.sweep L.π f L.n) w'∧Kp N w w':=by
  have HK:=Lib.hid hk
  have H:=Lib.hid h
  have hnn:=h.n1
  clear hk h
  go_enter Tryz.func115,Tryz.ntmps115
  go_wp2_with fail
  go_loopw [4] (fun x wr=>∃ m:Nat,m≤L.n∧x = .int .i64 ((m:Int) + 1)∧LW L N w0 K (s.sweep L.π f m) wr∧Kp N w wr) (fun x _=>L.n + 1 - (intOf x).toNat)
  case atStart=>exact ⟨0,by omega,rfl,H.out,Kp.refl _ _⟩
  case round=>
    obtain ⟨m,hm,rfl,hw,hkp⟩:=hrel
    obtain ⟨-,-,-,-,-,-,a7,hq,-⟩:=hw.at_
    by_cases hlt:m < L.n
    · have t1:(m:Int) + 1 < (L.n:Int) + 1:=by omega
      have hpo:=hw.pm.po (m + 1) (by omega)
      have hpp:=hw.pm.ppos (p:=m + 1) (by omega) (by omega)
      have b1:=hw.prAt hpo.1
      rw [hpo.2] at b1
      have b3:=hw.pr.lt
      have e1:IntKind.i64.wrap ((m:Int) + 1 + 1)=(m:Int) + 1 + 1:=IntWalk.i64_in _ (by omega)
      have NF:=Lib.hid (HK.out _ wr _ hw hkp hpp hpo.1)
      rw [hpo.2] at NF
      rw [Int.natCast_add,Int.natCast_one] at NF
      have hsl:=sweep_len L.π f s m
      have ND:Hid (∀ w',Oth [] wr w'→Calls Tryz.prog 65 #[.pointer (some ⟨L.q,0,none⟩),.int .i64 ((m:Int) + 1)] w' fun e w2=>e = .returned (.tuple #[])∧LW L N w0 K ((s.sweep L.π f m).drop (L.π (m + 1))) w2∧Kp N w' w2):=fun w' ho=>by
        have:=ldrop_any (i:=m + 1) (hw.oth ho) (by omega) hpo.1 hpo.2.symm
        rwa [Int.natCast_add,Int.natCast_one] at this
      have HS:Hid (s.sweep L.π f (m + 1)=if (s.sweep L.π f m).pr (L.π (m + 1)) && f (L.π (m + 1)) then (s.sweep L.π f m).drop (L.π (m + 1)) else s.sweep L.π f m):=rfl
      have HW:=Lib.hid (And.intro hw hkp)
      generalize (s.sweep L.π f m).pr (L.π (m + 1))=r at b1 HS
      generalize f (L.π (m + 1))=u at NF HS
      clear hw hkp hpo hpp hsl
      cases r
      · go_wp2_with fail
        go_roundw
        case rel=>exact ⟨m + 1,by omega,by go_num,by rw [HS.out];exact HW.out.1,HW.out.2⟩
        case measure=>simp [intOf];omega
      · cases u
        · go_wp2_with (go_at_call 116;(with_reducible refine NF.out.mono ?_);rintro e w1 ⟨rfl,ho⟩;replace ho:=Lib.hid ho)
          go_roundw
          case rel=>exact ⟨m + 1,by omega,by go_num,by rw [HS.out];exact HW.out.1.oth ho.out,HW.out.2.trans (kp_oth ho.out HW.out.1.rd.lt (by simp))⟩
          case measure=>simp [intOf];omega
        · go_wp2_with (first | (go_at_call 116;(with_reducible refine NF.out.mono ?_);rintro e w1 ⟨rfl,ho⟩;replace ho:=Lib.hid ho) | (go_at_call 65;(with_reducible refine (ND.out _ ho.out).mono ?_);rintro e w2 ⟨rfl,hd⟩;replace hd:=Lib.hid hd))
          go_roundw
          case rel=>exact ⟨m + 1,by omega,by go_num,by rw [HS.out];exact hd.out.1,(HW.out.2.trans (kp_oth ho.out HW.out.1.rd.lt (by simp))).trans hd.out.2⟩
          case measure=>simp [intOf];omega
    · obtain rfl:m=L.n:=by omega
      have t1:¬ (L.n:Int) + 1 < (L.n:Int) + 1:=by omega
      have HW:=Lib.hid (And.intro hw hkp)
      clear hw hkp
      go_wp2_with fail
      go_end0
      exact ⟨rfl,HW.out⟩
set_option maxRecDepth 100000 in
set_option maxHeartbeats 4000000 in
theorem sweep118_any {c1 c2:Nat} (f:Nat→Bool) (h:LW L N w0 K s w) (hn:s.code.length≤900000)
    (hk:∀ s' w' p,LW L N w0 K s' w'→Kp N w w'→1≤p→p≤L.n→Calls Tryz.prog 118 #[.int .i64 (L.o p:Nat),.pointer (some ⟨c1,0,none⟩),.pointer (some ⟨c2,0,none⟩)] w' fun e w2=>e = .returned (.bool (f p))∧Oth [] w' w2) :
    Calls Tryz.prog 115 #[.pointer (some ⟨L.q,0,none⟩),.func (.func 118) #[] #[.pointer (some ⟨c1,0,none⟩),.pointer (some ⟨c2,0,none⟩)]] w fun e w'=>e = .returned (.tuple #[])∧LW L N w0 K (s.sweep L.π f L.n) w'∧Kp N w w':=by
  have HK:=Lib.hid hk
  have H:=Lib.hid h
  have hnn:=h.n1
  clear hk h
  go_enter Tryz.func115,Tryz.ntmps115
  go_wp2_with fail
  go_loopw [4] (fun x wr=>∃ m:Nat,m≤L.n∧x = .int .i64 ((m:Int) + 1)∧LW L N w0 K (s.sweep L.π f m) wr∧Kp N w wr) (fun x _=>L.n + 1 - (intOf x).toNat)
  case atStart=>exact ⟨0,by omega,rfl,H.out,Kp.refl _ _⟩
  case round=>
    obtain ⟨m,hm,rfl,hw,hkp⟩:=hrel
    obtain ⟨-,-,-,-,-,-,a7,hq,-⟩:=hw.at_
    by_cases hlt:m < L.n
    · have t1:(m:Int) + 1 < (L.n:Int) + 1:=by omega
      have hpo:=hw.pm.po (m + 1) (by omega)
      have hpp:=hw.pm.ppos (p:=m + 1) (by omega) (by omega)
      have b1:=hw.prAt hpo.1
      rw [hpo.2] at b1
      have b3:=hw.pr.lt
      have e1:IntKind.i64.wrap ((m:Int) + 1 + 1)=(m:Int) + 1 + 1:=IntWalk.i64_in _ (by omega)
      have NF:=Lib.hid (HK.out _ wr _ hw hkp hpp hpo.1)
      rw [hpo.2] at NF
      rw [Int.natCast_add,Int.natCast_one] at NF
      have hsl:=sweep_len L.π f s m
      have ND:Hid (∀ w',Oth [] wr w'→Calls Tryz.prog 65 #[.pointer (some ⟨L.q,0,none⟩),.int .i64 ((m:Int) + 1)] w' fun e w2=>e = .returned (.tuple #[])∧LW L N w0 K ((s.sweep L.π f m).drop (L.π (m + 1))) w2∧Kp N w' w2):=fun w' ho=>by
        have:=ldrop_any (i:=m + 1) (hw.oth ho) (by omega) hpo.1 hpo.2.symm
        rwa [Int.natCast_add,Int.natCast_one] at this
      have HS:Hid (s.sweep L.π f (m + 1)=if (s.sweep L.π f m).pr (L.π (m + 1)) && f (L.π (m + 1)) then (s.sweep L.π f m).drop (L.π (m + 1)) else s.sweep L.π f m):=rfl
      have HW:=Lib.hid (And.intro hw hkp)
      generalize (s.sweep L.π f m).pr (L.π (m + 1))=r at b1 HS
      generalize f (L.π (m + 1))=u at NF HS
      clear hw hkp hpo hpp hsl
      cases r
      · go_wp2_with fail
        go_roundw
        case rel=>exact ⟨m + 1,by omega,by go_num,by rw [HS.out];exact HW.out.1,HW.out.2⟩
        case measure=>simp [intOf];omega
      · cases u
        · go_wp2_with (go_at_call 118;(with_reducible refine NF.out.mono ?_);rintro e w1 ⟨rfl,ho⟩;replace ho:=Lib.hid ho)
          go_roundw
          case rel=>exact ⟨m + 1,by omega,by go_num,by rw [HS.out];exact HW.out.1.oth ho.out,HW.out.2.trans (kp_oth ho.out HW.out.1.rd.lt (by simp))⟩
          case measure=>simp [intOf];omega
        · go_wp2_with (first | (go_at_call 118;(with_reducible refine NF.out.mono ?_);rintro e w1 ⟨rfl,ho⟩;replace ho:=Lib.hid ho) | (go_at_call 65;(with_reducible refine (ND.out _ ho.out).mono ?_);rintro e w2 ⟨rfl,hd⟩;replace hd:=Lib.hid hd))
          go_roundw
          case rel=>exact ⟨m + 1,by omega,by go_num,by rw [HS.out];exact hd.out.1,(HW.out.2.trans (kp_oth ho.out HW.out.1.rd.lt (by simp))).trans hd.out.2⟩
          case measure=>simp [intOf];omega
    · obtain rfl:m=L.n:=by omega
      have t1:¬ (L.n:Int) + 1 < (L.n:Int) + 1:=by omega
      have HW:=Lib.hid (And.intro hw hkp)
      clear hw hkp
      go_wp2_with fail
      go_end0
      exact ⟨rfl,HW.out⟩
theorem LW.usr_le (n p:Nat) (hp:p≤n):usr n p≤n:=by unfold usr;split <;> omega
set_option maxRecDepth 100000 in
set_option maxHeartbeats 4000000 in
theorem q116_any {c1 c2 m p:Nat} (h:LW L N w0 K s w) (hp:p≤L.n) (hm:m < L.n) (h1:w.cell? ⟨c1,0,none⟩=some (.pointer (some ⟨L.q,0,none⟩))) (h2:w.cell? ⟨c2,0,none⟩=some (.int .i64 m)) :
    Calls Tryz.prog 116 #[.int .i64 (L.o p:Nat),.pointer (some ⟨c1,0,none⟩),.pointer (some ⟨c2,0,none⟩)] w fun e w'=>e = .returned (.bool (!K p && decide (p≠L.n) && decide (usr L.n p≤m + 1)))∧Oth [] w w':=by
  obtain ⟨-,-,a3,-,a5,a6,-,hq,-⟩:=h.at_
  have b1:=h.kpAt hp
  have b2:=h.rd.la p hp
  have b3:=World.block_lt_of_cell? _ _ b1
  have b4:=World.block_lt_of_cell? _ _ b2
  have l1:=World.block_lt_of_cell? _ _ h1
  have l2:=World.block_lt_of_cell? _ _ h2
  have o1:=h.pm.op p hp
  have o2:=h.pm.op L.n (Nat.le_refl _)
  have hn:=h.n1
  have hu:=LW.usr_le L.n p hp
  have t1:(L.o p:Int) < (L.n:Int) + 1:=by omega
  have e1:IntKind.i64.wrap ((m:Int) + 1)=(m:Int) + 1:=IntWalk.i64_in _ (by omega)
  have hne:(p=L.n) ↔ L.o p=L.o L.n:=⟨fun e=>by rw [e],fun e=>by rw [← o1.2,e,o2.2]⟩
  generalize K p=r at b1 ⊢
  generalize usr L.n p=u at b2 hu ⊢
  clear h
  cases r
  · by_cases hpn:p=L.n
    · have t2:((L.o p:Int)=(L.o L.n:Int))=True:=eq_true (by rw [hne.1 hpn])
      have t3:((L.o p:Int) != (L.o L.n:Int))=false:=by simp [hne.1 hpn]
      rw [show (!false && decide (p≠L.n) && decide (u≤m + 1))=false by simp [hpn]]
      clear hne o1 o2 hpn
      generalize L.o L.n=on at *
      generalize L.o p=oi at *
      go_enter Tryz.func116,Tryz.ntmps116
      go_wp2_with fail
      go_quiet (fail)
      go_wp2_with fail
      go_ret
      exact ⟨rfl,(Oth.refl _ _).drewN _⟩
    · have t3:((L.o p:Int) != (L.o L.n:Int))=true:=by simp;omega
      have t2:((L.o p:Int)=(L.o L.n:Int))=False:=eq_false (by omega)
      by_cases hu2:u≤m + 1
      · have t4:((u:Int)≤(m:Int) + 1)=True:=eq_true (by omega)
        rw [show (!false && decide (p≠L.n) && decide (u≤m + 1))=true by simp [hpn,hu2]]
        clear hne o1 o2 hpn hu2
        generalize L.o L.n=on at *
        generalize L.o p=oi at *
        go_enter Tryz.func116,Tryz.ntmps116
        go_wp2_with fail
        go_quiet (fail)
        go_wp2_with fail
        go_ret
        exact ⟨rfl,(Oth.refl _ _).drewN _⟩
      · have t4:((u:Int)≤(m:Int) + 1)=False:=eq_false (by omega)
        rw [show (!false && decide (p≠L.n) && decide (u≤m + 1))=false by simp [hpn,hu2]]
        clear hne o1 o2 hpn hu2
        generalize L.o L.n=on at *
        generalize L.o p=oi at *
        go_enter Tryz.func116,Tryz.ntmps116
        go_wp2_with fail
        go_quiet (fail)
        go_wp2_with fail
        go_ret
        exact ⟨rfl,(Oth.refl _ _).drewN _⟩
  · rw [show (!true && decide (p≠L.n) && decide (u≤m + 1))=false by simp]
    clear hne o1 o2
    generalize L.o L.n=on at *
    generalize L.o p=oi at *
    go_enter Tryz.func116,Tryz.ntmps116
    go_wp2_with fail
    go_quiet (fail)
    go_wp2_with fail
    go_ret
    exact ⟨rfl,(Oth.refl _ _).drewN _⟩
set_option maxRecDepth 100000 in
set_option maxHeartbeats 4000000 in
theorem q118_any {c1 c2 m p:Nat} (h:LW L N w0 K s w) (hp:p≤L.n) (h1:w.cell? ⟨c1,0,none⟩=some (.pointer (some ⟨L.q,0,none⟩))) (h2:w.cell? ⟨c2,0,none⟩=some (.int .i64 m)) :
    Calls Tryz.prog 118 #[.int .i64 (L.o p:Nat),.pointer (some ⟨c1,0,none⟩),.pointer (some ⟨c2,0,none⟩)] w fun e w'=>e = .returned (.bool (!K p || decide (m≤usr L.n p)))∧Oth [] w w':=by
  obtain ⟨-,-,-,a4,-,a6,-,hq,-⟩:=h.at_
  have b1:=h.kpAt hp
  have b2:=h.rd.fi p hp
  have b3:=World.block_lt_of_cell? _ _ b1
  have b4:=World.block_lt_of_cell? _ _ b2
  have l1:=World.block_lt_of_cell? _ _ h1
  have l2:=World.block_lt_of_cell? _ _ h2
  have o1:=h.pm.op p hp
  have hn:=h.n1
  have t1:(L.o p:Int) < (L.n:Int) + 1:=by omega
  generalize K p=r at b1 ⊢
  generalize usr L.n p=u at b2 ⊢
  clear h o1
  generalize L.o p=oi at *
  cases r
  · go_enter Tryz.func118,Tryz.ntmps118
    go_wp2_with fail
    go_quiet (fail)
    go_wp2_with fail
    go_ret
    exact ⟨rfl,(Oth.refl _ _).drewN _⟩
  · by_cases hu2:m≤u
    · have t4:((m:Int)≤(u:Int))=True:=eq_true (by omega)
      rw [show (!true || decide (m≤u))=true by simp [hu2]]
      go_enter Tryz.func118,Tryz.ntmps118
      go_wp2_with fail
      go_quiet (fail)
      go_wp2_with fail
      go_ret
      exact ⟨by simp <;> omega,(Oth.refl _ _).drewN _⟩
    · have t4:((m:Int)≤(u:Int))=False:=eq_false (by omega)
      rw [show (!true || decide (m≤u))=false by simp [hu2]]
      go_enter Tryz.func118,Tryz.ntmps118
      go_wp2_with fail
      go_quiet (fail)
      go_wp2_with fail
      go_ret
      exact ⟨by simp <;> omega,(Oth.refl _ _).drewN _⟩
set_option maxRecDepth 100000 in
set_option maxHeartbeats 4000000 in
theorem fetch_any:∀ (p:Nat) (s:LS) (w:World),LW L N w0 K s w→s.code.length≤60000→s.pr 0=true→p≤L.n →
    Calls Tryz.prog 117 #[.pointer (some ⟨L.q,0,none⟩),.int .i64 (L.o p:Nat)] w fun e w'=>e = .returned (.tuple #[])∧LW L N w0 K (s.fetch p) w'∧Kp N w w'
  | 0,s,w,h,hn,h0,hp=>by
    obtain ⟨-,-,-,-,-,-,a7,hq,-⟩:=h.at_
    have b1:=h.prAt hp
    rw [h0] at b1
    have b3:=h.pr.lt
    have hnn:=h.n1
    rw [h.pm.o0] at b1 ⊢
    have H:=Lib.hid h
    clear h
    go_enter Tryz.func117,Tryz.ntmps117
    go_wp2_with fail
    refine bodyPost_ret (results_none rfl _ _ _) rfl ?_
    exact ⟨rfl,H.out,Kp.refl _ _⟩
  | p + 1,s,w,h,hn,h0,hp=>by
    obtain ⟨a1,-,-,-,-,-,a7,hq,-⟩:=h.at_
    have b1:=h.prAt hp
    have b3:=h.pr.lt
    have hnn:=h.n1
    have o1:=h.pm.op (p + 1) hp
    have o2:=h.pm.opos (p:=p + 1) (by omega) hp
    have NM:Hid (∀ w',Oth [] w w'→Calls Tryz.prog 67 #[.pointer (some ⟨L.q,0,none⟩)] w' fun e w2=>e = .returned (.bool false)∧w2=w'):=fun w' ho=>many_any (h.oth ho) (by omega)
    have NR:Hid (∀ w',Oth [] w w'→Calls Tryz.prog 117 #[.pointer (some ⟨L.q,0,none⟩),.int .i64 (L.o p:Nat)] w' fun e w2=>e = .returned (.tuple #[])∧LW L N w0 K (s.fetch p) w2∧Kp N w' w2):=fun w' ho=>fetch_any p s w' (h.oth ho) hn h0 (by omega)
    have hfl:=fetch_len s p
    obtain ⟨i,hi⟩:∃ i,i=L.o (p + 1):=⟨_,rfl⟩
    have NC:Hid (∀ w',LW L N w0 K (s.fetch p) w'→Calls Tryz.prog 114 #[.pointer (some ⟨L.q,0,none⟩),.int .i64 2,.int .i64 i] w' fun e w2=>e = .returned (.tuple #[])∧LW L N w0 K ((s.fetch p).comp 2 (p + 1)) w2∧Kp N w' w2):=fun w' hw=>lcomp_any (k:=2) hw (by omega) hp hi
    obtain ⟨gi,oi,ci,n1,n2,n3⟩:=h.rd.nd p (by omega)
    have l1:=World.block_lt_of_cell? _ _ n1
    have l2:=World.block_lt_of_cell? _ _ n2
    have HS:Hid (s.fetch (p + 1)=if s.pr (p + 1) then s else (s.fetch p).comp 2 (p + 1)):=rfl
    have H:=Lib.hid h
    rw [← hi] at b1 o1 o2 n1 ⊢
    obtain ⟨j,hj⟩:∃ j,i=j + 1:=⟨i - 1,by omega⟩
    obtain ⟨hjn,-⟩:=o1
    subst hj
    rw [show j + 1 - 1=j by omega] at n1
    generalize L.o p=op at *
    have t1:(j:Int) + 1 < (L.n:Int) + 1:=by omega
    have t2:(j:Int) < (L.n:Int):=by omega
    have e1:IntKind.i64.wrap ((j:Int))=(j:Int):=IntWalk.i64_in _ (by omega)
    have e2:(j:Int) + 1 - 1=(j:Int):=by omega
    generalize s.pr (p + 1)=r at b1 HS
    have NC':Hid (∀ w',LW L N w0 K (s.fetch p) w'→Calls Tryz.prog 114 #[.pointer (some ⟨L.q,0,none⟩),.int .i64 2,.int .i64 ((j:Int) + 1)] w' fun e w2=>e = .returned (.tuple #[])∧LW L N w0 K ((s.fetch p).comp 2 (p + 1)) w2∧Kp N w' w2):=fun w' hw=>by
      have h9:=NC.out w' hw
      rwa [Int.natCast_add,Int.natCast_one] at h9
    clear h hi hfl NC
    cases r
    · go_enter Tryz.func117,Tryz.ntmps117
      go_wp2_with (go_at_call 67;(with_reducible refine (NM.out _ (Oth.refl _ _)).mono ?_);rintro e w1 ⟨rfl,rfl⟩)
      refine wp_loop_rounds 2 ?_
      rw [rounds_succ]
      go_wp2_with (go_at_call 117;(with_reducible refine (NR.out _ (Oth.refl _ _)).mono ?_);rintro e w2 ⟨rfl,h2⟩;replace h2:=Lib.hid h2)
      rw [rounds_succ]
      go_wp2_with (go_at_call 114;(with_reducible refine (NC'.out _ h2.out.1).mono ?_);rintro e w3 ⟨rfl,h3⟩;replace h3:=Lib.hid h3)
      go_end0
      exact ⟨rfl,by rw [HS.out];exact h3.out.1,h2.out.2.trans h3.out.2⟩
    · go_enter Tryz.func117,Tryz.ntmps117
      go_wp2_with fail
      refine bodyPost_ret (results_none rfl _ _ _) rfl ?_
      exact ⟨rfl,by rw [HS.out];exact H.out,Kp.refl _ _⟩
end
end Go.Proofs.YtnpdcjdmbkcpbaaGreat.Ins
namespace Go.Proofs.YtnpdcjdmbkcpbaaGreat.Ins
open Go.RowKit
section
variable {L:LLy} {N:Nat→Prop} {w0:World} {K:Nat→Bool} {s:LS} {w:World}
theorem LW.more {w1:World} (h:LW L N w0 K s w) (ho:Oth [] w w1) (g:Nat) (hg:w.heap.size≤g) (hg2:g < w1.heap.size):LW L (fun k=>N k∨k=g) w0 K s w1:=by
  have h1:=h.oth ho
  obtain ⟨v,v1,v2,v3⟩:=h.v
  have hv:=v2.lt
  obtain ⟨v',u1,u2,u3⟩:=h1.v
  have e1:=lt_of_block v1
  have e2:=h.pr.lt
  have e3:=h.kp.lt
  obtain ⟨n1,n2,n3,n4,n5,n6⟩:=h.ne
  refine ⟨⟨v,ho.heap v1 (by simp),Row.own v2 ho (fun g hg=>by simp),fun b hb=>?_⟩,h1.pr,h1.kp,?_,⟨n1,n2,n3,?_,?_,?_⟩,h1.lo,h1.o,h1.pm,h1.n1⟩
  · obtain ⟨a1,a2,a3,a4,a5⟩:=v3 b hb
    have:=(hv b hb).2
    exact ⟨a1,a2,a3,by rintro (e | e);exact a4 e;omega,a5⟩
  · refine ⟨h1.rd.od,h1.rd.la,h1.rd.fi,fun p hp=>?_,⟨.inl h1.rd.nn.1,.inl h1.rd.nn.2.1,.inl h1.rd.nn.2.2.1,.inl h1.rd.nn.2.2.2⟩,?_⟩
    · obtain ⟨gi,oi,ci,a1,a2,a3⟩:=h1.rd.nd p hp
      exact ⟨gi,oi,ci,a1,a2,.inl a3⟩
    · rintro k (e | e)
      · exact h1.rd.lt k e
      · rw [e];exact hg2
  · rintro (e | e)
    · exact n4 e
    · omega
  · rintro (e | e)
    · exact n5 e
    · omega
  · rintro (e | e)
    · exact n6 e
    · omega
theorem LW.back {N':Nat→Prop} {w1:World} (h:LW L N' w0 K s w1) (hN:∀ k,N k→N' k) (h0:LRd L N w) (k:Kp N w w1):LW L N w0 K s w1:=by
  obtain ⟨v,v1,v2,v3⟩:=h.v
  obtain ⟨n1,n2,n3,n4,n5,n6⟩:=h.ne
  exact ⟨⟨v,v1,v2,fun b hb=>⟨(v3 b hb).1,(v3 b hb).2.1,(v3 b hb).2.2.1,fun e=>(v3 b hb).2.2.2.1 (hN _ e),(v3 b hb).2.2.2.2⟩⟩,h.pr,h.kp,h0.kept k,⟨n1,n2,n3,fun e=>n4 (hN _ e),fun e=>n5 (hN _ e),fun e=>n6 (hN _ e)⟩,h.lo,h.o,h.pm,h.n1⟩
theorem kp_of {w':World} (h:LRd L N w) (ho:Oth [] w w'):Kp N w w':=kp_oth ho h.lt (by simp)
set_option maxRecDepth 100000 in
set_option maxHeartbeats 4000000 in
theorem forward_any (h:LW L N w0 K LS.start w) :
    Calls Tryz.prog 63 #[.pointer (some ⟨L.q,0,none⟩)] w fun e w'=>e = .returned (.tuple #[])∧LW L N w0 K (LS.fwd L.π K L.n L.n) w'∧Kp N w w':=by
  obtain ⟨-,a2,-,-,-,-,-,hq,-⟩:=h.at_
  have hn:=h.n1
  have H:=Lib.hid h
  have ho1:Oth [] w (w.alloc (.cells #[.pointer (some ⟨L.q,0,none⟩)] 149)):=(Oth.refl _ _).alloc _
  have H1:=Lib.hid (h.more ho1 w.heap.size (Nat.le_refl _) (by simp))
  have K1:=Lib.hid (kp_of h.rd ho1)
  have hc1:(w.alloc (.cells #[.pointer (some ⟨L.q,0,none⟩)] 149)).cell? ⟨w.heap.size,0,none⟩=some (.pointer (some ⟨L.q,0,none⟩)):=by
    rw [World.cell?,heap_alloc_new];rfl
  have HC1:=Lib.hid hc1
  clear h ho1 hc1
  go_enter Tryz.func63,Tryz.ntmps63
  go_wp2_with fail
  go_loopw [9] (fun x wr=>∃ m:Nat,m≤L.n∧x = .int .i64 m∧LW L (fun k=>N k∨k=w.heap.size) w0 K (LS.fwd L.π K L.n m) wr∧Kp (fun k=>N k∨k=w.heap.size) (w.alloc (.cells #[.pointer (some ⟨L.q,0,none⟩)] 149)) wr) (fun x _=>L.n - (intOf x).toNat)
  case atStart=>exact ⟨0,by omega,rfl,H1.out,Kp.refl _ _⟩
  case round=>
    obtain ⟨m,hm,rfl,hw,hk⟩:=hrel
    by_cases hlt:m < L.n
    · have t1:(m:Int) < L.n:=by omega
      have b1:=hw.rd.od m hlt
      have b2:=World.block_lt_of_cell? _ _ b1
      have e1:IntKind.i64.wrap ((m:Int) + 1)=(m:Int) + 1:=IntWalk.i64_in _ (by omega)
      have c1:=hk.cell HC1.out (.inr rfl)
      have c2:=World.block_lt_of_cell? _ _ c1
      have ho2:Oth [] wr (wr.alloc (.cells #[.int .i64 m] 3)):=(Oth.refl _ _).alloc _
      have h2:=hw.more ho2 wr.heap.size (Nat.le_refl _) (by simp)
      have k2:=kp_of hw.rd ho2
      have hc2:(wr.alloc (.cells #[.int .i64 m] 3)).cell? ⟨wr.heap.size,0,none⟩=some (.int .i64 m):=by
        rw [World.cell?,heap_alloc_new];rfl
      have hc1':=ho2.cell c1 (by simp)
      have hfl:=(fwd_code (π:=L.π) (K:=K) (n:=L.n) [] m).2
      have hml:m * (L.n + 1)≤64 * 65:=Nat.mul_le_mul (by omega) (by omega)
      obtain ⟨i,hi⟩:∃ i,i=L.o (m + 1):=⟨_,rfl⟩
      have NC:Hid (Calls Tryz.prog 114 #[.pointer (some ⟨L.q,0,none⟩),.int .i64 1,.int .i64 i] (wr.alloc (.cells #[.int .i64 m] 3)) fun e w2=>e = .returned (.tuple #[])∧LW L (fun k=>(N k∨k=w.heap.size)∨k=wr.heap.size) w0 K ((LS.fwd L.π K L.n m).comp 1 (m + 1)) w2∧Kp (fun k=>(N k∨k=w.heap.size)∨k=wr.heap.size) (wr.alloc (.cells #[.int .i64 m] 3)) w2):=lcomp_any (k:=1) h2 (by omega) (by omega) hi
      rw [← hi] at b1
      have NS:Hid (∀ w',LW L (fun k=>(N k∨k=w.heap.size)∨k=wr.heap.size) w0 K ((LS.fwd L.π K L.n m).comp 1 (m + 1)) w'→Kp (fun k=>(N k∨k=w.heap.size)∨k=wr.heap.size) (wr.alloc (.cells #[.int .i64 m] 3)) w' →
          w'.cell? ⟨w.heap.size,0,none⟩=some (.pointer (some ⟨L.q,0,none⟩))∧Calls Tryz.prog 115 #[.pointer (some ⟨L.q,0,none⟩),.func (.func 116) #[] #[.pointer (some ⟨w.heap.size,0,none⟩),.pointer (some ⟨wr.heap.size,0,none⟩)]] w' fun e w2=>e = .returned (.tuple #[])∧LW L (fun k=>(N k∨k=w.heap.size)∨k=wr.heap.size) w0 K (LS.fwd L.π K L.n (m + 1)) w2∧Kp (fun k=>(N k∨k=w.heap.size)∨k=wr.heap.size) w' w2):=by
        intro w' hw' hk'
        have d1:=hk'.cell hc1' (.inl (.inr rfl))
        have d2:=hk'.cell hc2 (.inr rfl)
        refine ⟨d1,sweep116_any (fun q=>!K q && decide (q≠L.n) && decide (usr L.n q≤m + 1)) hw' ?_ (fun s' w'' p hw'' hk'' h1 h2=>q116_any hw'' h2 hlt (hk''.cell d1 (.inl (.inr rfl))) (hk''.cell d2 (.inr rfl)))⟩
        simp only [LS.comp,List.length_append,List.length_cons,List.length_nil];omega
      have HK:=Lib.hid (And.intro hw (And.intro hk k2))
      clear hw hk h2 k2 hc2 hc1' hfl hml ho2 hi
      go_wp2_with (first
        | (go_at_call 114;(with_reducible refine NC.out.mono ?_);rintro e w3 ⟨rfl,h3,k3⟩;obtain ⟨d1,d2⟩:=NS.out _ h3 k3;have d3:=World.block_lt_of_cell? _ _ d1;replace d2:=Lib.hid d2;replace k3:=Lib.hid k3;clear h3)
        | (go_at_call 115;(with_reducible refine d2.out.mono ?_);rintro e w4 ⟨rfl,h4,k4⟩;replace h4:=Lib.hid (And.intro h4 k4);clear k4))
      go_roundw
      case rel=>
        have kk:=HK.out.2.2.trans ((k3.out.trans h4.out.2).less (fun k hk=>.inl hk))
        exact ⟨m + 1,by omega,by go_num,h4.out.1.back (fun k hk=>.inl hk) HK.out.1.rd kk,HK.out.2.1.trans kk⟩
      case measure=>simp [intOf];omega
    · obtain rfl:m=L.n:=by omega
      have t1:¬ (L.n:Int) < (L.n:Int):=by omega
      have HW:=Lib.hid (And.intro hw hk)
      clear hw hk
      go_wp2_with fail
      go_end0
      have kk:=K1.out.trans (HW.out.2.less (fun k hk=>.inl hk))
      exact ⟨rfl,HW.out.1.back (fun k hk=>.inl hk) H.out.rd kk,kk⟩
theorem bwd_zero (hP:Perm L.n L.o L.π) (hn:1≤L.n) (m:Nat) (hm:m≤L.n):(LS.bwd L.π K L.n m).pr 0=true:=by
  rw [bwd_pr hP hn m hm 0 (by omega)];simp
set_option maxRecDepth 100000 in
set_option maxHeartbeats 8000000 in
theorem backward_any (h:LW L N w0 K (LS.mid L.π K L.n) w) :
    Calls Tryz.prog 66 #[.pointer (some ⟨L.q,0,none⟩)] w fun e w'=>e = .returned (.tuple #[])∧LW L N w0 K (LS.low L.π K L.n) w'∧Kp N w w':=by
  obtain ⟨-,a2,-,-,-,-,-,hq,-⟩:=h.at_
  have hn:=h.n1
  have hpm:=h.pm
  have H:=Lib.hid h
  have ho1:Oth [] w (w.alloc (.cells #[.pointer (some ⟨L.q,0,none⟩)] 149)):=(Oth.refl _ _).alloc _
  have h1:=h.more ho1 w.heap.size (Nat.le_refl _) (by simp)
  have K1:=Lib.hid (kp_of h.rd ho1)
  have hc1:(w.alloc (.cells #[.pointer (some ⟨L.q,0,none⟩)] 149)).cell? ⟨w.heap.size,0,none⟩=some (.pointer (some ⟨L.q,0,none⟩)):=by
    rw [World.cell?,heap_alloc_new];rfl
  have HC1:=Lib.hid hc1
  have ho2:Oth [] (w.alloc (.cells #[.pointer (some ⟨L.q,0,none⟩)] 149)) ((w.alloc (.cells #[.pointer (some ⟨L.q,0,none⟩)] 149)).alloc (.cells #[.int .i64 L.n] 3)):=(Oth.refl _ _).alloc _
  have h2:=h1.more ho2 (w.heap.size + 1) (by simp) (by simp)
  have H2:=Lib.hid (And.intro h2 (kp_of h1.rd ho2))
  have HB2:Hid (((w.alloc (.cells #[.pointer (some ⟨L.q,0,none⟩)] 149)).alloc (.cells #[.int .i64 L.n] 3)).heap[w.heap.size + 1]?=some (.cells #[.int .i64 L.n] 3 (0,0))):=by
    have:=heap_alloc_new (w.alloc (.cells #[.pointer (some ⟨L.q,0,none⟩)] 149)) (.cells #[.int .i64 L.n] 3)
    rw [World.size_alloc] at this;exact this
  have H1:=Lib.hid h1
  clear h h1 h2 ho1 ho2 hc1
  go_enter Tryz.func66,Tryz.ntmps66
  go_wp2_with fail
  go_loopw [2] (fun x wr=>∃ m g:Nat,m≤L.n∧x = .pointer (some ⟨g,0,none⟩)∧wr.heap[g]?=some (.cells #[.int .i64 ((L.n - m:Nat):Int)] 3 (0,0))∧LW L (fun k=>(N k∨k=w.heap.size)∨k=g) w0 K (LS.bwd L.π K L.n m) wr∧Kp (fun k=>N k∨k=w.heap.size) (w.alloc (.cells #[.pointer (some ⟨L.q,0,none⟩)] 149)) wr) (fun x wr=>match x with | .pointer (some a)=>(intOf ((wr.cell? a).getD undef)).toNat | _=>0)
  case atStart=>exact ⟨0,w.heap.size + 1,by omega,rfl,HB2.out,H2.out.1,H2.out.2⟩
  case round=>
    obtain ⟨m,g,hm,rfl,hg,hw,hk⟩:=hrel
    have c1:=hk.cell HC1.out (.inr rfl)
    have c2:=World.block_lt_of_cell? _ _ c1
    have g1:=cell_of_one hg
    have g2:=lt_of_block hg
    have g3:=free_of_one hg
    obtain ⟨q1,q2,-,-,-,-,-,q8,-⟩:=hw.at_
    by_cases hlt:m < L.n
    · obtain ⟨p,hp⟩:∃ p,L.n - m=p + 1:=⟨L.n - m - 1,by omega⟩
      rw [hp] at g1 hg
      rw [Int.natCast_add,Int.natCast_one] at g1 hg
      have t1:(1:Int)≤(p:Int) + 1:=by omega
      have t2:(p:Int) < (L.n:Int):=by omega
      have e1:IntKind.i64.wrap (p:Int)=(p:Int):=IntWalk.i64_in _ (by omega)
      have e0:(p:Int) + 1 - 1=(p:Int):=by omega
      have b1:=hw.rd.od p (by omega)
      have b2:=World.block_lt_of_cell? _ _ b1
      obtain ⟨gi,oi,ci,n1,n2,n3⟩:=hw.rd.nd p (by omega)
      have l1:=World.block_lt_of_cell? _ _ n1
      have l2:=World.block_lt_of_cell? _ _ n2
      have hbl:=(bwd_code (K:=K) hpm hn.1 [] m (by omega)).2
      have hml:L.n * (L.n + 1)≤64 * 65:=Nat.mul_le_mul (by omega) (by omega)
      have hml2:m * (2 * L.n + 1)≤64 * 129:=Nat.mul_le_mul (by omega) (by omega)
      have hz:=bwd_zero (K:=K) hpm hn.1 m (by omega)
      have hfl:=fetch_len (LS.bwd L.π K L.n m) p
      have NM:Hid (∀ w',Oth [] wr w'→Calls Tryz.prog 67 #[.pointer (some ⟨L.q,0,none⟩)] w' fun e w2=>e = .returned (.bool false)∧w2=w'):=fun w' ho=>many_any (hw.oth ho) (by omega)
      have NF:Hid (∀ w',Oth [] wr w'→Calls Tryz.prog 117 #[.pointer (some ⟨L.q,0,none⟩),.int .i64 (L.o p:Nat)] w' fun e w2=>e = .returned (.tuple #[])∧LW L (fun k=>(N k∨k=w.heap.size)∨k=g) w0 K ((LS.bwd L.π K L.n m).fetch p) w2∧Kp (fun k=>(N k∨k=w.heap.size)∨k=g) w' w2):=fun w' ho=>fetch_any p _ w' (hw.oth ho) (by omega) hz (by omega)
      have o1:=hpm.op (p + 1) (by omega)
      have o2:=hpm.opos (p:=p + 1) (by omega) (by omega)
      obtain ⟨i,hi⟩:∃ i,i=L.o (p + 1):=⟨_,rfl⟩
      have NA:Hid (∀ w',LW L (fun k=>(N k∨k=w.heap.size)∨k=g) w0 K ((LS.bwd L.π K L.n m).fetch p) w'→Calls Tryz.prog 64 #[.pointer (some ⟨L.q,0,none⟩),.int .i64 6,.int .i64 i] w' fun e w2=>e = .returned (.tuple #[])∧LW L (fun k=>(N k∨k=w.heap.size)∨k=g) w0 K (((LS.bwd L.π K L.n m).fetch p).add 6 (p + 1)) w2∧Kp (fun k=>(N k∨k=w.heap.size)∨k=g) w' w2):=fun w' hw'=>ladd_any (k:=6) hw' (by omega) hi
      have HNEXT:Hid (LS.bwd L.π K L.n (m + 1)=(((LS.bwd L.π K L.n m).fetch p).add 6 (p + 1)).sweep L.π (fun q=>!K q || decide (p + 1≤usr L.n q)) L.n):=by
        show LS.bwd L.π K L.n (m + 1)=_
        rw [LS.bwd,hp,show p + 1 - 1=p by omega]
      have NS:Hid (∀ w',LW L (fun k=>(N k∨k=w.heap.size)∨k=g) w0 K (((LS.bwd L.π K L.n m).fetch p).add 6 (p + 1)) w'→Kp (fun k=>(N k∨k=w.heap.size)∨k=g) wr w' →
          w'.cell? ⟨w.heap.size,0,none⟩=some (.pointer (some ⟨L.q,0,none⟩))∧Calls Tryz.prog 115 #[.pointer (some ⟨L.q,0,none⟩),.func (.func 118) #[] #[.pointer (some ⟨w.heap.size,0,none⟩),.pointer (some ⟨g,0,none⟩)]] w' fun e w2=>e = .returned (.tuple #[])∧LW L (fun k=>(N k∨k=w.heap.size)∨k=g) w0 K (LS.bwd L.π K L.n (m + 1)) w2∧Kp (fun k=>(N k∨k=w.heap.size)∨k=g) w' w2):=by
        intro w' hw' hk'
        have d1:=hk'.cell c1 (.inl (.inr rfl))
        have d2:=hk'.cell g1 (.inr rfl)
        rw [HNEXT.out]
        refine ⟨d1,sweep118_any (fun q=>!K q || decide (p + 1≤usr L.n q)) hw' ?_ (fun s' w'' p' hw'' hk'' h1 h2=>q118_any (m:=p + 1) hw'' h2 (hk''.cell d1 (.inl (.inr rfl))) (by rw [Int.natCast_add,Int.natCast_one];exact hk''.cell d2 (.inr rfl)))⟩
        simp only [LS.add,List.length_append,List.length_cons,List.length_nil];omega
      rw [← hi] at b1 o1 o2 n1
      obtain ⟨j,rfl⟩:∃ j,i=j + 1:=⟨i - 1,by omega⟩
      rw [show j + 1 - 1=j by omega] at n1
      rw [Int.natCast_add,Int.natCast_one] at b1 NA
      have t3:(j:Int) < (L.n:Int):=by omega
      have e3:IntKind.i64.wrap (j:Int)=(j:Int):=IntWalk.i64_in _ (by omega)
      have e4:(j:Int) + 1 - 1=(j:Int):=by omega
      have HK:=Lib.hid (And.intro hw hk)
      have HG:=Lib.hid hg
      generalize L.o p=op at *
      clear hw hk hbl hml hml2 hz hfl hi o1 hg
      go_wp2_with (go_at_call 67;(with_reducible refine (NM.out _ (Oth.refl _ _)).mono ?_);rintro e w1 ⟨rfl,rfl⟩)
      go_quiet (fail)
      go_wp2_with fail
      refine wp_loop_rounds 2 ?_
      rw [rounds_succ]
      go_wp2_with (go_at_call 117;(with_reducible refine (NF.out _ ((Oth.refl _ _).drewN _)).mono ?_);rintro e w2 ⟨rfl,h2,k2⟩;have kk2:=(kp_of HK.out.1.rd ((Oth.refl _ _).drewN nq)).trans k2;replace c1:=kk2.cell c1 (.inl (.inr rfl));replace g1:=kk2.cell g1 (.inr rfl);replace c2:=World.block_lt_of_cell? _ _ c1;replace kk2:=Lib.hid kk2;replace h2:=Lib.hid h2;clear k2)
      rw [rounds_succ]
      go_wp2_with (first
        | (go_at_call 64;(with_reducible refine (NA.out _ h2.out).mono ?_);rintro e w3 ⟨rfl,h3,k3⟩;have kk3:=kk2.out.trans k3;replace g1:=k3.cell g1 (.inr rfl);obtain ⟨d1,d2⟩:=NS.out _ h3 kk3;clear c1 c2;have c2:=World.block_lt_of_cell? _ _ d1;replace kk3:=Lib.hid kk3;replace d2:=Lib.hid d2;clear k3 h3)
        | (go_at_call 115;(with_reducible refine d2.out.mono ?_);rintro e w4 ⟨rfl,h4,k4⟩;have kk4:=kk3.out.trans k4;replace g1:=k4.cell g1 (.inr rfl);clear c2 d1;have c2:=World.block_lt_of_cell? _ _ g1;replace kk4:=Lib.hid kk4;replace h4:=Lib.hid h4;clear k4))
      go_roundw
      case rel=>
        have kk:=HK.out.2.trans (kk4.out.less (fun k hk=>.inl hk))
        have hb:=h4.out.back (N:=fun k=>N k∨k=w.heap.size) (fun k hk=>.inl hk) H1.out.rd kk
        refine ⟨m + 1,w4.heap.size,by omega,rfl,?_,hb.more ((Oth.refl _ _).alloc _) _ (Nat.le_refl _) (by simp),kk.trans (kp_of hb.rd ((Oth.refl _ _).alloc _))⟩
        rw [show L.n - (m + 1)=p by omega]
        exact heap_alloc_new _ _
      case measure=>
        have m1:(w4.alloc (.cells #[.int .i64 (p:Int)] 3)).cell? ⟨w4.heap.size,0,none⟩=some (.int .i64 p):=by rw [World.cell?,heap_alloc_new];rfl
        have m2:=cell_of_one HG.out
        simp [m1,m2,intOf]
    · obtain rfl:m=L.n:=by omega
      rw [Nat.sub_self] at g1
      have t1:¬ (1:Int)≤(0:Int):=by omega
      have HW:=Lib.hid (And.intro hw hk)
      clear hw hk
      go_wp2_with fail
      go_end0
      have kk:=K1.out.trans (HW.out.2.less (fun k hk=>.inl hk))
      exact ⟨rfl,HW.out.1.back (fun k hk=>.inl (.inl hk)) H.out.rd kk,kk⟩
end
end Go.Proofs.YtnpdcjdmbkcpbaaGreat.Ins
namespace Go.Proofs.YtnpdcjdmbkcpbaaGreat.Ins
open Go.RowKit
def Nms (g:Nat) (f:Nat→Int) (n c:Nat) (w:World):Prop:=Row 3 1 g n c ((List.range n).map fun i=>.int .i64 (f i)) w
theorem Nms.oth {g n c:Nat} {f:Nat→Int} {w w':World} {S:List Nat} (h:Nms g f n c w) (ho:Oth S w w') (hg:g∉S):Nms g f n c w':=Row.oth h ho hg
theorem Nms.at_ {g n c:Nat} {f:Nat→Int} {w:World} (h:Nms g f n c w) {i:Nat} (hi:i < n):w.cell? ⟨g,i,none⟩=some (.int .i64 (f i)):=Row.cell h (by simp [hi])
theorem Nms.free {g n c:Nat} {f:Nat→Int} {w:World} (h:Nms g f n c w) (i:Nat):w.frozen? ⟨g,i,none⟩=false:=Row.free h i
theorem Nms.lt {g n c:Nat} {f:Nat→Int} {w:World} (h:Nms g f n c w):g < w.heap.size:=Row.lt h
theorem Nms.ext {g n c:Nat} {f f':Nat→Int} {w:World} (h:Nms g f n c w) (hf:∀ i,i < n→f i=f' i):Nms g f' n c w:=by
  unfold Nms at h ⊢
  rwa [show ((List.range n).map fun i=>Value.int .i64 (f' i))=(List.range n).map fun i=>Value.int .i64 (f i) from List.map_congr_left fun i hi=>by rw [hf i (by simpa using hi)]]
theorem Nms.set {g n c:Nat} {f:Nat→Int} {w:World} (h:Nms g f n c w) (i:Nat) (x:Int):Nms g (fun j=>if j=i then x else f j) n c (w.setCell ⟨g,i,none⟩ (.int .i64 x)):=by
  have h2:=Row.set h i (.int .i64 x)
  unfold Nms
  have e:((List.range n).map fun j=>Value.int .i64 (f j)).set i (.int .i64 x)=(List.range n).map fun j=>.int .i64 (if j=i then x else f j):=by
    apply List.ext_getElem
    · simp
    · intro k h1 h2
      simp only [List.getElem_set,List.getElem_map,List.getElem_range]
      by_cases e:i=k
      · subst e;simp
      · rw [if_neg e,if_neg (fun x=>e x.symm)]
  rw [← e];exact h2
theorem nms_zero {g n:Nat} {w:World} (h:w.heap[g]?=some (.cells (madeCells #[.int .i64 0] n) 3 (0,0))) (hm:n≤maxLen):Nms g (fun _=>0) n n w:=by
  unfold Nms
  have e:(List.range n).map (fun _=>Value.int .i64 (0:Int))=List.replicate n (.int .i64 0):=by
    rw [List.eq_replicate_iff]
    exact ⟨by simp,fun b hb=>by obtain ⟨i,-,rfl⟩:=List.mem_map.1 hb;rfl⟩
  rw [e]
  have h2:w.heap[g]?=some (.cells (List.replicate n (Value.int .i64 0)).toArray 3 (0,0)):=by
    rw [← toList_madeCells_one];exact h
  exact row_of_list h2 (by simp) hm
structure ND where
  op:OpD
  bi:Option Addr
  (ni ci:Nat)
  ins:List Int
  bp:Option Addr
  (np cp:Nat)
  P:List Sh
def ND.cells (d:ND):List Value:=[.int .i64 d.op.kind,.int .i64 d.op.k,.int .i64 d.op.width,.int .i64 d.op.step,.int .i64 d.op.side,.int .i64 d.op.fr,.int .i64 d.op.to,.slice d.op.b d.op.n d.op.c,.slice d.bi d.ni d.ci,.slice d.bp d.np d.cp]
structure ND.R (d:ND) (w:World):Prop where
  op:d.op.R w
  ins:RI d.bi d.ni d.ci d.ins w
  p:RL d.bp d.np d.cp d.P w
theorem ND.R.oth {d:ND} {w w':World} (h:d.R w) (ho:Oth [] w w'):d.R w':=⟨h.op.oth ho,h.ins.oth ho,h.p.oth ho⟩
structure NetD where
  i:Sh
  b:Option Addr
  (n c:Nat)
  L:List ND
def NetD.val (D:NetD):Value:=.agg #[D.i.val,.slice D.b D.n D.c]
structure NetD.R (D:NetD) (w:World):Prop where
  i:D.i.R w
  len:D.n=D.L.length
  cap:D.n≤D.c∧D.c≤maxLen
  at_:∀ k d,D.L[k]?=some d→∃ g off,D.b=some ⟨g,off,none⟩∧(∀ j v,d.cells[j]?=some v→w.cell? ⟨g,off + k * 10 + j,none⟩=some v)∧d.R w
theorem NetD.R.oth {D:NetD} {w w':World} (h:D.R w) (ho:Oth [] w w'):D.R w':=by
  refine ⟨RI.oth h.i ho,h.len,h.cap,fun k d hk=>?_⟩
  obtain ⟨g,off,h1,h2,h3⟩:=h.at_ k d hk
  exact ⟨g,off,h1,fun j v hj=>ho.cell (h2 j v hj) (by simp),h3.oth ho⟩
structure Chn (D:NetD) (o π:Nat→Nat):Prop where
  pm:Perm D.n o π
  n1:1≤D.n∧D.n≤64
  ins:∀ p,p < D.n→∃ d,D.L[o (p + 1) - 1]?=some d∧d.ins=[(o p:Int)]
def OrdC (D:NetD) (o:Nat→Nat):Prop:=∀ w,D.R w→Calls Tryz.prog 40 #[D.val] w fun e w'=>∃ g,e = .returned (.tuple #[.slice (some ⟨g,0,none⟩) D.n D.n,.int .i64 0])∧Oth [] w w'∧w.heap.size≤g∧g < w'.heap.size∧∀ p,p < D.n→w'.cell? ⟨g,p,none⟩=some (.int .i64 (o (p + 1):Nat))
def LosC (D:NetD) (o:Nat→Nat):Prop:=∀ w,D.R w→Calls Tryz.prog 41 #[D.val] w fun e w'=>e = .returned (.tuple #[.int .i64 (o D.n:Nat),.int .i64 0])∧Oth [] w w'
section
variable {D:NetD} {o π:Nat→Nat} {w:World}
theorem Chn.nodes (h:Chn D o π) (hr:D.R w):∃ gN oN,D.b=some ⟨gN,oN,none⟩∧∀ p,p < D.n→∃ gi oi ci,w.cell? ⟨gN,oN + (o (p + 1) - 1) * 10 + 8,none⟩=some (.slice (some ⟨gi,oi,none⟩) 1 ci)∧w.cell? ⟨gi,oi,none⟩=some (.int .i64 (o p:Nat)):=by
  obtain ⟨d0,h0,-⟩:=h.ins 0 (by have:=h.n1;omega)
  obtain ⟨gN,oN,hb,-,-⟩:=hr.at_ _ _ h0
  refine ⟨gN,oN,hb,fun p hp=>?_⟩
  obtain ⟨d,h1,h2⟩:=h.ins p hp
  obtain ⟨g,off,k1,k2,k3⟩:=hr.at_ _ _ h1
  rw [hb] at k1
  simp only [Option.some.injEq,Addr.mk.injEq] at k1
  obtain ⟨rfl,rfl,-⟩:=k1
  have c8:=k2 8 _ rfl
  have hl:=k3.ins.len
  rw [h2] at hl
  obtain ⟨gi,oi,e1,e2⟩:=k3.ins.at_ 0 (o p:Int) (by rw [h2];rfl)
  rw [e1,hl] at c8
  exact ⟨gi,oi,d.ci,c8,e2⟩
theorem net_box {x y:Value} {w':World} (ho:Oth [] (w.alloc (.cells #[x,y] 26)) w'):Oth [] w w'∧w'.cell? ⟨w.heap.size,0,none⟩=some x∧w'.cell? ⟨w.heap.size,1,none⟩=some y:=by
  obtain ⟨k1,k2⟩:=box1_keep (w:=w) (a:=x) (b:=y) (t1:=26) (S:=[]) (by simp) ho
  exact ⟨((Oth.refl _ _).alloc _).trans ho (Fr.nil _ _),k1,k2⟩
set_option maxRecDepth 100000 in
set_option maxHeartbeats 4000000 in
theorem last_any (hc:Chn D o π) (hO:OrdC D o) (hr:D.R w) :
    Calls Tryz.prog 113 #[D.val] w fun e w'=>∃ g,e = .returned (.tuple #[.slice (some ⟨g,0,none⟩) (D.n + 1) (D.n + 1),.int .i64 0])∧Oth [] w w'∧w.heap.size≤g∧g < w'.heap.size∧∀ p,p≤D.n→w'.cell? ⟨g,o p,none⟩=some (.int .i64 (usr D.n p:Nat)):=by
  obtain ⟨gN,oN,hb,hnd⟩:=hc.nodes hr
  have hn:=hc.n1
  have hpm:=Lib.hid hc.pm
  have HR:=Lib.hid hr
  have HND:Hid (∀ w',Oth [] w w'→∀ p,p < D.n→∃ gi oi ci,w'.cell? ⟨gN,oN + (o (p + 1) - 1) * 10 + 8,none⟩=some (.slice (some ⟨gi,oi,none⟩) 1 ci)∧w'.cell? ⟨gi,oi,none⟩=some (.int .i64 (o p:Nat))):=by
    intro w' ho p hp
    obtain ⟨gi,oi,ci,h1,h2⟩:=hnd p hp
    exact ⟨gi,oi,ci,ho.cell h1 (by simp),ho.cell h2 (by simp)⟩
  have hval:D.val = .agg #[.slice D.i.b D.i.n D.i.c,.slice (some ⟨gN,oN,none⟩) D.n D.c]:=by unfold NetD.val;rw [hb];rfl
  have NO:Hid (∀ w',Oth [] w w'→Calls Tryz.prog 40 #[D.val] w' fun e w2=>∃ g,e = .returned (.tuple #[.slice (some ⟨g,0,none⟩) D.n D.n,.int .i64 0])∧Oth [] w' w2∧w'.heap.size≤g∧g < w2.heap.size∧∀ p,p < D.n→w2.cell? ⟨g,p,none⟩=some (.int .i64 (o (p + 1):Nat))):=fun w' ho=>hO w' (hr.oth ho)
  rw [hval] at NO ⊢
  have HBX:Hid (∀ w',Oth [] (w.alloc (.cells #[.slice D.i.b D.i.n D.i.c,.slice (some ⟨gN,oN,none⟩) D.n D.c] 26)) w'→Oth [] w w'∧w'.cell? ⟨w.heap.size,0,none⟩=some (.slice D.i.b D.i.n D.i.c)∧w'.cell? ⟨w.heap.size,1,none⟩=some (.slice (some ⟨gN,oN,none⟩) D.n D.c)):=fun w' ho=>net_box ho
  have e1:IntKind.i64.wrap ((D.n:Int) + 1)=(D.n:Int) + 1:=IntWalk.i64_in _ (by omega)
  clear hr hnd hb hval hO hc
  go_enter Tryz.func113,Tryz.ntmps113
  go_wp2_with (go_at_call 40;(with_reducible refine (NO.out _ ((Oth.refl [] w).alloc _)).mono ?_);rintro e w1 ⟨g,rfl,ho1,hg1,hg2,hg⟩;obtain ⟨p0,p1,p2⟩:=HBX.out _ ho1;have l1:=World.block_lt_of_cell? _ _ p1;replace ho1:=Lib.hid ho1;replace hg:=Lib.hid hg;replace p0:=Lib.hid p0;have hmk:=run_make_row' (P:=Tryz.prog) 22 3 (.int .i64 0) 8 Tryz.underlying22 info3 rfl .i64 .i64 (D.n + 1) (by omega) (by omega) w1;rw [Int.natCast_add,Int.natCast_one] at hmk)
  have ho2:Oth [] w1 (w1.alloc (.cells (madeCells #[.int .i64 0] (D.n + 1)) 3)):=(Oth.refl _ _).alloc _
  have hr2:Nms w1.heap.size (fun i=>if π i < 0 then ((π i:Nat):Int) + 1 else 0) (D.n + 1) (D.n + 1) (w1.alloc (.cells (madeCells #[.int .i64 0] (D.n + 1)) 3)):=
    (nms_zero (heap_alloc_new _ _) (by unfold maxLen;omega)).ext (fun i _=>by simp)
  have HR2:=Lib.hid hr2
  have hsz:=Lib.hid p0.out.size
  clear hr2 ho2 hmk
  go_loopw [26] (fun x wr=>∃ m:Nat,m≤D.n∧x = .int .i64 m∧Oth [] w wr∧Oth [w1.heap.size] w1 wr∧Nms w1.heap.size (fun i=>if π i < m then ((π i:Nat):Int) + 1 else 0) (D.n + 1) (D.n + 1) wr) (fun x _=>D.n - (intOf x).toNat)
  case atStart=>exact ⟨0,by omega,rfl,p0.out.alloc _,(Oth.refl _ _).alloc _,HR2.out⟩
  case round=>
    obtain ⟨m,hm,rfl,ho,ho3,hrow⟩:=hrel
    by_cases hlt:m < D.n
    · have t1:(m:Int) < D.n:=by omega
      have q1:=ho3.cell (hg.out m hlt) (by simp;omega)
      have q2:=World.block_lt_of_cell? _ _ q1
      have q3:=ho3.cell p2 (by simp;have:=World.block_lt_of_cell? _ _ p2;have:=hsz.out;omega)
      have q4:=World.block_lt_of_cell? _ _ q3
      obtain ⟨gi,oi,ci,k1,k2⟩:=HND.out wr ho m hlt
      have l2:=World.block_lt_of_cell? _ _ k1
      have l3:=World.block_lt_of_cell? _ _ k2
      have om1:=hpm.out.op m (by omega)
      have om2:=hpm.out.op (m + 1) (by omega)
      have om3:=hpm.out.opos (p:=m + 1) (by omega) (by omega)
      have b1:=hrow.at_ (i:=o m) (by omega)
      have b2:=hrow.free (o m)
      have b3:=hrow.lt
      have HF:Hid (∀ i,i < D.n + 1→(if i=o m then (m:Int) + 1 else if π i < m then ((π i:Nat):Int) + 1 else 0)=if π i < m + 1 then ((π i:Nat):Int) + 1 else 0):=by
        intro i hi
        have h1:=hpm.out.po i (by omega)
        by_cases e:i=o m
        · rw [if_pos e,e,om1.2,if_pos (by omega)]
        · have:π i≠m:=fun e2=>e (by rw [← e2,h1.2])
          rw [if_neg e]
          by_cases h2:π i < m
          · rw [if_pos h2,if_pos (by omega)]
          · rw [if_neg h2,if_neg (by omega)]
      have HK:=Lib.hid (And.intro ho (And.intro ho3 hrow))
      obtain ⟨om1,-⟩:=om1
      obtain ⟨om2,-⟩:=om2
      generalize (fun i=>if π i < m then ((π i:Nat):Int) + 1 else 0) (o m)=zz at b1
      generalize hom:o m=om at *
      generalize o (m + 1)=i at *
      obtain ⟨j,rfl⟩:∃ j,i=j + 1:=⟨i - 1,by omega⟩
      rw [show j + 1 - 1=j by omega] at k1
      rw [Int.natCast_add,Int.natCast_one] at q1
      have t2:(j:Int) < (D.n:Int):=by omega
      have e2:IntKind.i64.wrap (j:Int)=(j:Int):=IntWalk.i64_in _ (by omega)
      have e3:(j:Int) + 1 - 1=(j:Int):=by omega
      have t3:(om:Int) < (D.n:Int) + 1:=by omega
      have e4:IntKind.i64.wrap ((m:Int) + 1)=(m:Int) + 1:=IntWalk.i64_in _ (by omega)
      clear ho ho3 hrow
      go_wp2_with fail
      refine wp_loop_rounds 2 ?_
      rw [rounds_succ]
      go_wp2_with fail
      rw [rounds_succ]
      go_wp2_with fail
      go_roundw
      case rel=>
        exact ⟨m + 1,by omega,by go_num,HK.out.1.setCell (.inr hsz.out) _,HK.out.2.1.setCell (.inl (by simp)) _,(HK.out.2.2.set om ((m:Int) + 1)).ext HF.out⟩
      case measure=>simp [intOf];omega
    · obtain rfl:m=D.n:=by omega
      have t1:¬ (D.n:Int) < (D.n:Int):=by omega
      have HF:=Lib.hid (And.intro ho hrow)
      clear ho ho3 hrow
      go_wp2_with fail
      go_ret2
      refine ⟨w1.heap.size,rfl,HF.out.1,hsz.out,HF.out.2.lt,fun p hp=>?_⟩
      have h1:=hpm.out.op p hp
      have h2:=HF.out.2.at_ (i:=o p) (by omega)
      rw [h1.2] at h2
      rw [h2]
      unfold usr
      split
      · simp
      · rfl
end
end Go.Proofs.YtnpdcjdmbkcpbaaGreat.Ins
namespace Go.Proofs.YtnpdcjdmbkcpbaaGreat.Ins
open Go.RowKit Go.ChangeShapes Go.WideShapes Go.ChangeAt
theorem bulk_pos {H:Type} (d:DataW H):1≤Rows.uptoBulk d:=by
  cases d with
  | lit l=>cases l <;> simp [Rows.uptoBulk]
  | _=>simp [Rows.uptoBulk]
theorem bulk_mem {H:Type} {d:DataW H}:∀ {l:List (DataW H)},d∈l→Rows.uptoBulk d≤Rows.uptoBulkAll l
  | a :: t,h=>by
    rw [Rows.uptoBulkAll]
    rcases List.mem_cons.1 h with rfl | h
    · omega
    · have:=bulk_mem h;omega
theorem bulk_len {H:Type}:∀ (l:List (DataW H)),l.length≤Rows.uptoBulkAll l
  | []=>Nat.zero_le _
  | a :: t=>by
    rw [Rows.uptoBulkAll,List.length_cons]
    have:=bulk_len t;have:=bulk_pos a;omega
theorem bulk_slice {H:Type} {l r:List (DataW H)} {B:Nat} (h:Rows.uptoBulk (.slice l r)≤B):l.length≤B∧∀ d∈l,Rows.uptoBulk d≤B:=by
  rw [Rows.uptoBulk] at h
  have:=bulk_len l
  exact ⟨by omega,fun d hd=>by have:=bulk_mem hd;omega⟩
theorem bulk_agg {H:Type} {l:List (DataW H)} {B:Nat} (h:Rows.uptoBulk (.agg l)≤B):∀ d∈l,Rows.uptoBulk d≤B:=by
  rw [Rows.uptoBulk] at h
  exact fun d hd=>by have:=bulk_mem hd;omega
theorem wf_bounds {n:Int} (h:(Lit.int .i64 n).wf=true) : -9223372036854775808≤n∧n≤9223372036854775807:=by
  have:=(Lit.wf_int_iff .i64 n).1 h
  simpa [IntKind.min,IntKind.max,IntKind.signed,IntKind.bits] using this
section
variable {H:Type} {enc:TypeId × Value→H} {W:World} {B:Nat}
theorem ri_of {t e:TypeId} {fuel:Nat} {cs:List Value} {x:DataW H × List MemPlace} (hu:Tryz.prog.underlying t=some (.slice e)) (he:Tryz.prog.underlying e=some (.int .i64)) (hc:Tryz.prog.cellsOf e=1)
    (hf:DataW.trod enc Tryz.prog W 0 (fun _=>true) true fuel t cs=some x) (hB:Rows.uptoBulk x.1≤B):∃ b m c L,cs=[.slice b m c]∧RI b m c L W∧L.length≤B:=by
  rcases open_ints hu he hc hf with ⟨hcs,_⟩ | ⟨a,len,cap',zs,hcs,_,hl,hm,hz,hx,hcell,hwz⟩
  · exact ⟨none,0,0,[],hcs,⟨rfl,⟨Nat.le_refl _,Nat.zero_le _⟩,fun k hk=>absurd hk (by simp),fun i k hk=>absurd hk (by simp)⟩,Nat.zero_le _⟩
  · simp only [if_true] at hz
    have hlen:(zs.take len).length=len:=by rw [List.length_take,hz];omega
    subst hx
    have hb:=(bulk_slice hB).1
    have hb2:len≤B:=by
      have h9:=hb
      simp only [lits,List.length_map] at h9
      omega
    refine ⟨some a,len,cap',zs.take len,hcs,⟨hlen.symm,⟨hl,hm⟩,fun k hk=>wf_bounds (hwz k (List.mem_of_mem_take hk)),fun i x hi=>?_⟩,by rw [hlen];exact hb2⟩
    have hil:i < len:=by
      have:=(List.getElem?_eq_some_iff.1 hi).1
      omega
    obtain ⟨g,off,spot⟩:=a
    have c0:=hcell 0 (by omega)
    have hsp:spot=none:=by
      cases spot with
      | none=>rfl
      | some x=>
        simp only [Addr.add,if_true,World.cell?] at c0
        split at c0 <;> simp at c0
    subst hsp
    refine ⟨g,off,rfl,?_⟩
    have:=hcell i (by omega)
    rw [Addr.add_lit] at this
    rw [this]
    rw [List.getElem?_take,if_pos hil] at hi
    rw [List.getD_eq_getElem?_getD,hi];rfl
theorem Tryz.cellsOf3:Tryz.prog.cellsOf 3=1:=by kernel_rfl
theorem Tryz.cellsOf66:Tryz.prog.cellsOf 66=1:=by kernel_rfl
theorem Tryz.cellsOf23:Tryz.prog.cellsOf 23=1:=by kernel_rfl
theorem Tryz.cellsOf22:Tryz.prog.cellsOf 22=1:=by kernel_rfl
theorem Tryz.cellsOf78:Tryz.prog.cellsOf 78=1:=by kernel_rfl
theorem Tryz.cellsOf77:Tryz.prog.cellsOf 77=8:=by kernel_rfl
theorem Tryz.cellsOf24:Tryz.prog.cellsOf 24=1:=by kernel_rfl
theorem Tryz.cellsOf80:Tryz.prog.cellsOf 80=10:=by kernel_rfl
instance:Inhabited Sh:=⟨⟨none,0,0,[]⟩⟩
instance:Inhabited OpD:=⟨⟨0,0,0,0,0,0,0,none,0,0,[]⟩⟩
instance:Inhabited ND:=⟨⟨default,none,0,0,[],none,0,0,[]⟩⟩
theorem rl_of {fuel:Nat} {cs:List Value} {x:DataW H × List MemPlace} (hf:DataW.trod enc Tryz.prog W 0 (fun _=>true) true fuel 78 cs=some x) (hB:Rows.uptoBulk x.1≤B) :
    ∃ b m c L,cs=[.slice b m c]∧RL b m c L W∧L.length≤B∧∀ s∈L,s.l.length≤B:=by
  rcases Deep.open_slice1 Tryz.underlying78 Tryz.cellsOf23 hf with ⟨hcs,_⟩ | ⟨a,len,cap',m,n,V,D,Pl,hcs,_,hl,hm,hmm,rfl,hx⟩
  · exact ⟨none,0,0,[],hcs,⟨rfl,⟨Nat.le_refl _,Nat.zero_le _⟩,fun i k hk=>absurd hk (by simp)⟩,Nat.zero_le _,fun s hs=>absurd hs (by simp)⟩
  · simp only [if_true] at hmm
    obtain ⟨b1,b2⟩:=bulk_slice hB
    rw [List.length_map,List.length_range] at b1
    have each:∀ i,i < len→∃ s:Sh,W.cell? (a.add i)=some s.val∧s.R W∧s.l.length≤B:=by
      intro i hi
      obtain ⟨h1,h2⟩:=hx i (by omega)
      obtain ⟨b,m,c,L,e1,e2,e3⟩:=ri_of (B:=B) Tryz.underlying23 Tryz.underlying3 Tryz.cellsOf3 h2 (b2 _ (List.mem_map.2 ⟨i,List.mem_range.2 hi,rfl⟩))
      simp at e1
      exact ⟨⟨b,m,c,L⟩,by rw [h1,e1];rfl,e2,e3⟩
    obtain ⟨q,hq⟩:=Deep.choose_lt each
    refine ⟨some a,len,cap',(List.range len).map q,hcs,⟨by simp,⟨hl,hm⟩,fun i s hi=>?_⟩,by simpa using b1,fun s hs=>?_⟩
    · have hil:i < len:=by have:=(List.getElem?_eq_some_iff.1 hi).1;simpa using this
      rw [List.getElem?_map,List.getElem?_range hil] at hi
      simp at hi
      have hqi:=hq i hil
      rw [hi] at hqi
      obtain ⟨g,off,spot⟩:=a
      have hsp:spot=none:=by
        cases spot with
        | none=>rfl
        | some x=>
          have c0:=(hq 0 (by omega)).1
          simp only [Addr.add,if_true,World.cell?] at c0
          split at c0 <;> simp at c0
      subst hsp
      have:=hqi.1
      rw [Addr.add_lit] at this
      exact ⟨g,off,rfl,this,hqi.2.1⟩
    · obtain ⟨i,hi,rfl⟩:=List.mem_map.1 hs
      exact (hq i (List.mem_range.1 hi)).2.2
theorem op_of {fuel:Nat} {v0 v1 v2 v3 v4 v5 v6 v7:Value} {x:DataW H × List MemPlace} (hf:DataW.trod enc Tryz.prog W 0 (fun _=>true) true fuel 77 [v0,v1,v2,v3,v4,v5,v6,v7]=some x) (hB:Rows.uptoBulk x.1≤B) :
    ∃ o:OpD,[v0,v1,v2,v3,v4,v5,v6,v7]=[.int .i64 o.kind,.int .i64 o.k,.int .i64 o.width,.int .i64 o.step,.int .i64 o.side,.int .i64 o.fr,.int .i64 o.to,.slice o.b o.n o.c]∧o.R W∧o.s.length≤B:=by
  obtain ⟨xs,k,hk,hxy,_,hxl,hg⟩:=DataW.trod_struct Tryz.underlying77 hf
  subst hxy
  have hb:=bulk_agg hB
  match xs,hxl with
  | [y0,y1,y2,y3,y4,y5,y6,y7],_=>
    have g0:=hg 0 _ rfl
    have g1:=hg 1 _ rfl
    have g2:=hg 2 _ rfl
    have g3:=hg 3 _ rfl
    have g4:=hg 4 _ rfl
    have g5:=hg 5 _ rfl
    have g6:=hg 6 _ rfl
    have g7:=hg 7 _ rfl
    simp [Tryz.cellsOf3,Tryz.cellsOf66,Tryz.cellsOf23] at g0 g1 g2 g3 g4 g5 g6 g7
    obtain ⟨n0,r0,_,q0⟩:=DataW.trod_int Tryz.underlying3 g0
    obtain ⟨n1,r1,_,q1⟩:=DataW.trod_int Tryz.underlying66 g1
    obtain ⟨n2,r2,_,q2⟩:=DataW.trod_int Tryz.underlying3 g2
    obtain ⟨n3,r3,_,q3⟩:=DataW.trod_int Tryz.underlying3 g3
    obtain ⟨n4,r4,_,q4⟩:=DataW.trod_int Tryz.underlying3 g4
    obtain ⟨n5,r5,_,q5⟩:=DataW.trod_int Tryz.underlying3 g5
    obtain ⟨n6,r6,_,q6⟩:=DataW.trod_int Tryz.underlying3 g6
    obtain ⟨b,m,c,L,r7,q7,q8⟩:=ri_of (B:=B) Tryz.underlying23 Tryz.underlying3 Tryz.cellsOf3 g7 (hb _ (by simp))
    simp at r0 r1 r2 r3 r4 r5 r6 r7
    subst r0 r1 r2 r3 r4 r5 r6 r7
    refine ⟨⟨n0,n1,n2,n3,n4,n5,n6,b,m,c,L⟩,rfl,⟨q7,fun x hx=>?_⟩,q8⟩
    simp only [List.mem_cons,List.mem_nil_iff,or_false] at hx
    rcases hx with rfl | rfl | rfl | rfl | rfl | rfl | rfl
    all_goals (apply wf_bounds;first | exact q0 | exact q1 | exact q2 | exact q3 | exact q4 | exact q5 | exact q6)
structure ND.short (B:Nat) (d:ND):Prop where
  s:d.op.s.length≤B
  i:d.ins.length≤B
  p:d.P.length≤B∧∀ s∈d.P,s.l.length≤B
set_option maxRecDepth 100000 in
theorem node_of {fuel:Nat} {cs:List Value} {x:DataW H × List MemPlace} (hl:cs.length=10) (hf:DataW.trod enc Tryz.prog W 0 (fun _=>true) true fuel 80 cs=some x) (hB:Rows.uptoBulk x.1≤B) :
    ∃ d:ND,cs=d.cells∧d.R W∧d.short B:=by
  obtain ⟨xs,k,hk,hxy,_,hxl,hg⟩:=DataW.trod_struct Tryz.underlying80 hf
  subst hxy
  have hb:=bulk_agg hB
  match xs,hxl,cs,hl with
  | [y0,y1,y2],_,[v0,v1,v2,v3,v4,v5,v6,v7,v8,v9],_=>
    have g0:=hg 0 _ rfl
    have g1:=hg 1 _ rfl
    have g2:=hg 2 _ rfl
    simp [Tryz.cellsOf77,Tryz.cellsOf22,Tryz.cellsOf78] at g0 g1 g2
    obtain ⟨o,e1,e2,e3⟩:=op_of (B:=B) g0 (hb _ (by simp))
    obtain ⟨b1,m1,c1,L1,r1,q1,q2⟩:=ri_of (B:=B) Tryz.underlying22 Tryz.underlying3 Tryz.cellsOf3 g1 (hb _ (by simp))
    obtain ⟨b2,m2,c2,L2,r2,q3,q4,q5⟩:=rl_of (B:=B) g2 (hb _ (by simp))
    simp at e1 r1 r2
    obtain ⟨rfl,rfl,rfl,rfl,rfl,rfl,rfl,rfl⟩:=e1
    subst r1 r2
    exact ⟨⟨o,b1,m1,c1,L1,b2,m2,c2,L2⟩,rfl,⟨e2,q1,q3⟩,⟨e3,q2,q4,q5⟩⟩
theorem nodes_of {t fuel:Nat} {cs:List Value} {x:DataW H × List MemPlace} (hu:Tryz.prog.underlying t=some (.slice 80)) (hf:DataW.trod enc Tryz.prog W 0 (fun _=>true) true fuel t cs=some x) (hB:Rows.uptoBulk x.1≤B) :
    ∃ (b:Option Addr) (n c:Nat) (L:List ND),cs=[.slice b n c]∧(n=L.length∧(n≤c∧c≤maxLen)∧∀ (k:Nat) (d:ND),L[k]?=some d→∃ g off,b=some ⟨g,off,none⟩∧(∀ j v,d.cells[j]?=some v→W.cell? ⟨g,off + k * 10 + j,none⟩=some v)∧d.R W)∧n≤B∧∀ d∈L,ND.short B d:=by
  rcases Deep.open_slice hu hf with ⟨hcs,_⟩ | ⟨a,len,cap',m,n,D,Pl,hcs,_,hl,hm,hmm,rfl,hx⟩
  · exact ⟨none,0,0,[],hcs,⟨rfl,⟨Nat.le_refl _,Nat.zero_le _⟩,fun i k hk=>absurd hk (by simp)⟩,Nat.zero_le _,fun s hs=>absurd hs (by simp)⟩
  · simp only [if_true] at hmm
    obtain ⟨b1,b2⟩:=bulk_slice hB
    rw [List.length_map,List.length_range] at b1
    rw [Tryz.cellsOf80] at hx
    have each:∀ i,i < len→∃ d:ND,(∀ j v,d.cells[j]?=some v→W.cell? (a.add (i * 10 + j))=some v)∧d.R W∧d.short B:=by
      intro i hi
      obtain ⟨cs',h1,h2⟩:=hx i (by omega)
      obtain ⟨_,hlen,hcell⟩:=World.cells?_some h1
      obtain ⟨d,e1,e2,e3⟩:=node_of (B:=B) hlen h2 (b2 _ (List.mem_map.2 ⟨i,List.mem_range.2 hi,rfl⟩))
      refine ⟨d,fun j v hj=>?_,e2,e3⟩
      rw [← e1] at hj
      have hj2:j < 10:=by have:=(List.getElem?_eq_some_iff.1 hj).1;omega
      have:=hcell j hj2
      rw [Deep.add_add,hj] at this
      exact this
    obtain ⟨q,hq⟩:=Deep.choose_lt each
    refine ⟨some a,len,cap',(List.range len).map q,hcs,⟨by simp,⟨hl,hm⟩,fun i d hi=>?_⟩,b1,fun s hs=>?_⟩
    · have hil:i < len:=by have:=(List.getElem?_eq_some_iff.1 hi).1;simpa using this
      rw [List.getElem?_map,List.getElem?_range hil] at hi
      simp at hi
      have hqi:=hq i hil
      rw [hi] at hqi
      obtain ⟨g,off,spot⟩:=a
      have hsp:spot=none:=by
        cases spot with
        | none=>rfl
        | some x=>
          have c0:=(hq 0 (by omega)).1 0 _ rfl
          simp only [Nat.zero_mul,Nat.add_zero,Addr.add,if_true,World.cell?] at c0
          split at c0 <;> simp at c0
      subst hsp
      refine ⟨g,off,rfl,fun j v hj=>?_,hqi.2.1⟩
      have:=hqi.1 j v (by simpa using hj)
      rw [Addr.add_lit] at this
      rw [Nat.add_assoc]
      exact this
    · obtain ⟨i,hi,rfl⟩:=List.mem_map.1 hs
      exact (hq i (List.mem_range.1 hi)).2.2
set_option maxRecDepth 100000 in
theorem net_of {v:Value} {d:DataW H} {p:List MemPlace} {cs:Array Value} (hv:v = .agg cs) (hs:cs.size=Tryz.prog.cellsOf 26) (h:DataW.Trod enc Tryz.prog W 0 (fun _=>true) true 26 v d p) (hB:Rows.uptoBulk d≤B) :
    ∃ D:NetD,v=D.val∧D.R W∧D.i.l.length≤B∧D.n≤B∧∀ d∈D.L,d.short B:=by
  subst hv
  have h26:Tryz.prog.cellsOf 26=2:=by kernel_rfl
  rw [h26] at hs
  obtain ⟨fuel,hf⟩:=h
  obtain ⟨xs,k,hk,hxy,hcl,hxl,hg⟩:=DataW.trod_struct Tryz.underlying26 hf
  simp only [Prod.mk.injEq] at hxy
  obtain ⟨rfl,-⟩:=hxy
  have hb:=bulk_agg hB
  obtain ⟨l⟩:=cs
  match xs,hxl,l,hs with
  | [y0,y1],_,[v0,v1],_=>
    have g0:=hg 0 _ rfl
    have g1:=hg 1 _ rfl
    simp [Value.cells,Tryz.cellsOf23,Tryz.cellsOf24] at g0 g1
    obtain ⟨b1,m1,c1,L1,r1,q1,q2⟩:=ri_of (B:=B) Tryz.underlying23 Tryz.underlying3 Tryz.cellsOf3 g0 (hb _ (by simp))
    obtain ⟨b2,m2,c2,L2,r2,⟨q3,q4,q5⟩,q6,q7⟩:=nodes_of (B:=B) Tryz.underlying24 g1 (hb _ (by simp))
    simp at r1 r2
    subst r1 r2
    exact ⟨⟨⟨b1,m1,c1,L1⟩,b2,m2,c2,L2⟩,rfl,⟨q1,q3,q4,q5⟩,q2,q6,q7⟩
end
end Go.Proofs.YtnpdcjdmbkcpbaaGreat.Ins
