/- The walks of package chain: Right, check, newSolver. The walks of package chain: newSolver, Least, Plan. The walk of (Chain).Plan. The walks of package chain's machine: legal, more, do. The walk of package chain's machine: do. The walks of package code: Right, Check. The walk of (Chain).Walk. Slices of ints as they read; the walks of package safe: every, Mul. The walks of package shape: Right, Size, Copy, Equal. The walks of package shape: Copy, Equal. No condition. -/
import Derived.Test.YtnpdcjdmbkcpbaaGreatXd
import Derived.Carry
import Derived.Deep.RegionWith
import Derived.Deep.Cut
import Derived.BigRegion
import Derived.OwnWalk
import Derived.Laws.CopyOwn
set_option linter.unusedVariables false
set_option linter.unusedSimpArgs false
namespace Go.Proofs.YtnpdcjdmbkcpbaaGreat.Ins
open Go.RowKit
section
variable {w:World}
theorem safeRight_any {x:Nat} (h:x≤1099511627776):Calls Tryz.prog 83 #[.int .i64 x] w fun e w'=>e = .returned (.bool true)∧w'=w:=by
  have t1:(x:Int)≤1099511627776:=by omega
  go_enter Tryz.func83,Tryz.ntmps83
  go_wp2
  go_ret
  exact ⟨rfl,rfl⟩
theorem safe_at {x:Nat} {y:Int} (h:x≤1099511627776) (hy:y=x):Calls Tryz.prog 83 #[.int .i64 y] w fun e w'=>e = .returned (.bool true)∧w'=w:=by
  subst hy;exact safeRight_any h
def cbox (g1 c1 n1 g2 c2 n2:Nat) (w:World):World:=w.alloc (.cells #[.slice (some ⟨g1,0,none⟩) n1 c1,.slice (some ⟨g2,0,none⟩) n2 c2] 42)
theorem cbox_at (g1 c1 n1 g2 c2 n2:Nat) {w w':World} (h:Oth [] (cbox g1 c1 n1 g2 c2 n2 w) w'):w'.cell? ⟨w.heap.size,0,none⟩=some (.slice (some ⟨g1,0,none⟩) n1 c1)∧w'.cell? ⟨w.heap.size,1,none⟩=some (.slice (some ⟨g2,0,none⟩) n2 c2):=
  box1_keep (by simp) h
theorem cbox_oth {g1 c1 n1 g2 c2 n2:Nat} {w w':World} (h:Oth [] (cbox g1 c1 n1 g2 c2 n2 w) w'):Oth [] w w':=((Oth.refl _ _).alloc _).trans h (Fr.nil _ _)
set_option maxHeartbeats 4000000 in
theorem right_any {g1 c1 g2 c2:Nat} {ws cs:List Nat} {cap:Nat} (hf:Fine ws cs cap) (h1:Ints g1 ws w) (h2:Ints g2 cs w) :
    Calls Tryz.prog 33 #[.agg #[.slice (some ⟨g1,0,none⟩) ws.length c1,.slice (some ⟨g2,0,none⟩) cs.length c2]] w fun e w'=>e = .returned (.bool true)∧Oth [] w w':=by
  have n1:=hf.n1
  have n2:=hf.n2
  have t1:¬ (cs.length:Int) < 1:=by omega
  have t2:¬ (cs.length:Int) > 64:=by omega
  have t3:((ws.length:Int) == (cs.length:Int) + 1)=true:=by simp;omega
  have t4:((ws.length:Int) != (cs.length:Int) + 1)=false:=by simp;omega
  have e1:IntKind.i64.wrap ((cs.length:Int) + 1)=(cs.length:Int) + 1:=IntWalk.i64_in _ (by omega)
  have HF:=Lib.hid hf
  have H1:=Lib.hid h1
  have H2:=Lib.hid h2
  clear hf h1 h2
  go_enter Tryz.func33,Tryz.ntmps33
  go_wp2_with fail
  go_loopw [28] (fun x wr=>∃ m:Nat,m≤cs.length + 1∧x = .int .i64 m∧Oth [] (cbox g1 c1 (cs.length + 1) g2 c2 cs.length w) wr) (fun x _=>cs.length + 1 - (intOf x).toNat)
  case atStart=>exact ⟨0,by omega,rfl,Oth.refl _ _⟩
  case round=>
    obtain ⟨m,hm,rfl,ho⟩:=hrel
    by_cases hlt:m < cs.length + 1
    · have t5:(m:Int) < (cs.length:Int) + 1:=by omega
      have a1:=(cbox_oth ho).cell (H1.out.at_ (i:=m) (by omega)) (by simp)
      obtain ⟨x,hx⟩:∃ x,x=ws.getD m 0:=⟨_,rfl⟩
      obtain ⟨b1,b2⟩:=HF.out.wb m (by omega)
      rw [← hx] at a1 b1 b2
      have t6:¬ (x:Int) < 1:=by omega
      have t7:¬ (x:Int) > 65536:=by omega
      have HO:=Lib.hid ho
      clear ho hx
      go_wp2_with fail
      go_roundw
      case rel=>exact ⟨m + 1,by omega,by go_num,HO.out⟩
      case measure=>simp [intOf];omega
    · obtain rfl:m=cs.length + 1:=by omega
      have t5:¬ (cs.length:Int) + 1 < (cs.length:Int) + 1:=by omega
      obtain ⟨k1,k2⟩:=cbox_at _ _ _ _ _ _ ho
      have HO:=Lib.hid ho
      clear ho
      go_wp2_with fail
      clear k1 k2
      go_loopw [42] (fun x wr=>∃ m:Nat,m≤cs.length∧x = .int .i64 m∧Oth [] w wr) (fun x _=>cs.length - (intOf x).toNat)
      case atStart=>exact ⟨0,by omega,rfl,cbox_oth HO.out⟩
      case round=>
        obtain ⟨m,hm,rfl,ho⟩:=hrel
        by_cases hlt:m < cs.length
        · have t5:(m:Int) < (cs.length:Int):=by omega
          have a1:=ho.cell (H2.out.at_ (i:=m) (by omega)) (by simp)
          obtain ⟨x,hx⟩:∃ x,x=cs.getD m 0:=⟨_,rfl⟩
          have b1:=HF.out.cb m (by omega)
          rw [← hx] at a1 b1
          have HO:=Lib.hid ho
          clear ho hx
          go_wp2_with ((with_reducible refine (safe_at (x:=x) b1 (by omega)).mono ?_);rintro e w2 ⟨rfl,rfl⟩)
          go_roundw
          case rel=>exact ⟨m + 1,by omega,by go_num,HO.out⟩
          case measure=>simp [intOf];omega
        · obtain rfl:m=cs.length:=by omega
          have t5:¬ (cs.length:Int) < (cs.length:Int):=by omega
          have HO:=Lib.hid ho
          clear ho
          go_wp2_with fail
          go_ret
          exact ⟨rfl,HO.out⟩
set_option maxHeartbeats 4000000 in
theorem check_any {g1 c1 g2 c2:Nat} {ws cs:List Nat} {cap:Nat} (hf:Fine ws cs cap) (hc:cap≤4096) (h1:Ints g1 ws w) (h2:Ints g2 cs w) :
    Calls Tryz.prog 29 #[.agg #[.slice (some ⟨g1,0,none⟩) ws.length c1,.slice (some ⟨g2,0,none⟩) cs.length c2],.int .i64 cap] w fun e w'=>e = .returned (.int .i64 0)∧Oth [] w w':=by
  have t1:¬ (cap:Int) < 0:=by omega
  have t2:¬ (cap:Int) > 4096:=by omega
  have HR:Hid (∀ w',Oth [] w w'→Calls Tryz.prog 33 #[.agg #[.slice (some ⟨g1,0,none⟩) ws.length c1,.slice (some ⟨g2,0,none⟩) cs.length c2]] w' fun e w2=>e = .returned (.bool true)∧Oth [] w' w2):=fun w' ho=>right_any hf (h1.oth ho (by simp)) (h2.oth ho (by simp))
  clear hf h1 h2
  go_enter Tryz.func29,Tryz.ntmps29
  go_wp2_with (refine (HR.out _ ((Oth.refl [] w).alloc _)).mono ?_;rintro e w' ⟨rfl,ho⟩)
  go_ret
  exact ⟨rfl,((Oth.refl _ _).alloc _).trans ho (Fr.nil _ _)⟩
end
end Go.Proofs.YtnpdcjdmbkcpbaaGreat.Ins
namespace Go.Proofs.YtnpdcjdmbkcpbaaGreat.Ins
open Go.RowKit
open Go.WideElems (Fit)
section
variable {w:World}
def wsum (ws:List Nat):Nat→Nat
  | 0=>0
  | j + 1=>wsum ws j + 2 * ws.getD (j + 1) 0
theorem fit_none:Fit Tryz.prog 103 R0 #[] 0:=⟨by simp,⟨fun _ h=>by simp at h,by simp,by simp⟩,fun _ h=>by simp at h⟩
theorem wsum_le {ws cs:List Nat} {cap:Nat} (hf:Fine ws cs cap):∀ j,j < ws.length→wsum ws j≤j * 131072
  | 0,_=>by simp [wsum]
  | j + 1,h=>by
    have:=wsum_le hf j (by omega)
    have:=(hf.wb (j + 1) h).2
    rw [wsum];omega
theorem Ints.lt {g:Nat} {xs:List Nat} (h:Ints g xs w) (hx:0 < xs.length):g < w.heap.size:=World.block_lt_of_cell? w _ (h.at_ hx)
def par (p g1 c1 g2 c2 mb cap:Nat) (ws cs:List Nat):Par:=Par.full { p:=p,g1:=g1,c1:=c1,g2:=g2,c2:=c2,mb:=mb,cap:=cap,ws:=ws,cs:=cs,V:=fun _ _=>[] }
def SolPost (w:World) (g1 c1 g2 c2 cap:Nat) (ws cs:List Nat) (e:Ending) (w':World):Prop:=
  ∃ p mb,e = .returned (.pointer (some ⟨p,0,none⟩))∧Oth [] w w'∧w.heap.size≤p∧w.heap.size≤mb∧Slv (par p g1 c1 g2 c2 mb (min cap (wsum ws cs.length)) ws cs) [p,g1,g2,mb] w'
theorem slv_new {g1 c1 g2 c2 cap:Nat} {ws cs:List Nat} {wr:World} (ho:Oth [] w wr) (h1:Ints g1 ws w) (h2:Ints g2 cs w) (hl1:0 < ws.length) (hl2:0 < cs.length) :
    SolPost w g1 c1 g2 c2 cap ws cs (.returned (.pointer (some ⟨wr.heap.size + 1,0,none⟩))) ((wr.alloc (.map #[] 0)).alloc (.cells #[.slice (some ⟨g1,0,none⟩) ws.length c1,.slice (some ⟨g2,0,none⟩) cs.length c2,.int .i64 cs.length,.int .i64 (min cap (wsum ws cs.length):Nat),.map (some wr.heap.size)] 101)):=by
  have l1:=h1.lt hl1
  have l2:=h2.lt hl2
  have hs:=ho.size
  have o2:Oth [] wr ((wr.alloc (.map #[] 0)).alloc (.cells #[.slice (some ⟨g1,0,none⟩) ws.length c1,.slice (some ⟨g2,0,none⟩) cs.length c2,.int .i64 cs.length,.int .i64 (min cap (wsum ws cs.length):Nat),.map (some wr.heap.size)] 101)):=((Oth.refl _ _).alloc _).alloc _
  have o3:=ho.trans o2 (Fr.nil _ _)
  have k1:=heap_alloc_new (wr.alloc (.map #[] 0)) (.cells #[.slice (some ⟨g1,0,none⟩) ws.length c1,.slice (some ⟨g2,0,none⟩) cs.length c2,.int .i64 cs.length,.int .i64 (min cap (wsum ws cs.length):Nat),.map (some wr.heap.size)] 101)
  have k2:=((Oth.refl [] (wr.alloc (.map #[] 0))).alloc (.cells #[.slice (some ⟨g1,0,none⟩) ws.length c1,.slice (some ⟨g2,0,none⟩) cs.length c2,.int .i64 cs.length,.int .i64 (min cap (wsum ws cs.length):Nat),.map (some wr.heap.size)] 101)).heap (heap_alloc_new wr (.map #[] 0)) (by simp)
  refine ⟨_,_,rfl,o3,by omega,hs,⟨by rw [World.size_alloc] at k1;exact k1,h1.oth o3 (by simp),h2.oth o3 (by simp),⟨#[],0,k2,fit_none,by simp⟩,?_,?_⟩⟩
  · refine ⟨?_,?_,?_,?_,?_,?_,?_⟩ <;> simp [par,Par.full] <;> omega
  · intro k hk
    simp at hk
    simp
    omega
set_option maxRecDepth 100000 in
set_option maxHeartbeats 4000000 in
theorem newSolver_any {g1 c1 g2 c2:Nat} {ws cs:List Nat} {cap:Nat} (hf:Fine ws cs cap) (hc:cap≤4096) (hc1:ws.length≤c1) (hc2:c1≤maxLen) (h1:Ints g1 ws w) (h2:Ints g2 cs w) :
    Calls Tryz.prog 30 #[.agg #[.slice (some ⟨g1,0,none⟩) ws.length c1,.slice (some ⟨g2,0,none⟩) cs.length c2],.int .i64 cap] w fun e w'=>SolPost w g1 c1 g2 c2 cap ws cs e w':=by
  have n1:=hf.n1
  have n2:=hf.n2
  have HN1:=Lib.hid n1
  have HF:=Lib.hid hf
  have H1:=Lib.hid h1
  have H2:=Lib.hid h2
  clear hf h1 h2
  go_enter Tryz.func30,Tryz.ntmps30
  go_wp2_with fail
  go_loopw [5,12] (fun x y wr=>∃ m:Nat,m≤cs.length∧x = .int .i64 (wsum ws m:Nat)∧y = .int .i64 m∧Oth [] (cbox g1 c1 (cs.length + 1) g2 c2 cs.length w) wr) (fun _ y _=>cs.length - (intOf y).toNat)
  case atStart=>exact ⟨0,by omega,rfl,rfl,Oth.refl _ _⟩
  case round=>
    obtain ⟨m,hm,rfl,rfl,ho⟩:=hrel
    have hws:=wsum_le HF.out m (by omega)
    by_cases hlt:m < cs.length
    · have t5:(m:Int) < (cs.length:Int):=by omega
      have a1:=(cbox_oth ho).cell (H1.out.at_ (i:=m + 1) (by omega)) (by simp)
      have hb:=(HF.out.wb (m + 1) (by omega)).2
      have hnx:wsum ws (m + 1)=wsum ws m + 2 * ws.getD (m + 1) 0:=rfl
      obtain ⟨x,hx⟩:∃ x,x=ws.getD (m + 1) 0:=⟨_,rfl⟩
      rw [← hx,show m + 1=1 + m by omega] at a1
      rw [← hx] at hb hnx
      have t6:IntKind.i64.wrap (2 * (x:Int))=2 * (x:Int):=IntWalk.i64_in _ (by omega)
      have t7:IntKind.i64.wrap ((wsum ws m:Nat) + 2 * (x:Int))=(wsum ws m:Nat) + 2 * (x:Int):=IntWalk.i64_in _ (by omega)
      have HO:=Lib.hid ho
      have HN:=Lib.hid hnx
      clear ho hx hnx
      go_wp2_with fail
      go_roundw
      case rel=>exact ⟨m + 1,by omega,by rw [HN.out];go_num,by go_num,HO.out⟩
      case measure=>simp [intOf];omega
    · obtain rfl:m=cs.length:=by omega
      have t5:¬ (cs.length:Int) < (cs.length:Int):=by omega
      obtain ⟨k1,k2⟩:=cbox_at _ _ _ _ _ _ ho
      have hlt:=World.block_lt_of_cell? wr _ k1
      obtain ⟨most,hmost⟩:∃ a,a=wsum ws cs.length:=⟨_,rfl⟩
      have HO:=Lib.hid ho
      have HM:=Lib.hid hmost
      rw [← hmost] at hws ⊢
      have mk:=run_makeMap (P:=Tryz.prog) 99 wr
      clear ho hmost
      go_wp2_with fail
      all_goals
        have hp:=slv_new (c1:=c1) (c2:=c2) (cap:=cap) (cbox_oth HO.out) H1.out H2.out (by omega) (by omega)
        rw [← HM.out,HN1.out] at hp
        first | rw [Nat.min_eq_left (by omega)] at hp | rw [Nat.min_eq_right (by omega)] at hp
        go_ret
        exact hp
theorem mny_par (A B:Par) (V:Nat→Nat→List Nat) (h1:A.ws=B.ws) (h2:A.cs=B.cs) (h3:A.cap=B.cap) (l r j:Nat):mny { A with V:=V } l r j=mny { B with V:=V } l r j:=by
  cases A;cases B
  simp only at h1 h2 h3
  subst h1 h2 h3
  induction j with
  | zero=>rfl
  | succ j ih=>simp only at ih;simp only [mny,ih]
theorem vf_par (A B:Par) (h1:A.ws=B.ws) (h2:A.cs=B.cs) (h3:A.cap=B.cap):∀ d l r,vf A d l r=vf B d l r
  | 0,_,_=>rfl
  | d + 1,l,r=>by
    have e:vf A d=vf B d:=by funext a b;exact vf_par A B h1 h2 h3 d a b
    simp only [vf,e]
    rw [mny_par A B _ h1 h2 h3]
    simp only [one,h1,h2,h3]
def par0 (cap:Nat) (ws cs:List Nat):Par:=par 0 0 0 0 0 0 cap ws cs
theorem vl_par {p g1 c1 g2 c2 mb cap:Nat} {ws cs:List Nat} (l r m:Nat):vl (par p g1 c1 g2 c2 mb cap ws cs) l r m=vl (par0 cap ws cs) l r m:=by
  unfold vl
  show (vf _ (r - l) l r).getD m 0=(vf _ (r - l) l r).getD m 0
  rw [vf_par]
  all_goals rfl
theorem fine_cap {ws cs:List Nat} {cap c2:Nat} (hf:Fine ws cs cap) (h:c2≤cap):Fine ws cs c2:=⟨hf.n1,hf.n2,hf.wb,hf.cb,by have:=hf.cap;omega⟩
theorem good_par {p g1 c1 g2 c2 mb cap m:Nat} {ws cs:List Nat} (hf:Fine ws cs cap) (h:m≤cap):Good (par p g1 c1 g2 c2 mb m ws cs):=good_full _ (fine_cap hf h)
theorem values_all {p g1 c1 g2 c2 mb cap m:Nat} {ws cs:List Nat} {K:List Nat} (hf:Fine ws cs cap) (h:m≤cap) (w':World) (hs:Slv (par p g1 c1 g2 c2 mb m ws cs) K w') :
    Calls Tryz.prog 31 #[.pointer (some ⟨p,0,none⟩),.agg #[.int .i64 0,.int .i64 cs.length]] w' fun e w2=>
      ∃ g c:Nat,e = .returned (.agg #[.slice (some ⟨g,0,none⟩) (m + 1) c])∧Slv (par p g1 c1 g2 c2 mb m ws cs) K w2∧Oth [mb] w' w2∧w2.cell? ⟨g,m,none⟩=some (.int .i64 (vl (par0 m ws cs) 0 cs.length m:Nat)):=by
  have hG:=good_par (p:=p) (g1:=g1) (c1:=c1) (g2:=g2) (c2:=c2) (mb:=mb) hf h
  have hn:=hf.n2.1
  have hl:((par p g1 c1 g2 c2 mb m ws cs).V 0 cs.length).length=m + 1:=hG.vl 0 cs.length (by omega) (Nat.le_refl _)
  refine (values_any hG (rec_full _) _ 0 cs.length rfl (by omega) (Nat.le_refl _) K w' hs).mono ?_
  rintro e w2 ⟨g,c,rfl,k1,k2,k3,k4⟩
  refine ⟨g,c,by rw [hl],k1,k2,?_⟩
  rw [← vl_par (p:=p) (g1:=g1) (c1:=c1) (g2:=g2) (c2:=c2) (mb:=mb)]
  exact k3.at_ (by omega)
structure LR (C:Par) (K:List Nat) (w w':World):Prop where
  s:Slv C K w'
  o:Oth [] w w'
theorem LR.S {C:Par} {K:List Nat} {w w':World} (h:LR C K w w'):LR C K w w'∧w'.cell? ⟨C.p,2,none⟩=some (.int .i64 C.cs.length)∧w'.cell? ⟨C.p,3,none⟩=some (.int .i64 C.cap):=⟨h,h.s.sol.at_.2.2.1,h.s.sol.at_.2.2.2.1⟩
theorem LR.step {C:Par} {K:List Nat} {w w' w2:World} (h:LR C K w w') (hm:w.heap.size≤C.mb) (hs:Slv C K w2) (ho:Oth [C.mb] w' w2):LR C K w w2:=⟨hs,h.o.trans ho (fun k hk=>.inr (by simp at hk;omega))⟩
theorem LR.call {C:Par} {K:List Nat} {w w' w2:World} (h:LR C K w w') (ho:Oth [] w' w2):LR C K w w2:=⟨h.s.oth ho (by simp),h.o.trans ho (Fr.nil _ _)⟩
end
end Go.Proofs.YtnpdcjdmbkcpbaaGreat.Ins
namespace Go.Proofs.YtnpdcjdmbkcpbaaGreat.Ins
open Go.RowKit
section
variable {w:World}
def PlanPost (w:World) (M:Nat) (ws cs:List Nat) (e:Ending) (w':World):Prop:=
  ∃ g c s' code,e = .returned (.tuple #[.slice (some ⟨g,0,none⟩) code.length c,.int .i64 0])∧(∃ p g1 c1 g2 c2 mb,Wr (par p g1 c1 g2 c2 mb M ws cs) 0 cs.length M 0 s' code)∧code.length≤8 * (cs.length * cs.length)∧Row 63 2 g code.length c (cds code) w'∧Oth [] w w'∧w.heap.size≤g
theorem Wr.pos {C:Par} {l r m s s':Nat} {code:List (Nat × Nat)} (h:Wr C l r m s s' code):0 < code.length:=by
  cases h with
  | leaf=>unfold Ins.leaf;rw [List.length_append];simp
  | split=>simp only [List.length_append,List.length_cons];omega
theorem info4:(Tryz.prog.info? 4).map (fun i=>(i.zero,i.size,i.bytes))=some (some (.bool false),1,1):=by kernel_rfl
theorem bls_row {g len:Nat} {wr:World} (h:wr.heap[g]?=some (.cells (madeCells #[.bool false] len) 4 (0,0))) (hm:len≤maxLen) {f:Nat→Bool} (hf:∀ i,i < len→f i=false):Bls g f len len wr:=by
  have:(List.range len).map (fun i=>Value.bool (f i))=List.replicate len (.bool false):=by
    rw [List.eq_replicate_iff]
    refine ⟨by simp,fun b hb=>?_⟩
    obtain ⟨i,hi,rfl⟩:=List.mem_map.1 hb
    rw [hf i (by simpa using hi)]
  unfold Bls
  rw [this]
  have hc:(madeCells #[.bool false] len).size=len:=by rw [← Array.length_toList,toList_madeCells_one];simp
  refine ⟨_,h,Nat.le_refl _,hm,by rw [hc];omega,by simp,fun j hj=>?_⟩
  rw [← Array.getElem?_toList,toList_madeCells_one]
theorem wrt_new {C:Par} {K:List Nat} {wc:World} (h:LR C K w wc) (h1:w.heap.size≤C.mb) (hn:C.cs.length≤64) :
    Wrt C (wc.heap.size + 1) wc.heap.size (C.cs.length + 1) (fun k=>k < w.heap.size) 0 [] ((wc.alloc (.cells (madeCells #[.bool false] (C.cs.length + 1)) 4)).alloc (.cells #[.pointer (some ⟨C.p,0,none⟩),.slice (some ⟨wc.heap.size,0,none⟩) (C.cs.length + 1) (C.cs.length + 1),.slice none 0 0] 106)):=by
  obtain ⟨b1,b2,b3,b4,b5,b6,b7⟩:=h.s.base
  have o1:=h.s.old _ b1
  have o2:=h.s.old _ b2
  have o3:=h.s.old _ b3
  have o4:=h.s.old _ b4
  have hs:=h.o.size
  have p1:Oth [] wc (wc.alloc (.cells (madeCells #[.bool false] (C.cs.length + 1)) 4)):=(Oth.refl _ _).alloc _
  have p2:Oth [] (wc.alloc (.cells (madeCells #[.bool false] (C.cs.length + 1)) 4)) ((wc.alloc (.cells (madeCells #[.bool false] (C.cs.length + 1)) 4)).alloc (.cells #[.pointer (some ⟨C.p,0,none⟩),.slice (some ⟨wc.heap.size,0,none⟩) (C.cs.length + 1) (C.cs.length + 1),.slice none 0 0] 106)):=(Oth.refl _ _).alloc _
  have k1:=heap_alloc_new (wc.alloc (.cells (madeCells #[.bool false] (C.cs.length + 1)) 4)) (.cells #[.pointer (some ⟨C.p,0,none⟩),.slice (some ⟨wc.heap.size,0,none⟩) (C.cs.length + 1) (C.cs.length + 1),.slice none 0 0] 106)
  rw [World.size_alloc] at k1
  have k2:=p2.heap (heap_alloc_new wc (.cells (madeCells #[.bool false] (C.cs.length + 1)) 4)) (by simp)
  have s1:=(h.s.new p1 wc.heap.size (Nat.le_refl _) (by simp)).new p2 (wc.heap.size + 1) (by simp) (by simp)
  refine ⟨⟨.slice none 0 0,_,k1,⟨rfl,.inl ⟨rfl,rfl⟩⟩,s1,(fun g hg=>by cases hg),.head _,.tail _ (.head _)⟩,bls_row k2 (by unfold maxLen;omega) (fun i hi=>by simp;omega),⟨by omega,by omega,by omega,by omega,by omega⟩,⟨by omega,by omega,by omega,by omega⟩,⟨by omega,by omega,by omega⟩,fun k hk=>by simp;omega⟩
set_option maxRecDepth 100000 in
set_option maxHeartbeats 4000000 in
theorem plan_any {g1 c1 g2 c2':Nat} {ws cs:List Nat} {cap M:Nat} (hM:M=min cap (wsum ws cs.length)) (hf:Fine ws cs cap) (hc:cap≤4096) (hc1:ws.length≤c1) (hc2:c1≤maxLen) (h1:Ints g1 ws w) (h2:Ints g2 cs w)
    (hv:vl (par0 M ws cs) 0 cs.length M < nn) :
    Calls Tryz.prog 12 #[.agg #[.slice (some ⟨g1,0,none⟩) ws.length c1,.slice (some ⟨g2,0,none⟩) cs.length c2'],.int .i64 cap] w (PlanPost w M ws cs):=by
  have HCH:Hid (∀ w',Oth [] w w'→Calls Tryz.prog 29 #[.agg #[.slice (some ⟨g1,0,none⟩) ws.length c1,.slice (some ⟨g2,0,none⟩) cs.length c2'],.int .i64 cap] w' fun e w2=>e = .returned (.int .i64 0)∧Oth [] w' w2):=fun w' ho=>check_any hf hc (h1.oth ho (by simp)) (h2.oth ho (by simp))
  have HNS:Hid (∀ w',Oth [] w w'→Calls Tryz.prog 30 #[.agg #[.slice (some ⟨g1,0,none⟩) ws.length c1,.slice (some ⟨g2,0,none⟩) cs.length c2'],.int .i64 cap] w' (SolPost w' g1 c1 g2 c2' cap ws cs)):=fun w' ho=>newSolver_any hf hc hc1 hc2 (h1.oth ho (by simp)) (h2.oth ho (by simp))
  have HF:=Lib.hid hf
  have hMc:M≤cap:=by omega
  obtain ⟨U,hU⟩:∃ a,a=vl (par0 M ws cs) 0 cs.length M:=⟨_,rfl⟩
  rw [← hU] at hv
  have t2:(U:Int) < 1152921504606846976:=by unfold nn at hv;omega
  have T2:=Lib.hid t2
  clear t2
  have HU:=Lib.hid hU
  have HM:=Lib.hid hM
  clear hf h1 h2 hv hU hM
  go_enter Tryz.func12,Tryz.ntmps12
  go_wp2_with (first | (refine (HCH.out _ ((Oth.refl [] w).alloc _)).mono ?_;rintro e w' ⟨rfl,ho⟩;obtain ⟨k1,k2⟩:=cbox_at _ _ _ _ _ _ ho;have ho1:=cbox_oth ho;clear ho) | (refine (HNS.out _ ho1).mono ?_;rintro e w2 ⟨p,mb,rfl,ho2,hp,hmb,hs⟩;clear k1 k2;rw [← HM.out] at hs;have q1:w2.cell? ⟨p,2,none⟩=some (.int .i64 cs.length):=hs.sol.at_.2.2.1;have q2:w2.cell? ⟨p,3,none⟩=some (.int .i64 M):=hs.sol.at_.2.2.2.1;have hlp:=hs.old p (by simp);have HS:=Lib.hid hs;clear hs;have HO2:=Lib.hid ho2;have HO1:=Lib.hid ho1;clear ho1 ho2))
  have hmb2:w.heap.size≤mb:=by have:=HO1.out.size;omega
  have hml:=HS.out.old mb (by simp)
  have HL:Hid (LR (par p g1 c1 g2 c2' mb M ws cs) [p,g1,g2,mb] w (w2.alloc (.cells #[.int .i64 0,.int .i64 cs.length] 103))):=(LR.mk HS.out (HO1.out.trans HO2.out (Fr.nil _ _))).call ((Oth.refl _ _).alloc _)
  have hfd:=field97
  have t1:(M:Int) < (M:Int) + 1:=by omega
  have hb:=box1_keep (w:=w2) (a:=.int .i64 0) (b:=.int .i64 cs.length) (t1:=103) (S:=[]) (by simp) (Oth.refl _ _)
  have HB:=Lib.hid hb
  have HVA:Hid (∀ w',LR (par p g1 c1 g2 c2' mb M ws cs) [p,g1,g2,mb] w w'→Calls Tryz.prog 31 #[.pointer (some ⟨p,0,none⟩),.agg #[.int .i64 0,.int .i64 cs.length]] w' fun e w3=>
      ∃ g c:Nat,e = .returned (.agg #[.slice (some ⟨g,0,none⟩) (M + 1) c])∧LR (par p g1 c1 g2 c2' mb M ws cs) [p,g1,g2,mb] w w3∧w3.cell? ⟨g,M,none⟩=some (.int .i64 U)∧Oth [mb] w' w3):=by
    intro w' hl
    refine (values_all HF.out hMc w' hl.s).mono ?_
    rintro e w3 ⟨g,c,rfl,k1,k2,k3⟩
    exact ⟨g,c,rfl,hl.step hmb2 k1 k2,by rw [HU.out];exact k3,k2⟩
  have HVD:Hid (∀ w',LR (par p g1 c1 g2 c2' mb M ws cs) [p,g1,g2,mb] w w'→w'.cell? ⟨p,2,none⟩=some (.int .i64 cs.length)∧w'.cell? ⟨p,3,none⟩=some (.int .i64 M)):=fun w' h=>h.S.2
  have HVB:=HVA.out _ (HL.out.call (Oth.refl _ _).drew)
  have hCx:∃ C,Hid (C=par p g1 c1 g2 c2' mb M ws cs):=⟨_,Lib.hid rfl⟩
  obtain ⟨C,HCE⟩:=hCx
  rw [← HCE.out] at HVB HVD HL HVA
  have HBX:Hid (∀ w' w3,w'=(w2.alloc (.cells #[.int .i64 0,.int .i64 cs.length] 103)).drew→Oth [mb] w' w3→w3.cell? ⟨w2.heap.size,0,none⟩=some (.int .i64 0)∧w3.cell? ⟨w2.heap.size,1,none⟩=some (.int .i64 cs.length)):=by
    rintro w' w3 rfl ho
    exact ⟨ho.cell HB.out.1 (by simp;omega),ho.cell HB.out.2 (by simp;omega)⟩
  have t2:((1152921504606846976:Int)≤(U:Int))=False:=by have:=T2.out;apply eq_false;omega
  clear hb
  go_cut [34] from 26 (fun x w'=>x = .bool false∧LR C [p,g1,g2,mb] w w'∧w'.cell? ⟨w2.heap.size,0,none⟩=some (.int .i64 0)∧w'.cell? ⟨w2.heap.size,1,none⟩=some (.int .i64 cs.length)∧w2.heap.size < w'.heap.size)
  case first=>
    go_region_with (first | (go_at_call 31;refine HVB.mono ?_;rintro e w' ⟨g,c,rfl,k1,k2,k3⟩;obtain ⟨r1,r2⟩:=HVD.out _ k1;have hlg:=World.block_lt_of_cell? w' _ k2))
    all_goals
      go_wp2_with fail
      go_meet
      case rel=>exact ⟨rfl,k1,(HBX.out _ _ rfl k3).1,(HBX.out _ _ rfl k3).2,by have:=k3.size;simp at this;omega⟩
  case rest=>
    obtain ⟨rfl,hl,b0,b1,hsz⟩:=hcut
    have HLC:=Lib.hid hl
    obtain ⟨r1,r2⟩:=HVD.out _ hl
    have hlpc:=World.block_lt_of_cell? _ _ r1
    have hn:=HF.out.n2
    have e1:IntKind.i64.wrap ((cs.length:Int) + 1)=(cs.length:Int) + 1:=IntWalk.i64_in _ (by omega)
    have hmk:(Instr.makeSlice 104 (.int .i64 ((cs.length:Int) + 1)) (.int .i64 ((cs.length:Int) + 1))).run Tryz.prog wc = .ok (.slice (some ⟨wc.heap.size,0,none⟩) (cs.length + 1) (cs.length + 1)) (wc.alloc (.cells (madeCells #[.bool false] (cs.length + 1)) 4)):=run_make_row' (P:=Tryz.prog) 104 4 (.bool false) 1 Tryz.underlying104 info4 rfl .i64 .i64 (cs.length + 1) (by omega) (by omega) wc
    have HW:Hid (Wrt C (wc.heap.size + 1) wc.heap.size (cs.length + 1) (fun k=>k < w.heap.size) 0 [] ((wc.alloc (.cells (madeCells #[.bool false] (cs.length + 1)) 4)).alloc (.cells #[.pointer (some ⟨p,0,none⟩),.slice (some ⟨wc.heap.size,0,none⟩) (cs.length + 1) (cs.length + 1),.slice none 0 0] 106))):=by
      have hl2:=hl
      rw [HCE.out] at hl2
      have:=wrt_new hl2 hmb2 hn.2
      rw [HCE.out];exact this
    have HPART:Hid (∀ w',Wrt C (wc.heap.size + 1) wc.heap.size (cs.length + 1) (fun k=>k < w.heap.size) 0 [] w'→Calls Tryz.prog 32 #[.pointer (some ⟨wc.heap.size + 1,0,none⟩),.agg #[.int .i64 0,.int .i64 cs.length],.int .i64 M] w' (PartPost C (wc.heap.size + 1) wc.heap.size (cs.length + 1) (fun k=>k < w.heap.size) 0 cs.length M 0 [] w')):=by
      intro w' hw
      have hv2:=T2.out
      rw [HCE.out] at hw ⊢
      exact part_any (good_par HF.out hMc) (rec_full _) (cs.length - 0) 0 cs.length M _ 0 [] w' rfl (by omega) (Nat.le_refl _) (by show M < M + 1 - 0;omega) (by rw [vl_par,← HU.out];unfold nn;omega) (Nat.le_refl _) (fun h=>absurd h (Nat.lt_irrefl _)) hw (by have:=Nat.mul_le_mul hn.2 hn.2;simp;omega)
    clear hl q1 q2 hn
    have hb0:=(((Oth.refl [] wc).alloc (.cells (madeCells #[.bool false] (cs.length + 1)) 4)).alloc (.cells #[.pointer (some ⟨p,0,none⟩),.slice (some ⟨wc.heap.size,0,none⟩) (cs.length + 1) (cs.length + 1),.slice none 0 0] 106)).cell b0 (by simp)
    go_wp2_with fail
    have HPB:=HPART.out _ (HW.out.call (Oth.refl _ _).drew)
    have HKP:Hid (∀ w',Kp (fun k=>k < w.heap.size) ((wc.alloc (.cells (madeCells #[.bool false] (cs.length + 1)) 4)).alloc (.cells #[.pointer (some ⟨p,0,none⟩),.slice (some ⟨wc.heap.size,0,none⟩) (cs.length + 1) (cs.length + 1),.slice none 0 0] 106)).drew w'→Oth [] w w'):=by
      intro w' k
      have h0:=HLC.out.o.trans ((((Oth.refl [] wc).alloc (.cells (madeCells #[.bool false] (cs.length + 1)) 4)).alloc (.cells #[.pointer (some ⟨p,0,none⟩),.slice (some ⟨wc.heap.size,0,none⟩) (cs.length + 1) (cs.length + 1),.slice none 0 0] 106)).drew) (Fr.nil _ _)
      exact ⟨k.os.trans h0.os,k.tape.trans h0.tape,k.output.trans h0.output,Nat.le_trans h0.size k.size,fun i hi hn=>(k.block i hi).trans (h0.block i hi hn)⟩
    go_region_with (first | (go_at_call 32;refine HPB.mono ?_;rintro e w' ⟨s',c2,rfl,k1,k2,k3,k4⟩))
    all_goals
      have HO:=Lib.hid (HKP.out _ k4)
      rw [List.nil_append] at k3
      obtain ⟨v,K,y1,y2,y3,y4,y5,y6⟩:=k3.v
      have hpos:=k1.pos
      obtain ⟨g,c,rfl,_,hrow⟩:=row_of_owns y2 hpos
      have hgn:w.heap.size≤g:=Nat.not_lt.1 (y4 g rfl).2.2.2.2.2.2.2
      have z1:w'.cell? ⟨wc.heap.size + 1,2,none⟩=some (.slice (some ⟨g,0,none⟩) c2.length c):=by simp [World.cell?,y1]
      have hlz:=World.block_lt_of_cell? _ _ z1
      have HFIN:Hid (PlanPost w M ws cs (.returned (.tuple #[.slice (some ⟨g,0,none⟩) c2.length c,.int .i64 0])) w'):=by
        refine ⟨g,c,s',c2,rfl,⟨p,g1,c1,g2,c2',mb,?_⟩,?_,hrow,HO.out,hgn⟩
        · rw [← HCE.out];exact k1
        · simpa using k2
      clear k1 k2 k3 k4 y1 y2 y3 y4 y5 y6 hrow HPB r1 r2 hb0 b0 b1
      go_wp2_with fail
      go_ret2
      exact HFIN.out
end
end Go.Proofs.YtnpdcjdmbkcpbaaGreat.Ins
namespace Go.Proofs.YtnpdcjdmbkcpbaaGreat.Ins
open Go.RowKit
end Go.Proofs.YtnpdcjdmbkcpbaaGreat.Ins
namespace Go.Proofs.YtnpdcjdmbkcpbaaGreat.Ins
open Go.RowKit
end Go.Proofs.YtnpdcjdmbkcpbaaGreat.Ins
namespace Go.Proofs.YtnpdcjdmbkcpbaaGreat.Ins
open Go.RowKit
section
variable {w:World}
set_option maxHeartbeats 4000000 in
theorem iright_any {n k id:Nat} {x y:Int} (hx:x=k) (hy:y=id) (hr:wright n k id) (hn:n≤512) :
    Calls Tryz.prog 43 #[.agg #[.int .i64 x,.int .i64 y]] w fun e w'=>e = .returned (.bool true)∧Oth [] w w':=by
  rcases hr with ⟨rfl | rfl,rfl⟩ | ⟨rfl | rfl | rfl | rfl,i1,i2⟩
  case' inl.inl | inl.inr=>
    simp at hx hy
    subst hx hy
  case' inr.inl | inr.inr.inl | inr.inr.inr.inl | inr.inr.inr.inr=>
    simp at hx
    subst hx
    have t1:1≤y:=by omega
    have t2:y≤512:=by omega
    clear hy i1 i2
  all_goals
    go_enter Tryz.func43,Tryz.ntmps43
    go_wp2_with fail
    go_ret
    exact ⟨rfl,(Oth.refl _ _).alloc _⟩
theorem cds_at:∀ (code:List (Nat × Nat)) (m:Nat),m < code.length→∃ k id,code[m]?=some (k,id)∧(cds code)[m * 2]?=some (.int .i64 (k:Int))∧(cds code)[m * 2 + 1]?=some (.int .i64 (id:Int))
  | [],m,h=>by simp at h
  | (k,id) :: l,0,h=>⟨k,id,rfl,rfl,rfl⟩
  | (k,id) :: l,m + 1,h=>by
    obtain ⟨k',id',h1,h2,h3⟩:=cds_at l m (by simpa using h)
    refine ⟨k',id',by simpa using h1,?_,?_⟩
    · rw [show (m + 1) * 2=m * 2 + 2 by omega];exact h2
    · rw [show (m + 1) * 2 + 1=m * 2 + 1 + 2 by omega];exact h3
set_option maxHeartbeats 4000000 in
theorem ccheck_any {g c n:Nat} {code:List (Nat × Nat)} (h:Row 63 2 g code.length c (cds code) w) (hl:code.length≤65536) (hn:n≤512) (hr:∀ k id,(k,id)∈code→wright n k id) :
    Calls Tryz.prog 34 #[.slice (some ⟨g,0,none⟩) code.length c] w fun e w'=>e = .returned (.int .i64 0)∧Oth [] w w':=by
  have t1:¬ (code.length:Int) > 65536:=by omega
  have H:=Lib.hid h
  have HR:=Lib.hid hr
  clear h hr
  obtain ⟨len,hlen⟩:∃ len,len=code.length:=⟨_,rfl⟩
  have HL:=Lib.hid hlen
  rw [← hlen] at t1 hl ⊢
  clear hlen
  go_enter Tryz.func34,Tryz.ntmps34
  go_wp2_with fail
  go_loopw [10] (fun x wr=>∃ m:Nat,m≤len∧x = .int .i64 m∧Oth [] w wr) (fun x _=>len - (intOf x).toNat)
  case atStart=>exact ⟨0,by omega,rfl,Oth.refl _ _⟩
  case round=>
    obtain ⟨m,hm,rfl,ho⟩:=hrel
    by_cases hlt:m < len
    · have t5:(m:Int) < (len:Int):=by omega
      obtain ⟨k,id,h1,h2,h3⟩:=cds_at code m (by rw [← HL.out];exact hlt)
      have a1:=ho.cell (H.out.cell h2) (by simp)
      have a2:=ho.cell (H.out.cell h3) (by simp)
      have hg:=World.block_lt_of_cell? _ _ a1
      have hr:=HR.out k id (List.mem_of_getElem? h1)
      have HC:Hid (∀ w',Calls Tryz.prog 43 #[.agg #[.int .i64 k,.int .i64 id]] w' fun e w2=>e = .returned (.bool true)∧Oth [] w' w2):=fun w'=>iright_any rfl rfl hr hn
      have HO:=Lib.hid ho
      clear ho h1 h2 h3 hr
      go_wp2_with ((with_reducible refine (HC.out _).mono ?_);rintro e w2 ⟨rfl,ho⟩)
      go_roundw
      case rel=>exact ⟨m + 1,by omega,by go_num,(HO.out.alloc _).trans ho (Fr.nil _ _)⟩
      case measure=>simp [intOf];omega
    · obtain rfl:m=len:=by omega
      have t5:¬ (m:Int) < (m:Int):=by omega
      have HO:=Lib.hid ho
      clear ho
      go_wp2_with fail
      go_ret
      exact ⟨rfl,HO.out⟩
end
end Go.Proofs.YtnpdcjdmbkcpbaaGreat.Ins
namespace Go.Proofs.YtnpdcjdmbkcpbaaGreat.Ins
open Go.RowKit
def ws0 (n:Nat):WS:={ pr:=on (fun _=>false) 0 true,sv:=fun _=>false,gr:=fun _=>false,em:=false,sd:=false,last:=n,words:=0,peak:=0,cost:=0 }
theorem Runs.right {ws cs:List Nat} {n cap:Nat} {s s':WS} {l:List (Nat × Nat)} (h:Runs ws cs n cap s l s'):∀ k id,(k,id)∈l→wright n k id:=by
  induction h with
  | nil=>simp
  | cons h1 h2 h3 h4 h5 ih=>
    intro k id hm
    rcases List.mem_cons.1 hm with e | e
    · cases e;exact h1
    · exact ih k id e
end Go.Proofs.YtnpdcjdmbkcpbaaGreat.Ins
namespace Go.Proofs.YtnpdcjdmbkcpbaaGreat.Ins
open Go.RowKit
structure RI (b:Option Addr) (n c:Nat) (l:List Int) (w:World):Prop where
  len:n=l.length
  cap:n≤c∧c≤maxLen
  wf:∀ k,k∈l→-9223372036854775808≤k∧k≤9223372036854775807
  at_:∀ i k,l[i]?=some k→∃ g off,b=some ⟨g,off,none⟩∧w.cell? ⟨g,off + i,none⟩=some (.int .i64 k)
theorem RI.oth {b:Option Addr} {n c:Nat} {l:List Int} {w w':World} (h:RI b n c l w) (ho:Oth [] w w'):RI b n c l w':=by
  refine ⟨h.len,h.cap,h.wf,fun i k hi=>?_⟩
  obtain ⟨g,off,hb,hc⟩:=h.at_ i k hi
  exact ⟨g,off,hb,ho.cell hc (by simp)⟩
theorem RI.cases {b:Option Addr} {n c:Nat} {l:List Int} {w:World} (h:RI b n c l w):(n=0∧l=[]) ∨
    ∃ g off,b=some ⟨g,off,none⟩∧0 < n∧n=l.length∧g < w.heap.size∧∀ i,i < n→w.cell? ⟨g,off + i,none⟩=some (.int .i64 (l.getD i 0)):=by
  cases l with
  | nil=>exact .inl ⟨h.len,rfl⟩
  | cons x l=>
    obtain ⟨g,off,hb,hc⟩:=h.at_ 0 x rfl
    refine .inr ⟨g,off,hb,by rw [h.len];simp,h.len,World.block_lt_of_cell? _ _ hc,fun i hi=>?_⟩
    have hl:i < (x :: l).length:=by rw [← h.len];exact hi
    obtain ⟨g',off',hb',hc'⟩:=h.at_ i _ (List.getElem?_eq_getElem hl)
    rw [hb] at hb'
    simp only [Option.some.injEq,Addr.mk.injEq] at hb'
    obtain ⟨rfl,rfl,_⟩:=hb'
    rw [hc',List.getD_eq_getElem?_getD,List.getElem?_eq_getElem hl];rfl
section
variable {w:World}
set_option maxRecDepth 100000 in
set_option maxHeartbeats 4000000 in
theorem every_right {b:Option Addr} {n c:Nat} {l:List Int} (I:Nat→World→Prop) (h:RI b n c l w) (h0:I 0 w)
    (hk:∀ m w',m < n→I m w'→Calls Tryz.prog 83 #[.int .i64 (l.getD m 0)] w' fun e w2=>e = .returned (.bool true)∧I (m + 1) w2)
    (hr:∀ m w',I m w'→RI b n c l w') :
    Calls Tryz.prog 130 #[.slice b n c,.func (.func 83) #[] #[]] w fun e w'=>e = .returned (.bool true)∧I n w':=by
  have HCAP:Hid (n≤9223372036854775807):=by have:=h.cap;unfold maxLen at this;exact (by omega:n≤9223372036854775807)
  have HK:=Lib.hid hk
  have HR:=Lib.hid hr
  rcases h.cases with ⟨rfl,rfl⟩ | ⟨g,off,rfl,h1,h2,h3,h4⟩
  · clear h hk hr
    go_enter Tryz.func130,Tryz.ntmps130
    go_wp2_with fail
    go_loopw [9] (fun x wr=>x = .int .i64 0∧wr=w) (fun x _=>0)
    case atStart=>exact ⟨rfl,rfl⟩
    case round=>
      obtain ⟨rfl,rfl⟩:=hrel
      go_wp2_with fail
      go_ret
      exact ⟨rfl,h0⟩
  · clear h hk hr
    have H0:=Lib.hid h0
    clear h0 h2 h3 h4
    go_enter Tryz.func130,Tryz.ntmps130
    go_wp2_with fail
    go_loopw [9] (fun x wr=>∃ m:Nat,m≤n∧x = .int .i64 m∧I m wr) (fun x _=>n - (intOf x).toNat)
    case atStart=>exact ⟨0,by omega,rfl,H0.out⟩
    case round=>
      obtain ⟨m,hm,rfl,hi⟩:=hrel
      by_cases hlt:m < n
      · have t1:(m:Int) < n:=by omega
        have e1:IntKind.i64.wrap ((m:Int) + 1)=(m:Int) + 1:=IntWalk.i64_in _ (by have:=HCAP.out;omega)
        have hri:=HR.out m wr hi
        have a1:wr.cell? ⟨g,off + m,none⟩=some (.int .i64 (l.getD m 0)):=by
          rcases hri.cases with ⟨e,_⟩ | ⟨g',off',e,_,_,_,h5⟩
          · omega
          · cases e;exact h5 m hlt
        have hlg:=World.block_lt_of_cell? _ _ a1
        have hc:=HK.out m wr hlt hi
        obtain ⟨x,hx⟩:∃ x,x=l.getD m 0:=⟨_,rfl⟩
        rw [← hx] at a1 hc
        have HC:=Lib.hid hc
        clear hc hi hri hx
        go_wp2_with ((with_reducible refine HC.out.mono ?_);rintro e w2 ⟨rfl,hi2⟩;have HI2:=Lib.hid hi2;clear hi2)
        go_roundw
        case rel=>exact ⟨m + 1,by omega,by go_num,HI2.out⟩
        case measure=>simp [intOf];omega
      · obtain rfl:m=n:=by omega
        have t1:¬ (m:Int) < m:=by omega
        have HI:=Lib.hid hi
        clear hi
        go_wp2_with fail
        go_ret
        exact ⟨rfl,HI.out⟩
set_option maxRecDepth 100000 in
set_option maxHeartbeats 4000000 in
theorem every_nz {b:Option Addr} {n c:Nat} {l:List Int} (I:Nat→World→Prop) (h:RI b n c l w) (h0:I 0 w)
    (hk:∀ m w',m < n→I m w'→Calls Tryz.prog 146 #[.int .i64 (l.getD m 0)] w' fun e w2=>e = .returned (.bool true)∧I (m + 1) w2)
    (hr:∀ m w',I m w'→RI b n c l w') :
    Calls Tryz.prog 130 #[.slice b n c,.func (.func 146) #[] #[]] w fun e w'=>e = .returned (.bool true)∧I n w':=by
  have HCAP:Hid (n≤9223372036854775807):=by have:=h.cap;unfold maxLen at this;exact (by omega:n≤9223372036854775807)
  have HK:=Lib.hid hk
  have HR:=Lib.hid hr
  rcases h.cases with ⟨rfl,rfl⟩ | ⟨g,off,rfl,h1,h2,h3,h4⟩
  · clear h hk hr
    go_enter Tryz.func130,Tryz.ntmps130
    go_wp2_with fail
    go_loopw [9] (fun x wr=>x = .int .i64 0∧wr=w) (fun x _=>0)
    case atStart=>exact ⟨rfl,rfl⟩
    case round=>
      obtain ⟨rfl,rfl⟩:=hrel
      go_wp2_with fail
      go_ret
      exact ⟨rfl,h0⟩
  · clear h hk hr
    have H0:=Lib.hid h0
    clear h0 h2 h3 h4
    go_enter Tryz.func130,Tryz.ntmps130
    go_wp2_with fail
    go_loopw [9] (fun x wr=>∃ m:Nat,m≤n∧x = .int .i64 m∧I m wr) (fun x _=>n - (intOf x).toNat)
    case atStart=>exact ⟨0,by omega,rfl,H0.out⟩
    case round=>
      obtain ⟨m,hm,rfl,hi⟩:=hrel
      by_cases hlt:m < n
      · have t1:(m:Int) < n:=by omega
        have e1:IntKind.i64.wrap ((m:Int) + 1)=(m:Int) + 1:=IntWalk.i64_in _ (by have:=HCAP.out;omega)
        have hri:=HR.out m wr hi
        have a1:wr.cell? ⟨g,off + m,none⟩=some (.int .i64 (l.getD m 0)):=by
          rcases hri.cases with ⟨e,_⟩ | ⟨g',off',e,_,_,_,h5⟩
          · omega
          · cases e;exact h5 m hlt
        have hlg:=World.block_lt_of_cell? _ _ a1
        have hc:=HK.out m wr hlt hi
        obtain ⟨x,hx⟩:∃ x,x=l.getD m 0:=⟨_,rfl⟩
        rw [← hx] at a1 hc
        have HC:=Lib.hid hc
        clear hc hi hri hx
        go_wp2_with ((with_reducible refine HC.out.mono ?_);rintro e w2 ⟨rfl,hi2⟩;have HI2:=Lib.hid hi2;clear hi2)
        go_roundw
        case rel=>exact ⟨m + 1,by omega,by go_num,HI2.out⟩
        case measure=>simp [intOf];omega
      · obtain rfl:m=n:=by omega
        have t1:¬ (m:Int) < m:=by omega
        have HI:=Lib.hid hi
        clear hi
        go_wp2_with fail
        go_ret
        exact ⟨rfl,HI.out⟩
set_option maxRecDepth 100000 in
set_option maxHeartbeats 4000000 in
theorem every_mul {b:Option Addr} {n c p:Nat} {l:List Int} (I:Nat→World→Prop) (h:RI b n c l w) (h0:I 0 w)
    (hk:∀ m w',m < n→I m w'→Calls Tryz.prog 147 #[.int .i64 (l.getD m 0),.pointer (some ⟨p,0,none⟩)] w' fun e w2=>e = .returned (.bool true)∧I (m + 1) w2)
    (hr:∀ m w',I m w'→RI b n c l w') :
    Calls Tryz.prog 130 #[.slice b n c,.func (.func 147) #[] #[.pointer (some ⟨p,0,none⟩)]] w fun e w'=>e = .returned (.bool true)∧I n w':=by
  have HCAP:Hid (n≤9223372036854775807):=by have:=h.cap;unfold maxLen at this;exact (by omega:n≤9223372036854775807)
  have HK:=Lib.hid hk
  have HR:=Lib.hid hr
  rcases h.cases with ⟨rfl,rfl⟩ | ⟨g,off,rfl,h1,h2,h3,h4⟩
  · clear h hk hr
    go_enter Tryz.func130,Tryz.ntmps130
    go_wp2_with fail
    go_loopw [9] (fun x wr=>x = .int .i64 0∧wr=w) (fun x _=>0)
    case atStart=>exact ⟨rfl,rfl⟩
    case round=>
      obtain ⟨rfl,rfl⟩:=hrel
      go_wp2_with fail
      go_ret
      exact ⟨rfl,h0⟩
  · clear h hk hr
    have H0:=Lib.hid h0
    clear h0 h2 h3 h4
    go_enter Tryz.func130,Tryz.ntmps130
    go_wp2_with fail
    go_loopw [9] (fun x wr=>∃ m:Nat,m≤n∧x = .int .i64 m∧I m wr) (fun x _=>n - (intOf x).toNat)
    case atStart=>exact ⟨0,by omega,rfl,H0.out⟩
    case round=>
      obtain ⟨m,hm,rfl,hi⟩:=hrel
      by_cases hlt:m < n
      · have t1:(m:Int) < n:=by omega
        have e1:IntKind.i64.wrap ((m:Int) + 1)=(m:Int) + 1:=IntWalk.i64_in _ (by have:=HCAP.out;omega)
        have hri:=HR.out m wr hi
        have a1:wr.cell? ⟨g,off + m,none⟩=some (.int .i64 (l.getD m 0)):=by
          rcases hri.cases with ⟨e,_⟩ | ⟨g',off',e,_,_,_,h5⟩
          · omega
          · cases e;exact h5 m hlt
        have hlg:=World.block_lt_of_cell? _ _ a1
        have hc:=HK.out m wr hlt hi
        obtain ⟨x,hx⟩:∃ x,x=l.getD m 0:=⟨_,rfl⟩
        rw [← hx] at a1 hc
        have HC:=Lib.hid hc
        clear hc hi hri hx
        go_wp2_with ((with_reducible refine HC.out.mono ?_);rintro e w2 ⟨rfl,hi2⟩;have HI2:=Lib.hid hi2;clear hi2)
        go_roundw
        case rel=>exact ⟨m + 1,by omega,by go_num,HI2.out⟩
        case measure=>simp [intOf];omega
      · obtain rfl:m=n:=by omega
        have t1:¬ (m:Int) < m:=by omega
        have HI:=Lib.hid hi
        clear hi
        go_wp2_with fail
        go_ret
        exact ⟨rfl,HI.out⟩
theorem RI.get {b:Option Addr} {n c:Nat} {l:List Int} (h:RI b n c l w) {m:Nat} (hm:m < n):l.getD m 0∈l:=by
  have:m < l.length:=by rw [← h.len];exact hm
  rw [List.getD_eq_getElem?_getD,List.getElem?_eq_getElem this]
  exact List.getElem_mem this
theorem safe_right {x:Int} (h:0≤x∧x≤1099511627776):Calls Tryz.prog 83 #[.int .i64 x] w fun e w'=>e = .returned (.bool true)∧w'=w:=by
  obtain ⟨m,rfl⟩:=Int.eq_ofNat_of_zero_le h.1
  exact safeRight_any (by omega)
theorem all_right {b:Option Addr} {n c:Nat} {l:List Int} (h:RI b n c l w) (hl:∀ k,k∈l→0≤k∧k≤1099511627776) :
    Calls Tryz.prog 130 #[.slice b n c,.func (.func 83) #[] #[]] w fun e w'=>e = .returned (.bool true)∧w'=w:=by
  refine every_right (fun _ w'=>w'=w) h rfl (fun m w' hm e=>?_) (fun m w' e=>e ▸ h)
  subst e
  exact safe_right (hl _ (h.get hm))
set_option maxHeartbeats 4000000 in
theorem nz_any {x:Int} (h:x≠0):Calls Tryz.prog 146 #[.int .i64 x] w fun e w'=>e = .returned (.bool true)∧w'=w:=by
  have t1:(x != 0)=true:=by simpa using h
  go_enter Tryz.func146,Tryz.ntmps146
  go_wp2
  go_ret
  exact ⟨rfl,rfl⟩
theorem all_nz {b:Option Addr} {n c:Nat} {l:List Int} (h:RI b n c l w) (hl:∀ k,k∈l→k≠0) :
    Calls Tryz.prog 130 #[.slice b n c,.func (.func 146) #[] #[]] w fun e w'=>e = .returned (.bool true)∧w'=w:=by
  refine every_nz (fun _ w'=>w'=w) h rfl (fun m w' hm e=>?_) (fun m w' e=>e ▸ h)
  subst e
  exact nz_any (hl _ (h.get hm))
def prd:List Int→Int
  | []=>1
  | x :: l=>x * prd l
theorem prd_take (l:List Int) (m:Nat) (h:m < l.length):prd (l.take (m + 1))=prd (l.take m) * l.getD m 0:=by
  induction l generalizing m with
  | nil=>simp at h
  | cons x l ih=>
    cases m with
    | zero=>simp [prd]
    | succ m=>
      have:=ih m (by simpa using h)
      simp only [List.take_succ_cons,prd,List.getD_cons_succ]
      rw [this,Int.mul_assoc]
theorem prd_pos {l:List Int} (h:∀ k,k∈l→1≤k):1≤prd l:=by
  induction l with
  | nil=>simp [prd]
  | cons x l ih=>
    have h1:=h x (by simp)
    have h2:=ih fun k hk=>h k (by simp [hk])
    have:1 * 1≤x * prd l:=Int.mul_le_mul h1 h2 (by omega) (by omega)
    simp only [prd];omega
theorem prd_append (a b:List Int):prd (a ++ b)=prd a * prd b:=by
  induction a with
  | nil=>simp [prd]
  | cons x a ih=>simp only [List.cons_append,prd,ih,Int.mul_assoc]
theorem prd_take_le {l:List Int} (h:∀ k,k∈l→1≤k) (m:Nat):prd (l.take m)≤prd l:=by
  have h1:1≤prd (l.take m):=prd_pos fun k hk=>h k (List.mem_of_mem_take hk)
  have h2:1≤prd (l.drop m):=prd_pos fun k hk=>h k (List.mem_of_mem_drop hk)
  have h3:=prd_append (l.take m) (l.drop m)
  rw [List.take_append_drop] at h3
  have:prd (l.take m) * 1≤prd (l.take m) * prd (l.drop m):=Int.mul_le_mul_of_nonneg_left h2 (by omega)
  omega
set_option maxRecDepth 100000 in
set_option maxHeartbeats 4000000 in
theorem mulc_any {x P:Int} {p:Nat} (hp:w.heap[p]?=some (.cells #[.int .i64 P] 3 (0,0))) (h1:1≤P) (h2:1≤x) (h3:P * x≤1099511627776) :
    Calls Tryz.prog 147 #[.int .i64 x,.pointer (some ⟨p,0,none⟩)] w fun e w'=>e = .returned (.bool true)∧Oth [p] w w'∧w'.heap[p]?=some (.cells #[.int .i64 (P * x)] 3 (0,0)):=by
  have c0:=cell_of_one hp
  have c1:=free_of_one hp
  have hpx:P * 1≤P * x:=Int.mul_le_mul_of_nonneg_left h2 (by omega)
  have hxx:1 * x≤P * x:=Int.mul_le_mul_of_nonneg_right h1 (by omega)
  have t1:¬ x > (1099511627776:Int).tdiv P:=by
    rw [Int.tdiv_eq_ediv_of_nonneg (by omega)]
    have:=(Int.le_ediv_iff_mul_le (a:=x) (b:=1099511627776) (c:=P) (by omega)).2 (by rw [Int.mul_comm];exact h3)
    omega
  have t2:P≠0:=by omega
  have e1:IntKind.i64.wrap ((1099511627776:Int).tdiv P)=(1099511627776:Int).tdiv P:=by
    rw [Int.tdiv_eq_ediv_of_nonneg (by omega)]
    have k1:=Int.ediv_le_self (a:=1099511627776) P (by omega)
    have k2:=Int.ediv_nonneg (a:=1099511627776) (b:=P) (by omega) (by omega)
    exact IntWalk.i64_in _ (by omega)
  have e2:IntKind.i64.wrap (P * x)=P * x:=IntWalk.i64_in _ (by omega)
  go_enter Tryz.func147,Tryz.ntmps147
  go_wp2_with fail
  go_ret
  exact ⟨rfl,(Oth.refl _ _).setCell (.inl (by simp)) _,one_set0 hp⟩
set_option maxRecDepth 100000 in
set_option maxHeartbeats 4000000 in
theorem mul_any {b:Option Addr} {n c:Nat} {l:List Int} (h:RI b n c l w) (h1:∀ k,k∈l→1≤k) (h2:prd l≤1099511627776) :
    Calls Tryz.prog 105 #[.slice b n c] w fun e w'=>e = .returned (.tuple #[.int .i64 (prd l),.int .i64 0])∧Oth [] w w':=by
  have hle:∀ k,k∈l→0≤k∧k≤1099511627776:=by
    intro k hk
    have:=h1 k hk
    obtain ⟨m,hm,he⟩:=List.mem_iff_getElem.1 hk
    have e:=prd_take l m hm
    rw [List.getD_eq_getElem?_getD,List.getElem?_eq_getElem hm] at e
    simp only [Option.getD_some,he] at e
    have e2:=prd_take_le h1 (m + 1)
    have e3:1≤prd (l.take m):=prd_pos fun k hk=>h1 k (List.mem_of_mem_take hk)
    have e4:1 * k≤prd (l.take m) * k:=Int.mul_le_mul_of_nonneg_right e3 (by omega)
    omega
  have A1:Hid (∀ w',Oth [] w w'→Calls Tryz.prog 130 #[.slice b n c,.func (.func 83) #[] #[]] w' fun e w2=>e = .returned (.bool true)∧w2=w'):=fun w' ho=>all_right (h.oth ho) hle
  have A2:Hid (∀ w',Oth [] w w'→Calls Tryz.prog 130 #[.slice b n c,.func (.func 146) #[] #[]] w' fun e w2=>e = .returned (.bool true)∧w2=w'):=fun w' ho=>all_nz (h.oth ho) (fun k hk=>by have:=h1 k hk;omega)
  have A3:Hid (∀ w',w'=w.alloc (.cells #[.int .i64 1] 3)→Calls Tryz.prog 130 #[.slice b n c,.func (.func 147) #[] #[.pointer (some ⟨w.heap.size,0,none⟩)]] w' fun e w2=>e = .returned (.bool true)∧(Oth [w.heap.size] w' w2∧w2.heap[w.heap.size]?=some (.cells #[.int .i64 (prd (l.take n))] 3 (0,0)))):=by
    rintro w' rfl
    have ho0:Oth [] w (w.alloc (.cells #[.int .i64 1] 3)):=(Oth.refl _ _).alloc _
    have hb:∀ w2,Oth [w.heap.size] (w.alloc (.cells #[.int .i64 1] 3)) w2→RI b n c l w2:=fun w2 ho=>h.oth (ho0.trans ho (fun k hk=>.inr (by simp at hk;omega)))
    refine every_mul (fun m w2=>Oth [w.heap.size] (w.alloc (.cells #[.int .i64 1] 3)) w2∧w2.heap[w.heap.size]?=some (.cells #[.int .i64 (prd (l.take m))] 3 (0,0))) (h.oth ho0) ⟨Oth.refl _ _,by simpa [prd] using heap_alloc_new w (.cells #[.int .i64 1] 3)⟩ (fun m w2 hm hi=>?_) (fun m w2 hi=>hb w2 hi.1)
    have hml:m < l.length:=by rw [← h.len];exact hm
    have e:=prd_take l m hml
    refine (mulc_any hi.2 (prd_pos fun k hk=>h1 k (List.mem_of_mem_take hk)) (h1 _ (h.get hm)) ?_).mono ?_
    · rw [← e];exact Int.le_trans (prd_take_le h1 _) h2
    · rintro e' w3 ⟨rfl,k1,k2⟩
      exact ⟨rfl,hi.1.trans k1 (Fr.refl _ _),by rw [e];exact k2⟩
  have hn:l.take n=l:=by rw [h.len,List.take_length]
  have HN:=Lib.hid hn
  obtain ⟨P,hP⟩:∃ P,P=prd l:=⟨_,rfl⟩
  rw [hn,← hP] at A3
  rw [← hP]
  clear h hle h1 h2 hn hP
  go_enter Tryz.func105,Tryz.ntmps105
  go_wp2_with (first | ((with_reducible refine (A1.out _ (Oth.refl _ _)).mono ?_);rintro e w1 ⟨rfl,rfl⟩) | ((with_reducible refine (A2.out _ (Oth.refl _ _)).mono ?_);rintro e w1 ⟨rfl,rfl⟩) | ((with_reducible refine (A3.out _ rfl).mono ?_);rintro e w1 ⟨rfl,o1,hc⟩;have c0:=cell_of_one hc;have HO:=Lib.hid o1;clear o1 hc))
  go_ret2
  exact ⟨rfl,((Oth.refl _ _).alloc _).trans HO.out (fun k hk=>.inr (by simp at hk;omega))⟩
end
end Go.Proofs.YtnpdcjdmbkcpbaaGreat.Ins
namespace Go.Proofs.YtnpdcjdmbkcpbaaGreat.Ins
open Go.RowKit
def sidesB (l:List Int):Bool:=l.all fun k=>decide (1≤k) && decide (k≤1024)
def shB (l:List Int):Bool:=decide (1≤l.length) && decide (l.length≤4) && sidesB l && decide (prd l≤65536)
theorem sides_mem {l:List Int} (h:sidesB l=true):∀ k,k∈l→1≤k∧k≤1024:=by
  intro k hk
  have:=List.all_eq_true.1 h k hk
  simpa using this
theorem prd_pow {l:List Int} (h:sidesB l=true):prd l≤1024 ^ l.length:=by
  induction l with
  | nil=>simp [prd]
  | cons x l ih=>
    have hx:=sides_mem h x (by simp)
    have ht:sidesB l=true:=by simp only [sidesB,List.all_cons,Bool.and_eq_true] at h ⊢;exact h.2
    have h1:=ih ht
    have h2:=prd_pos fun k hk=>(sides_mem ht k hk).1
    have:x * prd l≤1024 * 1024 ^ l.length:=Int.mul_le_mul hx.2 h1 (by omega) (by omega)
    simp only [prd,List.length_cons,Int.pow_succ]
    rw [Int.mul_comm (1024 ^ l.length) 1024];exact this
theorem prd_four {l:List Int} (h:sidesB l=true) (hl:l.length≤4):prd l≤1099511627776:=by
  have h1:=prd_pow h
  have:l.length=0∨l.length=1∨l.length=2∨l.length=3∨l.length=4:=by omega
  rcases this with e | e | e | e | e <;> (rw [e] at h1;simp at h1;omega)
theorem sides_of {l:List Int} (h:∀ i,i < l.length→1≤l.getD i 0∧l.getD i 0≤1024):sidesB l=true:=by
  refine List.all_eq_true.2 fun k hk=>?_
  obtain ⟨m,hm,he⟩:=List.mem_iff_getElem.1 hk
  have:=h m hm
  rw [List.getD_eq_getElem?_getD,List.getElem?_eq_getElem hm] at this
  simp only [Option.getD_some,he] at this
  simpa using this
theorem sides_not {l:List Int} {i:Nat} (hi:i < l.length) (h:¬ (1≤l.getD i 0∧l.getD i 0≤1024)):sidesB l=false:=by
  cases hs:sidesB l with
  | false=>rfl
  | true=>
    have hm:l.getD i 0∈l:=by
      rw [List.getD_eq_getElem?_getD,List.getElem?_eq_getElem hi]
      exact List.getElem_mem hi
    exact absurd (sides_mem hs _ hm) h
section
variable {w:World}
set_option maxRecDepth 100000 in
set_option maxHeartbeats 4000000 in
theorem shRight_any {b:Option Addr} {n c:Nat} {l:List Int} (h:RI b n c l w) :
    Calls Tryz.prog 54 #[.slice b n c] w fun e w'=>e = .returned (.bool (shB l))∧Oth [] w w':=by
  have hlen:=h.len
  by_cases h1:n < 1
  · have t1:(n:Int) < 1:=by omega
    have:shB l=false:=by unfold shB;rw [decide_eq_false (by omega)];rfl
    rw [this]
    clear h
    go_enter Tryz.func54,Tryz.ntmps54
    go_wp2_with fail
    go_ret
    exact ⟨rfl,(Oth.refl _ _)⟩
  by_cases h2:4 < n
  · have t1:¬ (n:Int) < 1:=by omega
    have t2:(4:Int) < n:=by omega
    have:shB l=false:=by unfold shB;rw [decide_eq_true (by omega),decide_eq_false (p:=l.length≤4) (by omega)];rfl
    rw [this]
    clear h
    go_enter Tryz.func54,Tryz.ntmps54
    go_wp2_with fail
    go_ret
    exact ⟨rfl,(Oth.refl _ _)⟩
  have t1:¬ (n:Int) < 1:=by omega
  have t2:¬ (4:Int) < n:=by omega
  rcases h.cases with ⟨e,-⟩ | ⟨g,off,rfl,-,-,h5,h6⟩
  · omega
  have HR:=Lib.hid h
  have HL:=Lib.hid hlen
  have H6:=Lib.hid h6
  have hbad:∀ m,m < n→¬ (1≤l.getD m 0∧l.getD m 0≤1024)→shB l=false:=fun m hm hb=>by
    unfold shB;rw [sides_not (by omega) hb];simp
  have HBAD:=Lib.hid hbad
  clear h hlen h6 hbad
  go_enter Tryz.func54,Tryz.ntmps54
  go_wp2_with fail
  go_loopw [17] (fun x wr=>∃ m:Nat,m≤n∧x = .int .i64 m∧wr=w∧∀ i,i < m→1≤l.getD i 0∧l.getD i 0≤1024) (fun x _=>n - (intOf x).toNat)
  case atStart=>exact ⟨0,by omega,rfl,rfl,fun i hi=>by omega⟩
  case round=>
    obtain ⟨m,hm,rfl,rfl,hi⟩:=hrel
    by_cases hlt:m < n
    · have t5:(m:Int) < n:=by omega
      have a1:=H6.out m hlt
      have hb:=HBAD.out m hlt
      obtain ⟨x,hx⟩:∃ x,x=l.getD m 0:=⟨_,rfl⟩
      rw [← hx] at a1 hb
      have HI:=Lib.hid (And.intro hx hi)
      have HBX:=Lib.hid hb
      clear hx hi hb
      by_cases t6:x < 1
      · go_wp2_with fail
        go_ret
        exact ⟨by rw [HBX.out (by omega)];rfl,Oth.refl _ _⟩
      by_cases t7:1024 < x
      · go_wp2_with fail
        go_ret
        exact ⟨by rw [HBX.out (by omega)];rfl,Oth.refl _ _⟩
      go_wp2_with fail
      go_roundw
      case rel=>
        refine ⟨m + 1,by omega,by go_num,by trivial,fun i h=>?_⟩
        rcases Nat.lt_or_ge i m with h9 | h9
        · exact HI.out.2 i h9
        · obtain rfl:i=m:=by omega
          rw [← HI.out.1];omega
      case measure=>simp [intOf];omega
    · obtain rfl:m=n:=by omega
      have t5:¬ (m:Int) < m:=by omega
      have hs:sidesB l=true:=sides_of (by rw [← HL.out];exact hi)
      have hp4:=prd_four hs (by have:=HL.out;omega)
      have hmul:=mul_any HR.out (fun k hk=>(sides_mem hs k hk).1) hp4
      have hsh:shB l=decide (prd l≤65536):=by
        unfold shB
        have:=HL.out
        rw [decide_eq_true (by omega),decide_eq_true (p:=l.length≤4) (by omega),hs];rfl
      obtain ⟨P,hP⟩:∃ P,P=prd l:=⟨_,rfl⟩
      rw [← hP] at hmul hsh
      have HM:=Lib.hid hmul
      have HSH:=Lib.hid hsh
      clear hi hs hp4 hmul hsh hP
      go_wp2_with ((with_reducible refine HM.out.mono ?_);rintro e w1 ⟨rfl,ho⟩)
      go_ret
      exact ⟨by rw [HSH.out];rfl,ho⟩
set_option maxRecDepth 100000 in
set_option maxHeartbeats 4000000 in
theorem size_any {b:Option Addr} {n c:Nat} {l:List Int} (h:RI b n c l w) :
    Calls Tryz.prog 59 #[.slice b n c] w fun e w'=>e = .returned (if shB l then .tuple #[.int .i64 (prd l),.int .i64 0] else .tuple #[.int .i64 0,.int .i64 20])∧Oth [] w w':=by
  have A1:Hid (∀ w',Oth [] w w'→Calls Tryz.prog 54 #[.slice b n c] w' fun e w2=>e = .returned (.bool (shB l))∧Oth [] w' w2):=fun w' ho=>shRight_any (h.oth ho)
  cases hs:shB l with
  | false=>
    rw [hs] at A1
    rw [if_neg (by simp)]
    clear h hs
    go_enter Tryz.func59,Tryz.ntmps59
    go_wp2_with ((with_reducible refine (A1.out _ (Oth.refl _ _)).mono ?_);rintro e w1 ⟨rfl,ho⟩)
    go_ret2
    exact ⟨rfl,ho⟩
  | true=>
    rw [hs] at A1
    rw [if_pos rfl]
    simp only [shB,Bool.and_eq_true,decide_eq_true_eq] at hs
    have A2:Hid (∀ w',Oth [] w w'→Calls Tryz.prog 105 #[.slice b n c] w' fun e w2=>e = .returned (.tuple #[.int .i64 (prd l),.int .i64 0])∧Oth [] w' w2):=fun w' ho=>mul_any (h.oth ho) (fun k hk=>(sides_mem hs.1.2 k hk).1) (by omega)
    obtain ⟨P,hP⟩:∃ P,P=prd l:=⟨_,rfl⟩
    rw [← hP] at A2 ⊢
    clear h hs hP
    go_enter Tryz.func59,Tryz.ntmps59
    go_wp2_with (first | ((with_reducible refine (A1.out _ (Oth.refl _ _)).mono ?_);rintro e w1 ⟨rfl,ho⟩) | ((with_reducible refine (A2.out _ ho).mono ?_);rintro e w2 ⟨rfl,ho2⟩))
    go_ret2
    exact ⟨rfl,ho.trans ho2 (Fr.nil _ _)⟩
end
end Go.Proofs.YtnpdcjdmbkcpbaaGreat.Ins
namespace Go.Proofs.YtnpdcjdmbkcpbaaGreat.Ins
open Go.RowKit
theorem size3:(Tryz.prog.info? 3).map (·.size)=some 1:=by kernel_rfl
def ivl (l:List Int):List Value:=l.map (.int .i64)
theorem ivl_get {l:List Int} {i:Nat} {k:Int} (h:l[i]?=some k):(ivl l)[i]?=some (.int .i64 k):=by simp [ivl,h]
theorem oth_below {w w':World} (h:Below w.heap.size w w'):Oth [] w w':=⟨h.os,h.tape,h.output,h.size,fun k hk _=>h.block k hk⟩
theorem splice_all {α:Type} (L cs:List α) (h:L.length=cs.length):splice L 0 cs=cs:=by
  simp [splice,h]
theorem ri_row {w:World} {g n c:Nat} {l:List Int} (h:Row 3 1 g n c (ivl l) w) (hw:∀ k,k∈l→-9223372036854775808≤k∧k≤9223372036854775807):RI (some ⟨g,0,none⟩) n c l w:=
  ⟨by have:=h.len;simpa [ivl] using this.symm,h.cap_le,hw,fun i k hi=>⟨g,0,rfl,by rw [Nat.zero_add];exact h.cell (ivl_get hi)⟩⟩
theorem row_of_list {w:World} {g n:Nat} {xs:List Value} {e:TypeId} (h:w.heap[g]?=some (.cells xs.toArray e (0,0))) (hl:xs.length=n) (hm:n≤maxLen):Row e 1 g n n xs w:=
  ⟨_,h,Nat.le_refl _,hm,by simpa using hl,by simpa using hl,fun j hj=>by simp⟩
section
variable {w:World}
set_option maxRecDepth 100000 in
set_option maxHeartbeats 4000000 in
theorem copy_row {b:Option Addr} {n c:Nat} {l:List Int} (h:RI b n c l w) (hn:n≤1000000) :
    Calls Tryz.prog 111 #[.slice b n c] w fun e w'=>∃ g,e = .returned (.slice (some ⟨g,0,none⟩) n n)∧Oth [] w w'∧w.heap.size≤g∧Row 3 1 g n n (ivl l) w':=by
  have hmk:=run_make_row' (P:=Tryz.prog) 23 3 (.int .i64 0) 8 Tryz.underlying23 info3 rfl .i64 .i64 n (by omega) (by omega) w
  have H:=Lib.hid h
  have ho:Oth [] w (w.alloc (.cells (madeCells #[.int .i64 0] n) 3)):=(Oth.refl _ _).alloc _
  have HO:=Lib.hid ho
  clear h ho
  go_enter Tryz.func111,Tryz.ntmps111
  go_wp2_with (refine wpList_copy_splice rfl (.tmp 7) (.tmp 8) 23 23 rfl 3 Tryz.underlying23 size3 (some ⟨w.heap.size,0,none⟩) b n n n c rfl rfl w.heap.size 0 (List.replicate n (.int .i64 0)) 3 (?hg) (ivl l) (?hn) (?hpos) (?hfit) (?h1) w.heap.size w (?hb) (Nat.le_refl _) ?_)
  case hg=>
    have:=heap_alloc_new w (.cells (madeCells #[.int .i64 0] n) 3)
    rw [← toList_madeCells_one];exact this
  case hn=>simp [ivl,H.out.len]
  case hpos=>
    intro hp
    rcases H.out.cases with ⟨e,e2⟩ | ⟨g,off,e,h0,h1,h2,h3⟩
    · subst e2;simp [ivl] at hp
    · refine ⟨_,e,fun j v hj=>?_⟩
      have hjl:j < n:=by
        have:=(List.getElem?_eq_some_iff.1 hj).1
        simp [ivl] at this;omega
      have h4:=HO.out.cell (h3 j hjl) (by simp)
      rw [Addr.add_lit,h4]
      have hl:j < l.length:=by omega
      rw [← hj]
      simp [ivl,List.getD_eq_getElem?_getD,List.getElem?_eq_getElem hl]
  case hfit=>simp [ivl,H.out.len]
  case h1=>
    intro v hv
    simp only [ivl,List.mem_map] at hv
    obtain ⟨k,_,rfl⟩:=hv
    rfl
  case hb=>exact HO.out.below (Nat.le_refl _) (by simp)
  intro w' hg hb
  have HF:Hid (∃ g,(Ending.returned (.slice (some ⟨w.heap.size,0,none⟩) n n)) = .returned (.slice (some ⟨g,0,none⟩) n n)∧Oth [] w w'∧w.heap.size≤g∧Row 3 1 g n n (ivl l) w'):=by
    have hh:=hg.out
    rw [splice_all _ _ (by simp [ivl,H.out.len])] at hh
    exact ⟨_,rfl,oth_below hb,Nat.le_refl _,row_of_list hh (by simp [ivl,H.out.len]) (by have:=H.out.cap;omega)⟩
  clear hg hb
  go_wp2_with fail
  go_ret
  exact HF.out
theorem copy_any {b:Option Addr} {n c:Nat} {l:List Int} (h:RI b n c l w) (hn:n≤1000000) :
    Calls Tryz.prog 111 #[.slice b n c] w fun e w'=>∃ g,e = .returned (.slice (some ⟨g,0,none⟩) n n)∧Oth [] w w'∧w.heap.size≤g∧RI (some ⟨g,0,none⟩) n n l w':=
  (copy_row h hn).mono fun e w' ⟨g,h1,h2,h3,h4⟩=>⟨g,h1,h2,h3,ri_row h4 h.wf⟩
theorem eq_of_get {l m:List Int} (hl:l.length=m.length) (h:∀ i,i < l.length→l.getD i 0=m.getD i 0):l=m:=by
  apply List.ext_getElem hl
  intro i h1 h2
  have:=h i h1
  rwa [List.getD_eq_getElem?_getD,List.getD_eq_getElem?_getD,List.getElem?_eq_getElem h1,List.getElem?_eq_getElem h2] at this
set_option maxRecDepth 100000 in
set_option maxHeartbeats 4000000 in
theorem equal_any {b b2:Option Addr} {n c n2 c2:Nat} {l l2:List Int} (h:RI b n c l w) (k:RI b2 n2 c2 l2 w) :
    Calls Tryz.prog 129 #[.slice b n c,.slice b2 n2 c2] w fun e w'=>e = .returned (.bool (decide (l=l2)))∧Oth [] w w':=by
  have hl:=h.len
  have hl2:=k.len
  have HCAP:Hid (n≤9223372036854775807):=by have:=h.cap;unfold maxLen at this;exact (by omega:n≤9223372036854775807)
  by_cases hn:n=n2
  · subst hn
    have t0:((n:Int) != (n:Int))=false:=by simp
    rcases h.cases with ⟨e,e2⟩ | ⟨g,off,rfl,h0,-,h5,h6⟩
    · subst e e2
      have:l2=[]:=List.eq_nil_of_length_eq_zero hl2.symm
      subst this
      clear h k hl hl2
      go_enter Tryz.func129,Tryz.ntmps129
      go_wp2_with fail
      go_loopw [13] (fun x wr=>x = .int .i64 0∧wr=w) (fun x _=>0)
      case atStart=>exact ⟨rfl,rfl⟩
      case round=>
        obtain ⟨rfl,rfl⟩:=hrel
        go_wp2_with fail
        go_ret
        exact ⟨by simp,Oth.refl _ _⟩
    rcases k.cases with ⟨e,e2⟩ | ⟨g2,off2,rfl,-,-,h7,h8⟩
    · omega
    have H6:=Lib.hid h6
    have H8:=Lib.hid h8
    have HL:=Lib.hid (And.intro hl hl2)
    clear h k hl hl2 h6 h8
    go_enter Tryz.func129,Tryz.ntmps129
    go_wp2_with fail
    go_loopw [13] (fun x wr=>∃ m:Nat,m≤n∧x = .int .i64 m∧Oth [] w wr∧∀ i,i < m→l.getD i 0=l2.getD i 0) (fun x _=>n - (intOf x).toNat)
    case atStart=>exact ⟨0,by omega,rfl,Oth.refl _ _,fun i hi=>by omega⟩
    case round=>
      obtain ⟨m,hm,rfl,ho,hi⟩:=hrel
      by_cases hlt:m < n
      · have t5:(m:Int) < n:=by omega
        have a1:=ho.cell (H6.out m hlt) (by simp)
        have a2:=ho.cell (H8.out m hlt) (by simp)
        have a3:=World.block_lt_of_cell? _ _ a1
        have a4:=World.block_lt_of_cell? _ _ a2
        have e1:IntKind.i64.wrap ((m:Int) + 1)=(m:Int) + 1:=IntWalk.i64_in _ (by have:=HCAP.out;omega)
        obtain ⟨x,hx⟩:∃ x,x=l.getD m 0:=⟨_,rfl⟩
        obtain ⟨y,hy⟩:∃ y,y=l2.getD m 0:=⟨_,rfl⟩
        rw [← hx] at a1
        rw [← hy] at a2
        have HI:=Lib.hid (And.intro hx (And.intro hy (And.intro hi ho)))
        clear hx hy hi ho
        by_cases hxy:x=y
        · have t6:(x != y)=false:=by simp [hxy]
          have HXY:=Lib.hid hxy
          clear hxy
          go_wp2_with fail
          go_quiet (fail)
          go_wp2_with fail
          go_roundw
          case rel=>
            refine ⟨m + 1,by omega,by go_num,HI.out.2.2.2.drewN _,fun i h=>?_⟩
            rcases Nat.lt_or_ge i m with h9 | h9
            · exact HI.out.2.2.1 i h9
            · obtain rfl:i=m:=by omega
              rw [← HI.out.1,← HI.out.2.1];exact HXY.out
          case measure=>simp [intOf];omega
        · have t6:(x != y)=true:=by simp [hxy]
          have HXY:=Lib.hid hxy
          clear hxy
          go_wp2_with fail
          go_quiet (fail)
          go_wp2_with fail
          go_ret
          refine ⟨?_,HI.out.2.2.2.drewN _⟩
          rw [decide_eq_false]
          · rfl
          · intro e;exact HXY.out (by rw [HI.out.1,HI.out.2.1,e])
      · obtain rfl:m=n:=by omega
        have t5:¬ (m:Int) < m:=by omega
        have HI:=Lib.hid (And.intro hi ho)
        clear hi ho
        go_wp2_with fail
        go_ret
        refine ⟨?_,HI.out.2⟩
        rw [decide_eq_true]
        · rfl
        · exact eq_of_get (by rw [← HL.out.1,← HL.out.2]) (by rw [← HL.out.1];exact HI.out.1)
  · have t0:((n:Int) != (n2:Int))=true:=by simp;omega
    have:decide (l=l2)=false:=decide_eq_false (fun e=>hn (by rw [hl,hl2,e]))
    rw [this]
    clear h k hl hl2 hn this
    go_enter Tryz.func129,Tryz.ntmps129
    go_wp2_with fail
    go_ret
    exact ⟨rfl,Oth.refl _ _⟩
theorem shEqual_any {b b2:Option Addr} {n c n2 c2:Nat} {l l2:List Int} (h:RI b n c l w) (k:RI b2 n2 c2 l2 w) :
    Calls Tryz.prog 92 #[.slice b n c,.slice b2 n2 c2] w fun e w'=>e = .returned (.bool (decide (l=l2)))∧Oth [] w w':=by
  have HE:=Lib.hid (equal_any h k)
  clear h k
  go_enter Tryz.func92,Tryz.ntmps92
  go_wp2_with ((with_reducible refine HE.out.mono ?_);rintro e w1 ⟨rfl,ho⟩)
  go_ret
  exact ⟨rfl,ho⟩
end
end Go.Proofs.YtnpdcjdmbkcpbaaGreat.Ins
