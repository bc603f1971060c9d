/- (*solver).values: the plain recurrence, the readers at a solver. The walk of (*solver).values: what is known already. The walk of (*solver).values: a part that is new. No condition. -/
import Derived.Test.YtnpdcjdmbkcpbaaGreatXa
import Derived.Deep.OwnRows
import Derived.Laws.Rows
set_option linter.unusedVariables false
set_option linter.unusedSimpArgs false
namespace Go.Proofs.YtnpdcjdmbkcpbaaGreat.Ins
open Go.RowKit
open Go.ChangeMaps (setBlock heap_setBlock_same heap_setBlock_other)
open Go.WideElems (Fit)
def nn:Nat:=1152921504606846976
def sg (ws:List Nat) (l r:Nat):Nat:=ws.getD r 0 + kp ws l
def stp (ws:List Nat) (n l r k:Nat):Nat:=ws.getD k 0 + (if k - 1=l then 0 else ws.getD (k - 1) 0) + (if r=n then 0 else ws.getD r 0)
def own (cs:List Nat) (r:Nat):Nat:=if r=cs.length then cs.getD (r - 1) 0 else 0
def one (C:Par) (l r:Nat):List Nat:=(List.range (C.cap + 1 - kp C.ws l)).map fun m=>if sg C.ws l r≤m then own C.cs r else nn
def mny (C:Par) (l r:Nat):Nat→Nat × Nat × List Nat
  | 0=>(0,0,List.replicate (C.cap + 1 - kp C.ws l) nn)
  | j + 1=>
    let need:=max (mny C l r j).1 (stp C.ws C.cs.length l r (l + 1 + j))
    let cost:=(mny C l r j).2.1 + C.cs.getD (l + j) 0
    let xs:=(mny C l r j).2.2
    (need,cost,if need < xs.length then spm xs (C.V (l + 1 + j) r) (C.V l (l + 1 + j)) need cost (C.ws.getD (l + 1 + j) 0) xs.length else xs)
def Rec (C:Par):Prop:=∀ l r,l < r→r≤C.cs.length→C.V l r=if r=l + 1 then one C l r else (mny C l r (r - l - 1)).2.2
theorem mny_length (C:Par) (l r j:Nat):(mny C l r j).2.2.length=C.cap + 1 - kp C.ws l:=by
  induction j with
  | zero=>simp [mny]
  | succ j ih=>
    simp only [mny]
    split
    · rw [spm_length,ih]
    · exact ih
theorem mny_cost (C:Par) (hG:Good C) (l r j:Nat) (h:l + j≤C.cs.length):(mny C l r j).2.1≤j * 1099511627776:=by
  induction j with
  | zero=>simp [mny]
  | succ j ih=>
    have:=ih (by omega)
    have h2:=hG.cb (l + j) (by omega)
    simp only [mny];omega
theorem kp_le (C:Par) (hG:Good C) (l:Nat) (h:l≤C.cs.length):kp C.ws l≤65536:=by
  unfold kp;split
  · omega
  · exact (hG.wb l (by rw [hG.n1];omega)).2
theorem stp_le (C:Par) (hG:Good C) (l r k:Nat) (h:k < r) (hr:r≤C.cs.length):stp C.ws C.cs.length l r k≤196608:=by
  have h1:=(hG.wb k (by rw [hG.n1];omega)).2
  have h2:=(hG.wb (k - 1) (by rw [hG.n1];omega)).2
  have h3:=(hG.wb r (by rw [hG.n1];omega)).2
  unfold stp;split <;> split <;> omega
theorem mny_need (C:Par) (hG:Good C) (l r j:Nat) (h:l + j < r) (hr:r≤C.cs.length):(mny C l r j).1≤196608:=by
  induction j with
  | zero=>simp [mny]
  | succ j ih=>
    have:=ih (by omega)
    have h2:=stp_le C hG l r (l + 1 + j) (by omega) hr
    simp only [mny];omega
theorem spm_le (xs R L:List Nat) (need cost wk m:Nat) (h:∀ i,xs.getD i 0≤nn) (i:Nat):(spm xs R L need cost wk m).getD i 0≤nn:=by
  rcases Nat.lt_or_ge i xs.length with hi | hi
  · rw [spm_getD _ _ _ _ _ _ _ _ hi]
    have:=h i
    split
    · unfold sp1;split <;> omega
    · omega
  · rw [List.getD_eq_getElem?_getD,List.getElem?_eq_none (by rw [spm_length];exact hi)];exact Nat.zero_le _
theorem mny_le (C:Par) (l r j:Nat):∀ i,(mny C l r j).2.2.getD i 0≤nn:=by
  induction j with
  | zero=>
    intro i
    simp only [mny,List.getD_eq_getElem?_getD,List.getElem?_replicate]
    split <;> simp
  | succ j ih=>
    intro i
    simp only [mny]
    split
    · exact spm_le _ _ _ _ _ _ _ ih i
    · exact ih i
section
variable {w:World} {g1 c1 g2 c2:Nat} {ws cs:List Nat}
theorem kept_any {l:Nat} {v2:Value} (h:Ints g1 ws w) (hl:l < ws.length):Calls Tryz.prog 75 #[.agg #[.slice (some ⟨g1,0,none⟩) ws.length c1,v2],.int .i64 l] w fun e w'=>e = .returned (.int .i64 (kp ws l:Nat))∧Oth [] w w':=by
  unfold kp
  by_cases h0:l=0
  · subst h0;rw [if_pos rfl];exact kept_zero
  · rw [if_neg h0];exact kept_pos h0 hl (h.at_ hl)
theorem single_any {l r:Nat} {v2:Value} (h:Ints g1 ws w) (hl:l < r) (hr:r < ws.length) (hb:∀ i,i < ws.length→ws.getD i 0≤65536):Calls Tryz.prog 76 #[.agg #[.slice (some ⟨g1,0,none⟩) ws.length c1,v2],.agg #[.int .i64 l,.int .i64 r]] w fun e w'=>e = .returned (.int .i64 (sg ws l r:Nat))∧Oth [] w w':=by
  have b1:=hb r hr
  unfold sg kp
  by_cases h0:l=0
  · subst h0;rw [if_pos rfl];exact single_zero hr (by omega) (h.at_ hr)
  · rw [if_neg h0,Int.natCast_add]
    have b2:=hb l (by omega)
    exact single_pos h0 (by omega) hr (by omega) (by omega) (h.at_ hr) (h.at_ (by omega))
theorem step_all {l r k n:Nat} (h:Ints g1 ws w) (hk:l < k) (hkr:k < r) (hr:r < ws.length) (hn:ws.length≤1000) (hb:∀ i,i < ws.length→ws.getD i 0≤65536) :
    Calls Tryz.prog 78 #[.agg #[.slice (some ⟨g1,0,none⟩) ws.length c1,.slice (some ⟨g2,0,none⟩) n c2],.agg #[.int .i64 l,.int .i64 r],.int .i64 k] w fun e w'=>e = .returned (.int .i64 (stp ws n l r k:Nat))∧Oth [] w w':=by
  have b1:=hb k (by omega)
  have b2:=hb (k - 1) (by omega)
  have b3:=hb r hr
  exact step_any (by omega) hk hkr hr (by omega) (by omega) (by omega) (h.at_ (by omega)) (h.at_ (by omega)) (h.at_ hr)
theorem own_all {C:Par} {K:List Nat} {l r:Nat} (h:Slv C K w) (hl:l < r) (hr:r≤C.cs.length) (hn:C.cs.length≤64) :
    Calls Tryz.prog 77 #[.pointer (some ⟨C.p,0,none⟩),.agg #[.int .i64 l,.int .i64 r]] w fun e w'=>e = .returned (.int .i64 (own C.cs r:Nat))∧Oth [] w w':=by
  unfold own
  by_cases h0:r=C.cs.length
  · subst h0
    rw [if_pos rfl]
    exact own_yes h.sol (by omega) (by omega) (Nat.le_refl _) (h.cs.at_ (by omega))
  · rw [if_neg h0]
    exact own_no h.sol h0
theorem Slv.looks {C:Par} {K:List Nat} (h:Slv C K w) (hn:C.cs.length < 1000) (l r:Nat) (hl:l < r) (hr:r≤C.cs.length) :
    (∀ w',Oth [] w w'→(Instr.lookup 99 (.map (some C.mb)) (.agg #[.int .i64 l,.int .i64 r]) true).run Tryz.prog w' = .ok (.tuple #[.agg #[.slice none 0 0],.bool false]) w') ∨
    ∃ g c:Nat,(∀ w',Oth [] w w'→(Instr.lookup 99 (.map (some C.mb)) (.agg #[.int .i64 l,.int .i64 r]) true).run Tryz.prog w' = .ok (.tuple #[.agg #[.slice (some ⟨g,0,none⟩) (C.V l r).length c],.bool true]) w')∧Ints g (C.V l r) w∧g < w.heap.size∧g∉K:=by
  obtain ⟨es,clock,hm,hf,he⟩:=h.memo
  obtain ⟨kl,hk⟩:=key103 l r (by omega) (by omega)
  by_cases hx:∃ e0∈es.toList,e0.key = .agg #[.int .i64 l,.int .i64 r]
  · obtain ⟨e0,h1,h2⟩:=hx
    obtain ⟨l',r',g,c,k1,k2,k3,k4,k5,k6,k7⟩:=he e0 h1
    rw [h2] at k3
    simp only [Value.agg.injEq,Array.mk.injEq,List.cons.injEq,Value.int.injEq,true_and,and_true] at k3
    obtain ⟨e1,e2⟩:=k3
    obtain rfl:l=l':=by omega
    obtain rfl:r=r':=by omega
    refine .inr ⟨g,c,fun w' ho=>?_,k5,k6,k7⟩
    rcases Maps.fit_look true keyed103 Tryz.underlying99 (zero97 w') (ho.heap hm (by simp)) hf hk with ⟨_,h3,_⟩ | ⟨e3,y,h3,h4,h5,_⟩
    · exact absurd h2 (h3 e0 h1)
    · have:e3=e0:=by
        have hd:=hf.stamped.2.2
        obtain ⟨i,hi,rfl⟩:=List.getElem_of_mem h1
        obtain ⟨j,hj,rfl⟩:=List.getElem_of_mem h3
        have:(es.toList.map (·.key))[i]'(by simpa using hi)=(es.toList.map (·.key))[j]'(by simpa using hj):=by
          rw [List.getElem_map,List.getElem_map,h2,h4]
        have hp:=List.pairwise_iff_getElem.1 hd
        have:i=j:=by
          rcases Nat.lt_trichotomy i j with e | e | e
          · exact absurd this (hp i j _ _ e)
          · exact e
          · exact absurd this.symm (hp j i _ _ e)
        simp [this]
      rw [this,k4] at h5
      exact h5
  · refine .inl fun w' ho=>?_
    rcases Maps.fit_look true keyed103 Tryz.underlying99 (zero97 w') (ho.heap hm (by simp)) hf hk with ⟨h3,_⟩ | ⟨e3,y,h3,h4,h5,_⟩
    · exact h3
    · exact absurd ⟨e3,h3,h4⟩ hx
end
end Go.Proofs.YtnpdcjdmbkcpbaaGreat.Ins
namespace Go.Proofs.YtnpdcjdmbkcpbaaGreat.Ins
open Go.RowKit
section
variable {C:Par} {K:List Nat} {w:World}
theorem ret31 {tmps:Array Value} {w:World} {g:Nat} {v:Value} (h4:tmps.getD 4 undef = .pointer (some ⟨g,0,none⟩)) (hg:w.heap[g]?=some (.cells #[v] 97 (0,0))):(results Tryz.f31 tmps).run Tryz.prog w = .ok (.agg #[v]) w:=
  results_cell_row rfl tmps w g 97 #[v] (0,0) _ h4 hg Tryz.underlying97 rfl (by kernel_rfl)
theorem vs_keep {w':World} {a b v:Value} {t u:TypeId} (ho:Oth [] ((w.alloc (.cells #[a,b] t)).alloc (.cells #[v] u)) w') {S:World→Prop} (hS:∀ w',Oth [] w w'→S w') {p:Addr} {x:Value} (hp:w.cell? p=some x) :
    Oth [] w w'∧S w'∧w'.heap[w.heap.size + 1]?=some (.cells #[v] u (0,0))∧w'.cell? p=some x∧w'.cell? ⟨w.heap.size,0,none⟩=some a∧w'.cell? ⟨w.heap.size,1,none⟩=some b:=by
  have h0:Oth [] w w':=(((Oth.refl _ _).alloc _).alloc _).trans ho (Fr.nil _ _)
  have h1:Oth [] (w.alloc (.cells #[a,b] t)) w':=((Oth.refl _ _).alloc _).trans ho (Fr.nil _ _)
  obtain ⟨k1,k2⟩:=box1_keep (by simp) h1
  have k3:=ho.heap (heap_alloc_new (w.alloc (.cells #[a,b] t)) (.cells #[v] u)) (by simp)
  simp only [World.size_alloc] at k3
  exact ⟨h0,hS _ h0,k3,h0.cell hp (by simp),k1,k2⟩
set_option maxRecDepth 100000 in
set_option maxHeartbeats 20000000 in
theorem values_hit {l r g c:Nat} (h:Slv C K w) (hl:l < r) (hr:r≤C.cs.length)
    (hk:∀ w',Oth [] w w'→(Instr.lookup 99 (.map (some C.mb)) (.agg #[.int .i64 l,.int .i64 r]) true).run Tryz.prog w' = .ok (.tuple #[.agg #[.slice (some ⟨g,0,none⟩) (C.V l r).length c],.bool true]) w')
    (hi:Ints g (C.V l r) w) (hg:g < w.heap.size) (hgK:g∉K) :
    Calls Tryz.prog 31 #[.pointer (some ⟨C.p,0,none⟩),.agg #[.int .i64 l,.int .i64 r]] w fun e w'=>e = .returned (.agg #[.slice (some ⟨g,0,none⟩) (C.V l r).length c])∧Oth [] w w':=by
  obtain ⟨s0,s1,s2,s3,s4⟩:=h.sol.at_
  have hp:=World.block_lt_of_cell? w _ s0
  obtain ⟨n,hn⟩:∃ a,a=(C.V l r).length:=⟨_,rfl⟩
  rw [← hn] at hk ⊢
  have HN:=Lib.hid hn
  clear hn
  clear h hi s0 s1 s2 s3
  have HK:=Lib.hid hk
  clear hk
  go_enter Tryz.func31,Tryz.ntmps31
  go_wp2_with fail
  go_region_held3 (fun w'=>Oth [] w w'∧(Instr.lookup 99 (.map (some C.mb)) (.agg #[.int .i64 l,.int .i64 r]) true).run Tryz.prog w' = .ok (.tuple #[.agg #[.slice (some ⟨g,0,none⟩) n c],.bool true]) w'∧w'.heap[w.heap.size + 1]?=some (.cells #[.slice none 0 0] 97 (0,0))∧w'.cell? ⟨C.p,4,none⟩=some (.map (some C.mb))∧w'.cell? ⟨w.heap.size,0,none⟩=some (.int .i64 l)∧w'.cell? ⟨w.heap.size,1,none⟩=some (.int .i64 r))
    (first | exact vs_keep (Oth.refl _ _).drew HK.out s4 | exact vs_keep ((Oth.refl _ _).drew.alloc _) HK.out s4 | exact vs_keep (((Oth.refl _ _).drew.alloc _).setCell (.inr (by simp)) _) HK.out s4) (fail)
  all_goals go_wp2_with fail
  all_goals
    refine bodyPost_ret (ret31 rfl (?_:_=some (Obj.cells #[.slice (some ⟨g,0,none⟩) n c] 97 (0,0)))) rfl ⟨rfl,(((Oth.refl _ _).alloc _).alloc _).alloc _ |>.drew⟩
    show ((((w.alloc (.cells #[.int .i64 l,.int .i64 r] 103)).alloc (.cells #[.slice (some ⟨g,0,none⟩) n c] 97)).alloc (.cells #[.slice (some ⟨g,0,none⟩) n c] 97)).heap[w.heap.size + 1]?=_)
    rw [Below.heap_alloc _ _ _ (by simp)]
    exact heap_alloc2_new _ _ _
end
end Go.Proofs.YtnpdcjdmbkcpbaaGreat.Ins
namespace Go.Proofs.YtnpdcjdmbkcpbaaGreat.Ins
open Go.RowKit
section
variable {C:Par} {K:List Nat} {w:World}
theorem info3:(Tryz.prog.info? 3).map (fun i=>(i.zero,i.size,i.bytes))=some (some (.int .i64 0),1,8):=by kernel_rfl
structure VI (C:Par) (K:List Nat) (w:World) (l r gl len:Nat) (xs:List Nat) (wr:World):Prop where
  s:Slv C (gl :: K) wr
  row:Row 3 1 gl len len (iv xs) wr
  oth:Oth [C.mb] w wr
  res:wr.heap[w.heap.size + 1]?=some (.cells #[.slice none 0 0] 97 (0,0))
  b0:wr.cell? ⟨w.heap.size,0,none⟩=some (.int .i64 l)
  b1:wr.cell? ⟨w.heap.size,1,none⟩=some (.int .i64 r)
  fresh:w.heap.size + 2≤gl
theorem VI.step {l r gl len:Nat} {xs ys:List Nat} {wr wr':World} {S:List Nat} (h:VI C K w l r gl len xs wr) (hm:C.mb < w.heap.size) (hs:Slv C (gl :: K) wr') (hr:Row 3 1 gl len len (iv ys) wr') (ho:Oth S wr wr') (hS:∀ k,k∈S→k=C.mb∨k=gl):VI C K w l r gl len ys wr':=by
  have hf:=h.fresh
  have d0:w.heap.size∉S:=fun e=>by rcases hS _ e with e | e <;> omega
  have d1:w.heap.size + 1∉S:=fun e=>by rcases hS _ e with e | e <;> omega
  refine ⟨hs,hr,h.oth.trans ho ?_,ho.heap h.res d1,ho.cell h.b0 d0,ho.cell h.b1 d0,hf⟩
  intro k hk
  rcases hS _ hk with rfl | rfl
  · exact .inl (by simp)
  · exact .inr (by omega)
theorem vs_keep2 {w':World} {a b v:Value} {t u:TypeId} {o:Obj} (ho:Oth [] (((w.alloc (.cells #[a,b] t)).alloc (.cells #[v] u)).alloc o) w') {p:Nat} {x0 x1 x2 x3:Value} (hp:w.cell? ⟨p,0,none⟩=some x0∧w.cell? ⟨p,1,none⟩=some x1∧w.cell? ⟨p,2,none⟩=some x2∧w.cell? ⟨p,3,none⟩=some x3) :
    Oth [] w w'∧w'.heap[w.heap.size + 1]?=some (.cells #[v] u (0,0))∧w'.cell? ⟨p,0,none⟩=some x0∧w'.cell? ⟨p,1,none⟩=some x1∧w'.cell? ⟨p,2,none⟩=some x2∧w'.cell? ⟨p,3,none⟩=some x3∧w'.cell? ⟨w.heap.size,0,none⟩=some a∧w'.cell? ⟨w.heap.size,1,none⟩=some b∧w.heap.size + 3≤w'.heap.size:=by
  have h0:Oth [] w w':=((((Oth.refl _ _).alloc _).alloc _).alloc _).trans ho (Fr.nil _ _)
  have h1:Oth [] ((w.alloc (.cells #[a,b] t)).alloc (.cells #[v] u)) w':=((Oth.refl _ _).alloc _).trans ho (Fr.nil _ _)
  obtain ⟨k1,k2,k3,k4,k5,k6⟩:=vs_keep h1 (S:=fun _=>True) (fun _ _=>trivial) hp.1
  have hsz:=ho.size
  simp at hsz
  exact ⟨h0,k3,k4,h0.cell hp.2.1 (by simp),h0.cell hp.2.2.1 (by simp),h0.cell hp.2.2.2 (by simp),k5,k6,by omega⟩
theorem iv_row {gl len:Nat} {xs:List Nat} {wr:World} (cur:Array Value) (h:wr.heap[gl]?=some (.cells cur 3 (0,0))) (hc:cur.toList=iv xs) (hl:xs.length=len) (hm:len≤maxLen):Row 3 1 gl len len (iv xs) wr:=by
  have h1:cur.size=len:=by rw [← Array.length_toList,hc];simp [iv,hl]
  exact ⟨cur,h,Nat.le_refl _,hm,by omega,by simp [iv,hl],fun j hj=>by rw [← hc,Array.getElem?_toList]⟩
theorem VI.set {l r gl len m u:Nat} {xs:List Nat} {wr:World} (h:VI C K w l r gl len xs wr) (hm:C.mb < w.heap.size) (hgK:gl∉K) (hK:C.p∈K∧C.g1∈K∧C.g2∈K∧C.mb∈K):VI C K w l r gl len (xs.set m u) (wr.setCell ⟨gl,m,none⟩ (.int .i64 (u:Int))):=by
  have ho:Oth [gl] wr (wr.setCell ⟨gl,m,none⟩ (.int .i64 (u:Int))):=(Oth.refl _ _).setCell (.inl (by simp)) _
  refine h.step hm (h.s.oth ho ?_) ?_ ho (by simp)
  · obtain ⟨k1,k2,k3,k4⟩:=hK
    intro k hk
    obtain rfl:k=gl:=by simpa using hk
    exact ⟨.head _,fun e=>hgK (e ▸ k1),fun e=>hgK (e ▸ k2),fun e=>hgK (e ▸ k3),fun e=>hgK (e ▸ k4)⟩
  · have:=h.row.set m (.int .i64 (u:Int))
    unfold iv at this ⊢
    rw [List.map_set];exact this
theorem VI.call {l r gl len:Nat} {xs:List Nat} {wr wr':World} (h:VI C K w l r gl len xs wr) (hm:C.mb < w.heap.size) (ho:Oth [] wr wr'):VI C K w l r gl len xs wr':=
  h.step hm (h.s.oth ho (by simp)) (h.row.oth ho (by simp)) ho (by simp)
theorem VI.S {l r gl len:Nat} {xs:List Nat} {wr:World} (h:VI C K w l r gl len xs wr):VI C K w l r gl len xs wr∧wr.cell? ⟨C.p,0,none⟩=some (.slice (some ⟨C.g1,0,none⟩) C.ws.length C.c1)∧wr.cell? ⟨C.p,1,none⟩=some (.slice (some ⟨C.g2,0,none⟩) C.cs.length C.c2)∧wr.cell? ⟨w.heap.size,0,none⟩=some (.int .i64 l)∧wr.cell? ⟨w.heap.size,1,none⟩=some (.int .i64 (r:Int)):=
  ⟨h,h.s.sol.at_.1,h.s.sol.at_.2.1,h.b0,h.b1⟩
theorem VI.S1 {l gl len:Nat} {xs:List Nat} {wr:World} (h:VI C K w l (l + 1) gl len xs wr):VI C K w l (l + 1) gl len xs wr∧wr.cell? ⟨C.p,0,none⟩=some (.slice (some ⟨C.g1,0,none⟩) C.ws.length C.c1)∧wr.cell? ⟨C.p,1,none⟩=some (.slice (some ⟨C.g2,0,none⟩) C.cs.length C.c2)∧wr.cell? ⟨w.heap.size,0,none⟩=some (.int .i64 l)∧wr.cell? ⟨w.heap.size,1,none⟩=some (.int .i64 ((l:Int) + 1)):=h.S
def onm (m s u q:Nat):List Nat:=(List.range m).map fun i=>if s≤i∧i < q then u else nn
theorem onm_start (m s u:Nat):onm m s u s=List.replicate m nn:=by
  apply List.ext_getElem
  · simp [onm]
  · intro i h1 h2;simp [onm];omega
theorem onm_next (m s u q:Nat) (h1:s≤q) (h2:q < m):(onm m s u q).set q u=onm m s u (q + 1):=by
  apply List.ext_getElem
  · simp [onm]
  · intro i h3 h4
    simp only [onm,List.getElem_set,List.getElem_map,List.getElem_range]
    by_cases e:q=i
    · subst e;rw [if_pos rfl,if_pos (by omega)]
    · rw [if_neg e]
      by_cases e2:s≤i∧i < q
      · rw [if_pos e2,if_pos (by omega)]
      · rw [if_neg e2,if_neg (by omega)]
theorem onm_end (m s u q:Nat) (h:m≤q):onm m s u q=(List.range m).map fun i=>if s≤i then u else nn:=by
  apply List.ext_getElem
  · simp [onm]
  · intro i h1 h2
    have:i < m:=by simpa [onm] using h1
    simp only [onm,List.getElem_map,List.getElem_range]
    by_cases e:s≤i
    · rw [if_pos ⟨e,by omega⟩,if_pos e]
    · rw [if_neg e,if_neg (fun h=>e h.1)]
theorem VI.fin {l r gl len:Nat} {wr:World} (h:VI C K w l r gl len (C.V l r) wr) (hn:C.cs.length≤64) (hl:l < r) (hr:r≤C.cs.length) (hm:C.p < w.heap.size∧C.g1 < w.heap.size∧C.g2 < w.heap.size∧C.mb < w.heap.size) (hgK:gl∉K) (hK:C.p∈K∧C.g1∈K∧C.g2∈K∧C.mb∈K) (hB1:w.heap.size + 1∈K) (hlen:len=(C.V l r).length) :
    ∃ W2,(Instr.mapUpdate 99 (.map (some C.mb)) (.agg #[.int .i64 l,.int .i64 r]) (.agg #[.slice (some ⟨gl,0,none⟩) len len])).run Tryz.prog (wr.alloc (.cells #[.slice (some ⟨gl,0,none⟩) len len] 97)).drew = .ok () W2 ∧
      W2.cell? ⟨wr.heap.size,0,none⟩=some (.slice (some ⟨gl,0,none⟩) len len)∧(∃ v,W2.cell? ⟨w.heap.size + 1,0,none⟩=some v)∧W2.frozen? ⟨w.heap.size + 1,0,none⟩=false ∧
      ∀ v,(W2.setCell ⟨w.heap.size + 1,0,none⟩ v).heap[w.heap.size + 1]?=some (.cells #[v] 97 (0,0))∧Slv C K (W2.setCell ⟨w.heap.size + 1,0,none⟩ v)∧Oth [C.mb] w (W2.setCell ⟨w.heap.size + 1,0,none⟩ v)∧Ints gl (C.V l r) (W2.setCell ⟨w.heap.size + 1,0,none⟩ v)∧gl < (W2.setCell ⟨w.heap.size + 1,0,none⟩ v).heap.size:=by
  have hf:=h.fresh
  obtain ⟨hm1,hm2,hm3,hm⟩:=hm
  have ho:Oth [] wr (wr.alloc (.cells #[.slice (some ⟨gl,0,none⟩) len len] 97)).drew:=((Oth.refl _ _).alloc _).drew
  have hs:Slv C K (wr.alloc (.cells #[.slice (some ⟨gl,0,none⟩) len len] 97)).drew:=(h.s.less (fun k hk=>.tail _ hk) hK.1 hK.2.1 hK.2.2.1 hK.2.2.2).oth ho (by simp)
  have hi:Ints gl (C.V l r) wr:=fun i x hx=>h.row.cell (j:=i) (by simp [iv,hx])
  have hg:=h.row.lt
  have hgm:gl≠C.mb:=by omega
  obtain ⟨W2,k1,k2,k3⟩:=hs.put (by omega) l r gl len hl hr (hi.oth ho (by simp)) (Nat.lt_of_lt_of_le hg ho.size) hgK
  rw [← hlen] at k1
  have hsz:=k3.size
  simp at hsz
  have c1:(wr.alloc (.cells #[.slice (some ⟨gl,0,none⟩) len len] 97)).drew.heap[wr.heap.size]?=some (.cells #[.slice (some ⟨gl,0,none⟩) len len] 97 (0,0)):=heap_alloc_new _ _
  have c2:=k3.heap c1 (by simp;omega)
  have c3:=k3.heap (ho.heap h.res (by simp)) (by simp;omega)
  refine ⟨W2,k1,cell_of_one c2,⟨_,cell_of_one c3⟩,free_of_one c3,fun v=>?_⟩
  have o2:Oth [w.heap.size + 1] W2 (W2.setCell ⟨w.heap.size + 1,0,none⟩ v):=(Oth.refl _ _).setCell (.inl (by simp)) _
  have hw:Oth [C.mb] w W2:=(h.oth.trans ho (Fr.nil _ _)).trans k3 (Fr.refl _ _)
  have hw2:=hw.trans o2 (fun k hk=>.inr (by simp at hk;omega))
  have hne:gl≠w.heap.size + 1:=by omega
  exact ⟨one_set0 c3,k2.oth o2 (by simp;exact ⟨hB1,by omega,by omega,by omega,by omega⟩),hw2,((hi.oth ho (by simp)).oth k3 (by simpa using hgm)).oth o2 (by simpa using hne),Nat.lt_of_lt_of_le hg (Nat.le_trans (by simp) (Nat.le_trans k3.size o2.size))⟩
theorem wp_cut {P:Program} {c:Code} {Q:Exit→Act→World→Prop} {a:Act} {w:World} (A:Act) (W:World) (h:Code.wp P c (fun e a' w'=>e = .normal∧a'=A∧w'=W) a w) (hq:Q .normal A W):Code.wp P c Q a w:=
  Code.wp_mono (fun e a' w' ⟨h1,h2,h3⟩=>by subst h1;subst h2;subst h3;exact hq) h
set_option maxRecDepth 100000 in
set_option maxHeartbeats 20000000 in
theorem values_new {l r:Nat} (hG:Good C) (hRec:Rec C) (h:Slv C K w) (hl:l < r) (hr:r≤C.cs.length)
    (hk:∀ w',Oth [] w w'→(Instr.lookup 99 (.map (some C.mb)) (.agg #[.int .i64 l,.int .i64 r]) true).run Tryz.prog w' = .ok (.tuple #[.agg #[.slice none 0 0],.bool false]) w')
    (hIH:∀ a b,a < b→b≤C.cs.length→b - a < r - l→VS C a b) :
    Calls Tryz.prog 31 #[.pointer (some ⟨C.p,0,none⟩),.agg #[.int .i64 l,.int .i64 r]] w fun e w'=>
      ∃ g c:Nat,e = .returned (.agg #[.slice (some ⟨g,0,none⟩) (C.V l r).length c])∧Slv C K w'∧Oth [C.mb] w w'∧Ints g (C.V l r) w'∧g < w'.heap.size∧g∉K:=by
  obtain ⟨s0,s1,s2,s3,s4⟩:=h.sol.at_
  have hp:=World.block_lt_of_cell? w _ s0
  have hwl:C.ws.length=C.cs.length + 1:=hG.n1
  have hcl:C.cs.length≤64:=hG.n2.2
  have hcap:=hG.cap
  have hkp:=kp_le C hG l (by omega)
  obtain ⟨len,hlen⟩:∃ a,a=C.cap + 1 - kp C.ws l:=⟨_,rfl⟩
  have HKEPT:Hid (∀ w',Oth [] w w'→Calls Tryz.prog 75 #[.agg #[.slice (some ⟨C.g1,0,none⟩) C.ws.length C.c1,.slice (some ⟨C.g2,0,none⟩) C.cs.length C.c2],.int .i64 l] w' fun e w2=>e = .returned (.int .i64 (kp C.ws l:Nat))∧Oth [] w' w2):=
    fun w' ho=>kept_any (h.ws.oth ho (by simp)) (by omega)
  have HS:=Lib.hid h
  have HG:=Lib.hid hG
  have HREC:=Lib.hid hRec
  have HIH:=Lib.hid hIH
  have HK:=Lib.hid hk
  have bl:(l:Int) < 1000:=by omega
  have br:(r:Int) < 1000:=by omega
  have hmk:=run_make_row' (P:=Tryz.prog) 22 3 (.int .i64 0) 8 Tryz.underlying22 info3 rfl .i64 .i64 len (by omega) (by omega)
  have e1:IntKind.i64.wrap ((C.cap:Int) - (kp C.ws l:Nat))=(C.cap:Int) - (kp C.ws l:Nat):=IntWalk.i64_in _ (by omega)
  have e2:IntKind.i64.wrap ((C.cap:Int) - (kp C.ws l:Nat) + 1)=(C.cap:Int) - (kp C.ws l:Nat) + 1:=IntWalk.i64_in _ (by omega)
  have e3:(if (0:Int) < (C.cap:Int) - (kp C.ws l:Nat) + 1 then (C.cap:Int) - (kp C.ws l:Nat) + 1 else 0)=(len:Int):=by split <;> omega
  have HLEN:=Lib.hid hlen
  have HWL:=Lib.hid hwl
  clear h hG hRec hIH hk hlen hwl
  go_enter Tryz.func31,Tryz.ntmps31
  go_wp2_with fail
  apply wp_cut
  case h=>
   go_region_held3 (fun w'=>Oth [] w w'∧(Instr.lookup 99 (.map (some C.mb)) (.agg #[.int .i64 l,.int .i64 r]) true).run Tryz.prog w' = .ok (.tuple #[.agg #[.slice none 0 0],.bool false]) w'∧w'.heap[w.heap.size + 1]?=some (.cells #[.slice none 0 0] 97 (0,0))∧w'.cell? ⟨C.p,4,none⟩=some (.map (some C.mb))∧w'.cell? ⟨w.heap.size,0,none⟩=some (.int .i64 l)∧w'.cell? ⟨w.heap.size,1,none⟩=some (.int .i64 r))
    (first | exact vs_keep (Oth.refl _ _).drew HK.out s4 | exact vs_keep ((Oth.refl _ _).drew.alloc _) HK.out s4 | exact vs_keep (((Oth.refl _ _).drew.alloc _).setCell (.inr (by simp)) _) HK.out s4) (fail)
   all_goals exact ⟨rfl,rfl,rfl⟩
  go_wp2_with fail
  have HP4:=Lib.hid (And.intro s0 (And.intro s1 (And.intro s2 s3)))
  clear s0 s1 s2 s3
  go_region_held3 (fun w'=>Oth [] w w'∧w'.heap[w.heap.size + 1]?=some (.cells #[.slice none 0 0] 97 (0,0))∧w'.cell? ⟨C.p,0,none⟩=some (.slice (some ⟨C.g1,0,none⟩) C.ws.length C.c1)∧w'.cell? ⟨C.p,1,none⟩=some (.slice (some ⟨C.g2,0,none⟩) C.cs.length C.c2)∧w'.cell? ⟨C.p,2,none⟩=some (.int .i64 C.cs.length)∧w'.cell? ⟨C.p,3,none⟩=some (.int .i64 C.cap)∧w'.cell? ⟨w.heap.size,0,none⟩=some (.int .i64 l)∧w'.cell? ⟨w.heap.size,1,none⟩=some (.int .i64 r)∧w.heap.size + 3≤w'.heap.size)
    (first | with_reducible exact vs_keep2 (Oth.refl _ _).drew.drew HP4.out | with_reducible exact vs_keep2 ((Oth.refl _ _).drew.drew.trans ho (Fr.nil _ _)) HP4.out | with_reducible exact vs_keep2 (((Oth.refl _ _).drew.drew.trans ho (Fr.nil _ _)).alloc _) HP4.out) (first | (go_at_call 75;refine (HKEPT.out _ ((((Oth.refl _ _).alloc _).alloc _).alloc _).drew.drew).mono ?_;rintro e w' ⟨rfl,ho⟩))
  rename_i hh
  obtain ⟨o1,o2,_,_,_,_,o3,o4,o5⟩:=hh
  have hmb:C.mb < w.heap.size:=HS.out.old _ HS.out.base.2.2.2.1
  obtain ⟨b1,b2,b3,b4,_⟩:=HS.out.base
  have HOLD:=Lib.hid (And.intro (HS.out.old _ b1) (And.intro (HS.out.old _ b2) (And.intro (HS.out.old _ b3) hmb)))
  have o6:Oth [] w w':=((((Oth.refl [] _).alloc _).alloc _).alloc _).drew.drew.trans ho (Fr.nil _ _)
  have o7:Oth [] w' (w'.alloc (.cells (madeCells #[.int .i64 0] len) 3)):=(Oth.refl _ _).alloc _
  have o8:=ho.size
  simp at o8
  have hgK:w'.heap.size∉(w.heap.size + 1) :: K:=fun e=>by
    rcases List.mem_cons.1 e with e | e
    · omega
    · have:=HS.out.old _ e;omega
  have v0:VI C ((w.heap.size + 1) :: K) w l r w'.heap.size len (List.replicate len 0) (w'.alloc (.cells (madeCells #[.int .i64 0] len) 3)):=
    ⟨(HS.out.new o6 (w.heap.size + 1) (by omega) (by omega)).new o7 _ (Nat.le_refl _) (by simp),iv_row _ (heap_alloc_new _ _) (by rw [toList_madeCells_one];simp [iv]) (by simp) (by unfold maxLen;omega),o1.mono (by simp),o2,o3,o4,by omega⟩
  obtain ⟨gl,hgl⟩:∃ a,a=w'.heap.size:=⟨_,rfl⟩
  rw [← hgl] at hgK v0 ⊢
  have HV0:=Lib.hid v0
  have HB:=Lib.hid (show C.p∈(w.heap.size + 1) :: K∧C.g1∈(w.heap.size + 1) :: K∧C.g2∈(w.heap.size + 1) :: K∧C.mb∈(w.heap.size + 1) :: K from ⟨.tail _ b1,.tail _ b2,.tail _ b3,.tail _ b4⟩)
  clear o1 o2 o3 o4 o5 o6 o7 o8 v0 hgl b1 b2 b3 b4 ho
  go_wp2_with fail
  go_loopw [42] (fun x wr=>∃ m:Nat,m≤len∧x = .int .i64 m∧VI C ((w.heap.size + 1) :: K) w l r gl len (List.replicate m nn ++ List.replicate (len - m) 0) wr) (fun x _=>len - (intOf x).toNat)
  case atStart=>exact ⟨0,by omega,rfl,by simpa using HV0.out⟩
  case round=>
    obtain ⟨m,hm,rfl,hv⟩:=hrel
    by_cases hlt:m < len
    · have t1:(m:Int) < (len:Int):=by omega
      obtain ⟨v0,a1⟩:=Option.isSome_iff_exists.1 (hv.row.there (j:=m) (by omega))
      have a2:=hv.row.free m
      have hv2:=hv.set (m:=m) (u:=nn) hmb hgK HB.out
      have e9:(List.replicate m nn ++ List.replicate (len - m) 0).set m nn=List.replicate (m + 1) nn ++ List.replicate (len - (m + 1)) 0:=by
        rw [List.set_append_right _ _ (by simp)]
        obtain ⟨d,hd⟩:∃ d,len - m=d + 1:=⟨len - m - 1,by omega⟩
        rw [hd,show len - (m + 1)=d by omega,List.replicate_succ,List.length_replicate,Nat.sub_self,List.set_cons_zero,List.replicate_succ' (n:=m),List.append_assoc];rfl
      rw [e9,show ((nn:Nat):Int)=1152921504606846976 from rfl] at hv2
      have HV2:=Lib.hid hv2
      clear hv hv2 e9
      go_wp2_with fail
      go_roundw
      case rel=>exact ⟨m + 1,by omega,by go_num,HV2.out⟩
      case measure=>simp [intOf];omega
    · obtain rfl:m=len:=by omega
      have t1:¬ (m:Int) < (m:Int):=by omega
      rw [Nat.sub_self,List.replicate_zero,List.append_nil] at hv
      have a1:=hv.b0
      have a2:=hv.b1
      have e4:IntKind.i64.wrap ((l:Int) + 1)=(l:Int) + 1:=IntWalk.i64_in _ (by omega)
      have HV:=Lib.hid hv
      clear hv
      by_cases hone:r=l + 1
      · subst hone
        have HSING:Hid (∀ w',VI C ((w.heap.size + 1) :: K) w l (l + 1) gl m (List.replicate m nn) w'→Calls Tryz.prog 76 #[.agg #[.slice (some ⟨C.g1,0,none⟩) C.ws.length C.c1,.slice (some ⟨C.g2,0,none⟩) C.cs.length C.c2],.agg #[.int .i64 l,.int .i64 ((l:Int) + 1)]] w' fun e w2=>e = .returned (.int .i64 (sg C.ws l (l + 1):Nat))∧Oth [] w' w2):=
          fun w' hv=>single_any (l:=l) (r:=l + 1) hv.s.ws (Nat.lt_add_one l) (by have h7:=HWL.out;have h8:l + 1≤C.cs.length:=hr;rw [h7];exact Nat.lt_succ_of_le h8) (fun i hi=>(HG.out.wb i hi).2)
        have HOWN:Hid (∀ xs w',VI C ((w.heap.size + 1) :: K) w l (l + 1) gl m xs w'→Calls Tryz.prog 77 #[.pointer (some ⟨C.p,0,none⟩),.agg #[.int .i64 l,.int .i64 ((l:Int) + 1)]] w' fun e w2=>e = .returned (.int .i64 (own C.cs (l + 1):Nat))∧Oth [] w' w2):=
          fun xs w' hv=>own_all hv.s (Nat.lt_add_one l) hr hcl
        have hsg:sg C.ws l (l + 1)≤131072:=by
          have:=(HG.out.wb (l + 1) (by have:=HWL.out;omega)).2
          unfold sg;omega
        obtain ⟨s,hs⟩:∃ a,a=sg C.ws l (l + 1):=⟨_,rfl⟩
        obtain ⟨u,hu⟩:∃ a,a=own C.cs (l + 1):=⟨_,rfl⟩
        have HSG:=Lib.hid hs
        have HU:=Lib.hid hu
        rw [← hs] at HSING hsg
        rw [← hu] at HOWN
        clear hs hu
        go_wp2_with fail
        go_region_held3 (fun w'=>VI C ((w.heap.size + 1) :: K) w l (l + 1) gl m (List.replicate m nn) w'∧w'.cell? ⟨C.p,0,none⟩=some (.slice (some ⟨C.g1,0,none⟩) C.ws.length C.c1)∧w'.cell? ⟨C.p,1,none⟩=some (.slice (some ⟨C.g2,0,none⟩) C.cs.length C.c2)∧w'.cell? ⟨w.heap.size,0,none⟩=some (.int .i64 l)∧w'.cell? ⟨w.heap.size,1,none⟩=some (.int .i64 ((l:Int) + 1)))
          (first | exact (HV.out.call hmb (Oth.refl _ _).drew).S1 | exact ((HV.out.call hmb (Oth.refl _ _).drew).call hmb ho).S1)
          (first | (go_at_call 76;refine (HSING.out _ (HV.out.call hmb (Oth.refl _ _).drew)).mono ?_;rintro e w' ⟨rfl,ho⟩))
        rename_i hh
        have HV2:=Lib.hid hh.1
        clear hh ho
        go_wp2_with fail
        go_loopw [9] (fun x wr=>∃ q:Nat,s≤q∧(q≤m∨q=s)∧x = .int .i64 q∧VI C ((w.heap.size + 1) :: K) w l (l + 1) gl m (onm m s u q) wr) (fun x _=>m - (intOf x).toNat)
        case atStart=>exact ⟨s,Nat.le_refl _,.inr rfl,rfl,by rw [onm_start];exact HV2.out⟩
        case round=>
          obtain ⟨q,hq1,hq2,rfl,hv⟩:=hrel
          by_cases hlt:q < m
          · have t1:(q:Int) < (m:Int):=by omega
            have a1:=hv.b0
            have a2:=hv.S1.2.2.2.2
            have HVQ:=Lib.hid hv
            clear hv
            go_wp2_with (go_at_call 77;refine (HOWN.out _ _ HVQ.out).mono ?_;rintro e w' ⟨rfl,ho⟩;obtain ⟨v0,a3⟩:=Option.isSome_iff_exists.1 ((HVQ.out.call hmb ho).row.there (j:=q) (by omega));have a4:=(HVQ.out.call hmb ho).row.free q;have HHO:=Lib.hid ho;clear ho)
            have hv3:=(HVQ.out.call hmb HHO.out).set (m:=q) (u:=u) hmb hgK HB.out
            rw [onm_next _ _ _ _ hq1 hlt] at hv3
            go_roundw
            case rel=>exact ⟨q + 1,by omega,by omega,by go_num,hv3⟩
            case measure=>simp [intOf];omega
          · have t1:¬ (q:Int) < (m:Int):=by omega
            have hfin:onm m s u q=C.V l (l + 1):=by
              rw [onm_end _ _ _ _ (by omega),HREC.out l (l + 1) (by omega) hr,if_pos rfl,one,← HLEN.out,← HSG.out,← HU.out]
            rw [hfin] at hv
            have hml:m=(C.V l (l + 1)).length:=by rw [HG.out.vl l (l + 1) (by omega) hr,← HLEN.out]
            obtain ⟨W2,f1,f2,⟨v2,f3⟩,f4,f5⟩:=hv.fin hcl (by omega) hr HOLD.out hgK HB.out (by simp) hml
            have F5:=Lib.hid f5
            have HML:=Lib.hid hml
            have f1':(Instr.mapUpdate 99 (.map (some C.mb)) (.agg #[.int .i64 l,.int .i64 ((l:Int) + 1)]) (.agg #[.slice (some ⟨gl,0,none⟩) m m])).run Tryz.prog (wr.alloc (.cells #[.slice (some ⟨gl,0,none⟩) m m] 97)).drew = .ok () W2:=f1
            have d0:=hv.s.sol.at_.2.2.2.2
            have d1:=hv.b0
            have d2:=hv.S1.2.2.2.2
            have d3:=lt_of_block hv.s.sol
            have d4:=World.block_lt_of_cell? wr _ d1
            clear f1 f5 hv hml hfin
            go_wp2_with fail
            go_region
            go_wp2_with fail
            refine bodyPost_ret (ret31 rfl (F5.out _).1) rfl ⟨gl,m,by rw [← HML.out],(F5.out _).2.1.less (fun k hk=>.tail _ hk) HS.out.base.1 HS.out.base.2.1 HS.out.base.2.2.1 HS.out.base.2.2.2.1,(F5.out _).2.2.1,(F5.out _).2.2.2.1,(F5.out _).2.2.2.2,fun e=>hgK (.tail _ e)⟩
      · have t2:¬ (r:Int)=l + 1:=by omega
        have HSTEP:Hid (∀ xs w' (kq:Nat),VI C ((w.heap.size + 1) :: K) w l r gl m xs w'→l≤kq→kq + 1 < r→Calls Tryz.prog 78 #[.agg #[.slice (some ⟨C.g1,0,none⟩) C.ws.length C.c1,.slice (some ⟨C.g2,0,none⟩) C.cs.length C.c2],.agg #[.int .i64 l,.int .i64 r],.int .i64 ((kq:Int) + 1)] w' fun e w2=>e = .returned (.int .i64 (stp C.ws C.cs.length l r (kq + 1):Nat))∧Oth [] w' w2):=
          fun xs w' kq hv h1 h2=>step_all (k:=kq + 1) hv.s.ws (by omega) h2 (by have h7:=HWL.out;omega) (by have h7:=HWL.out;omega) (fun i hi=>(HG.out.wb i hi).2)
        have HSPL:Hid (∀ xs w' (kq need cost:Nat),VI C ((w.heap.size + 1) :: K) w l r gl m xs w'→l≤kq→kq + 1 < r→(∀ i,xs.getD i 0≤1152921504606846976)→need < m→C.ws.getD (kq + 1) 0≤need→cost≤100000000000000 →
            Calls Tryz.prog 79 #[.pointer (some ⟨C.p,0,none⟩),.agg #[.int .i64 l,.int .i64 r],.int .i64 ((kq:Int) + 1),.int .i64 need,.int .i64 cost,.slice (some ⟨gl,0,none⟩) m m] w' fun e w2=>
              e = .returned (.tuple #[])∧VI C ((w.heap.size + 1) :: K) w l r gl m (spm xs (C.V (kq + 1) r) (C.V l (kq + 1)) need cost (C.ws.getD (kq + 1) 0) m) w2):=by
          intro xs w' kq need cost hv h1 h2 h3 h4 h5 h6
          refine (split_any (k:=kq + 1) HG.out (by omega) h2 hr (HIH.out _ _ h2 hr (by omega)) (HIH.out _ _ (by omega) (by omega) (by omega)) hgK HB.out hv.s hv.row h3 (by rw [HG.out.vl l r hl hr,← HLEN.out]) h4 h5 h6).mono ?_
          rintro e w2 ⟨rfl,k1,k2,k3⟩
          exact ⟨rfl,hv.step hmb k1 k3 k2 (by simp)⟩
        go_wp2_with fail
        go_loopw [10,11,12] (fun x y z wr=>∃ j kq:Nat,kq=l + j∧kq + 1≤r∧x = .int .i64 ((mny C l r j).1:Nat)∧y = .int .i64 ((mny C l r j).2.1:Nat)∧z = .int .i64 ((kq:Int) + 1)∧VI C ((w.heap.size + 1) :: K) w l r gl m (mny C l r j).2.2 wr) (fun _ _ z _=>r - (intOf z).toNat)
        case atStart=>exact ⟨0,l,by omega,by omega,rfl,rfl,rfl,by simp only [mny];rw [← HLEN.out];exact HV.out⟩
        case round=>
          obtain ⟨j,kq,hkq,hkr,rfl,rfl,rfl,hv⟩:=hrel
          have a1:=hv.S.2.2.2.1
          have a2:=hv.S.2.2.2.2
          by_cases hlt:kq + 1 < r
          · have t3:(kq:Int) + 1 < r:=by omega
            have hnd:=mny_need C HG.out l r j (by omega) hr
            have hct:=mny_cost C HG.out l r j (by omega)
            have hst:=stp_le C HG.out l r (kq + 1) hlt hr
            have hcc:=HG.out.cb kq (by omega)
            have hsw:C.ws.getD (kq + 1) 0≤stp C.ws C.cs.length l r (kq + 1):=by unfold stp;omega
            have hjl:j≤64:=by omega
            have hmx:=mny_le C l r j
            have hml:(mny C l r j).2.2.length=m:=by rw [mny_length,← HLEN.out]
            have hnext:mny C l r (j + 1)=(max (mny C l r j).1 (stp C.ws C.cs.length l r (kq + 1)),(mny C l r j).2.1 + C.cs.getD kq 0,if max (mny C l r j).1 (stp C.ws C.cs.length l r (kq + 1)) < m then spm (mny C l r j).2.2 (C.V (kq + 1) r) (C.V l (kq + 1)) (max (mny C l r j).1 (stp C.ws C.cs.length l r (kq + 1))) ((mny C l r j).2.1 + C.cs.getD kq 0) (C.ws.getD (kq + 1) 0) m else (mny C l r j).2.2):=by
              simp only [mny];rw [hml,show l + 1 + j=kq + 1 by omega,show l + j=kq by omega]
            obtain ⟨nd,hN⟩:∃ a,a=(mny C l r j).1:=⟨_,rfl⟩
            obtain ⟨ct,hC⟩:∃ a,a=(mny C l r j).2.1:=⟨_,rfl⟩
            obtain ⟨xs,hX⟩:∃ a,a=(mny C l r j).2.2:=⟨_,rfl⟩
            rw [← hN] at hnd hnext ⊢
            rw [← hC] at hct hnext ⊢
            rw [← hX] at hmx hml hnext hv
            have hstep:=HSTEP.out xs
            obtain ⟨st,hS⟩:∃ a,a=stp C.ws C.cs.length l r (kq + 1):=⟨_,rfl⟩
            have HST:Hid (∀ w',VI C ((w.heap.size + 1) :: K) w l r gl m xs w'→Calls Tryz.prog 78 #[.agg #[.slice (some ⟨C.g1,0,none⟩) C.ws.length C.c1,.slice (some ⟨C.g2,0,none⟩) C.cs.length C.c2],.agg #[.int .i64 l,.int .i64 r],.int .i64 ((kq:Int) + 1)] w' fun e w2=>e = .returned (.int .i64 (st:Nat))∧Oth [] w' w2):=by
              rw [hS];exact fun w' hv=>hstep w' kq hv (by omega) hlt
            rw [← hS] at hst hsw hnext
            obtain ⟨cc,hCC⟩:∃ a,a=C.cs.getD kq 0:=⟨_,rfl⟩
            rw [← hCC] at hcc hnext
            have hcell:∀ w',VI C ((w.heap.size + 1) :: K) w l r gl m xs w'→w'.cell? ⟨C.g2,kq,none⟩=some (.int .i64 (cc:Nat)):=fun w' hv=>by rw [hCC];exact hv.s.cs.at_ (by omega)
            have HCELL:=Lib.hid hcell
            have HNEXT:=Lib.hid hnext
            have HVX:=Lib.hid hv
            have HMX:=Lib.hid hmx
            have hmax:(if nd < st then (st:Int) else nd)=((max nd st:Nat):Int):=by split <;> omega
            have e5:IntKind.i64.wrap (kq:Int)=kq:=IntWalk.i64_in _ (by omega)
            have e6:IntKind.i64.wrap ((ct:Int) + cc)=ct + cc:=IntWalk.i64_in _ (by omega)
            have e7:IntKind.i64.wrap ((kq:Int) + 1 + 1)=kq + 1 + 1:=IntWalk.i64_in _ (by omega)
            have t4:(kq:Int) < C.cs.length:=by omega
            have HKQ:=Lib.hid hkq
            clear hN hC hX hS hCC hcell hnext hv hml hstep hmx hkq
            go_wp2_with fail
            go_region_held3 (fun w'=>VI C ((w.heap.size + 1) :: K) w l r gl m xs w'∧w'.cell? ⟨C.p,0,none⟩=some (.slice (some ⟨C.g1,0,none⟩) C.ws.length C.c1)∧w'.cell? ⟨C.p,1,none⟩=some (.slice (some ⟨C.g2,0,none⟩) C.cs.length C.c2)∧w'.cell? ⟨w.heap.size,0,none⟩=some (.int .i64 l)∧w'.cell? ⟨w.heap.size,1,none⟩=some (.int .i64 r))
              (first | exact (HVX.out.call hmb (Oth.refl _ _).drew).S | exact ((HVX.out.call hmb (Oth.refl _ _).drew).call hmb ho).S)
              (first | (go_at_call 78;refine (HST.out _ (HVX.out.call hmb (Oth.refl _ _).drew)).mono ?_;rintro e w' ⟨rfl,ho⟩))
            rename_i hh
            obtain ⟨hv1,s0,s1,b0,b1⟩:=hh
            have c1:=HCELL.out _ hv1
            try rw [hmax]
            obtain ⟨nd',hnd'⟩:∃ a,a=max nd st:=⟨_,rfl⟩
            have hndb:nd'≤196608:=by omega
            have hndw:C.ws.getD (kq + 1) 0≤nd':=by omega
            rw [← hnd'] at HNEXT ⊢
            have HS2:Hid (nd' < m→∀ w',VI C ((w.heap.size + 1) :: K) w l r gl m xs w'→Calls Tryz.prog 79 #[.pointer (some ⟨C.p,0,none⟩),.agg #[.int .i64 l,.int .i64 r],.int .i64 ((kq:Int) + 1),.int .i64 nd',.int .i64 ((ct:Int) + cc),.slice (some ⟨gl,0,none⟩) m m] w' fun e w2=>
                e = .returned (.tuple #[])∧VI C ((w.heap.size + 1) :: K) w l r gl m (spm xs (C.V (kq + 1) r) (C.V l (kq + 1)) nd' (ct + cc) (C.ws.getD (kq + 1) 0) m) w2):=by
              intro h1 w' hv
              have h7:=HSPL.out xs w' kq nd' (ct + cc) hv (by have:=HKQ.out;omega) hlt HMX.out h1 hndw (by omega)
              rw [Int.natCast_add] at h7
              exact h7
            have HV1:=Lib.hid hv1
            have HO:=Lib.hid ho
            clear hv1 hmax hnd' ho hndw hst
            by_cases hfit:nd' < m
            · have t5:(nd':Int) < m:=by omega
              go_wp2_with ((with_reducible refine (HS2.out hfit _ HV1.out).mono ?_);rintro e w' ⟨rfl,hv2⟩)
              go_roundw
              case rel=>exact ⟨j + 1,kq + 1,by have:=HKQ.out;omega,by omega,by rw [HNEXT.out],by rw [HNEXT.out];go_num,by go_num,by rw [HNEXT.out];simp only [if_pos hfit];exact hv2⟩
              case measure=>simp [intOf];omega
            · have t5:¬ (nd':Int) < m:=by omega
              go_wp2_with fail
              go_roundw
              case rel=>exact ⟨j + 1,kq + 1,by have:=HKQ.out;omega,by omega,by rw [HNEXT.out],by rw [HNEXT.out];go_num,by go_num,by rw [HNEXT.out];simp only [if_neg hfit];exact HV1.out⟩
              case measure=>simp [intOf];omega
          · obtain rfl:r=kq + 1:=by omega
            have t3:¬ (kq:Int) + 1 < (kq:Int) + 1:=by omega
            have hfin:(mny C l (kq + 1) j).2.2=C.V l (kq + 1):=by
              rw [HREC.out l (kq + 1) (by omega) hr,if_neg (by omega),show kq + 1 - l - 1=j by omega]
            rw [hfin] at hv
            have hml:m=(C.V l (kq + 1)).length:=by rw [HG.out.vl l (kq + 1) (by omega) hr,← HLEN.out]
            obtain ⟨W2,f1,f2,⟨v2,f3⟩,f4,f5⟩:=hv.fin hcl (by omega) hr HOLD.out hgK HB.out (by simp) hml
            have F5:=Lib.hid f5
            have HML:=Lib.hid hml
            have f1':(Instr.mapUpdate 99 (.map (some C.mb)) (.agg #[.int .i64 l,.int .i64 ((kq:Int) + 1)]) (.agg #[.slice (some ⟨gl,0,none⟩) m m])).run Tryz.prog (wr.alloc (.cells #[.slice (some ⟨gl,0,none⟩) m m] 97)).drew = .ok () W2:=f1
            have d0:=hv.s.sol.at_.2.2.2.2
            have d3:=lt_of_block hv.s.sol
            have d4:=World.block_lt_of_cell? wr _ a1
            have a1':wr.cell? ⟨w.heap.size,0,none⟩=some (.int .i64 l):=hv.b0
            have a2':wr.cell? ⟨w.heap.size,1,none⟩=some (.int .i64 ((kq:Int) + 1)):=hv.b1
            have HKQ:=Lib.hid hkq
            clear f1 f5 hv hml hfin a1 a2 hkq
            go_wp2_with fail
            go_region
            go_wp2_with fail
            refine bodyPost_ret (ret31 rfl (F5.out _).1) rfl ⟨gl,m,by rw [← HML.out],(F5.out _).2.1.less (fun k hk=>.tail _ hk) HS.out.base.1 HS.out.base.2.1 HS.out.base.2.2.1 HS.out.base.2.2.2.1,(F5.out _).2.2.1,(F5.out _).2.2.2.1,(F5.out _).2.2.2.2,fun e=>hgK (.tail _ e)⟩
theorem values_any (hG:Good C) (hRec:Rec C):∀ (d l r:Nat),r - l=d→l < r→r≤C.cs.length→VS C l r:=by
  intro d
  induction d using Nat.strongRecOn with
  | _ d ih=>
    intro l r hd hl hr K w h
    rcases h.looks (by have:=hG.n2;omega) l r hl hr with h1 | ⟨g,c,h1,h2,h3,h4⟩
    · exact values_new hG hRec h hl hr h1 (fun a b h2 h3 h4=>ih (b - a) (by omega) a b rfl h2 h3)
    · refine (values_hit h hl hr h1 h2 h3 h4).mono ?_
      rintro e w' ⟨rfl,ho⟩
      exact ⟨g,c,rfl,h.oth ho (by simp),ho.mono (by simp),h2.oth ho (by simp),Nat.lt_of_lt_of_le h3 ho.size,h4⟩
end
end Go.Proofs.YtnpdcjdmbkcpbaaGreat.Ins
