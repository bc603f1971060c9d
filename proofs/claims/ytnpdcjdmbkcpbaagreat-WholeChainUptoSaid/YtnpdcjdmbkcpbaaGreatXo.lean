/- What lies in memory while net.sorted runs. Plain: what look answers of a net; a chain out of it. The walk of net.sorted. No condition. -/
import Derived.Test.YtnpdcjdmbkcpbaaGreatXk
import Derived.Test.YtnpdcjdmbkcpbaaGreatXn
import Derived.Maps.AppendAt
import Derived.Lib.JoinLaws
set_option linter.unusedVariables false
set_option linter.unusedSimpArgs false
namespace Go.Proofs.YtnpdcjdmbkcpbaaGreat.Ins
open Go.RowKit
def CC (n:Nat) (U:Nat→List Int) (R O:List Int) (k:Nat):List Int:=if k≤n then U k else if k=n + 1 then R else O
theorem CC_u {n:Nat} {U:Nat→List Int} {R O:List Int} {k:Nat} (h:k≤n):CC n U R O k=U k:=if_pos h
theorem CC_r {n:Nat} {U:Nat→List Int} {R O:List Int}:CC n U R O (n + 1)=R:=by rw [CC,if_neg (by omega),if_pos rfl]
theorem CC_o {n:Nat} {U:Nat→List Int} {R O:List Int}:CC n U R O (n + 2)=O:=by rw [CC,if_neg (by omega),if_neg (by omega)]
structure SMm (n g:Nat) (W:Nat→Int) (V:Nat→Value) (U:Nat→List Int) (R O:List Int) (w0 w:World):Prop where
  o:Oth [] w0 w
  lo:w0.heap.size≤g
  wt:Nms g W (n + 1) (n + 1) w
  us:Row 22 1 (g + 1) (n + 1) (n + 1) ((List.range (n + 1)).map V) w
  fam:Fam (g + 2) (n + 3) V (CC n U R O) w
section
variable {n g:Nat} {W:Nat→Int} {V:Nat→Value} {U:Nat→List Int} {R O:List Int} {w0 w w1:World}
theorem SMm.hi (h:SMm n g W V U R O w0 w):g + 1 < w.heap.size:=h.us.lt
theorem SMm.keep (h:SMm n g W V U R O w0 w) (ho:Oth [] w w1):SMm n g W V U R O w0 w1:=
  ⟨h.o.trans ho (Fr.nil _ _),h.lo,h.wt.oth ho (by simp),h.us.oth ho (by simp),h.fam.keep ho⟩
theorem SMm.ownU (h:SMm n g W V U R O w0 w) {i:Nat} (hi:i≤n):w.ownsRow 0 3 1 (V i) (U i).length (ivl (U i)):=by
  have:=h.fam.own i (by omega)
  rwa [CC_u hi] at this
theorem SMm.ownR (h:SMm n g W V U R O w0 w):w.ownsRow 0 3 1 (V (n + 1)) R.length (ivl R):=by
  have:=h.fam.own (n + 1) (by omega)
  rwa [CC_r] at this
theorem SMm.ownO (h:SMm n g W V U R O w0 w):w.ownsRow 0 3 1 (V (n + 2)) O.length (ivl O):=by
  have:=h.fam.own (n + 2) (by omega)
  rwa [CC_o] at this
theorem SMm.userAt (h:SMm n g W V U R O w0 w) {i:Nat} (hi:i≤n):w.cell? ⟨g + 1,i,none⟩=some (V i):=
  h.us.cell (by rw [List.getElem?_map,List.getElem?_range (by omega)];rfl)
theorem SMm.wait (h:SMm n g W V U R O w0 w) (i:Nat) (x:Int):SMm n g (fun j=>if j=i then x else W j) V U R O w0 (w.setCell ⟨g,i,none⟩ (.int .i64 x)):=by
  have ho:Oth [g] w (w.setCell ⟨g,i,none⟩ (.int .i64 x)):=(Oth.refl _ _).setCell (.inl (by simp)) _
  exact ⟨h.o.setCell (.inr h.lo) _,h.lo,h.wt.set i x,h.us.oth ho (by simp),h.fam.oth ho (fun k hk b hb e=>by
    have:=h.fam.new k hk b hb
    simp at e;omega)⟩
theorem SMm.ext {W':Nat→Int} {V':Nat→Value} {U':Nat→List Int} (h:SMm n g W V U R O w0 w) (hW:∀ i,i≤n→W i=W' i) (hU:∀ i,i≤n→U i=U' i) (hV:∀ i,i≤n + 2→V i=V' i):SMm n g W' V' U' R O w0 w:=by
  refine ⟨h.o,h.lo,h.wt.ext (fun i hi=>hW i (by omega)),?_,h.fam.ext (fun i hi=>hV i (by omega)) (fun i hi=>?_)⟩
  · have e:(List.range (n + 1)).map V'=(List.range (n + 1)).map V:=List.map_congr_left fun i hi=>by rw [hV i (by have:=List.mem_range.1 hi;omega)]
    rw [e];exact h.us
  · by_cases e:i≤n
    · rw [CC_u e,CC_u e,hU i e]
    · unfold CC;rw [if_neg e,if_neg e]
theorem SMm.move (h:SMm n g W V U R O w0 w) {i:Nat} {S:List Nat} (ho:Oth S w w1) (hS:∀ k,k∈S→(V i).ownBlock=some k) (hi:i < n + 3) {V':Nat→Value} {U':Nat→List Int} {R' O':List Int}
    (hf:Fam (g + 2) (n + 3) V' (CC n U' R' O') w1) (hV:∀ k,k≤n→V' k=V k):SMm n g W V' U' R' O' w0 w1:=by
  have hb:∀ k,k∈S→g + 2≤k:=fun k hk=>h.fam.new i hi k (hS k hk)
  refine ⟨h.o.trans ho (fun k hk=>.inr (by have:=hb k hk;have:=h.lo;omega)),h.lo,h.wt.oth ho (fun e=>by have:=hb _ e;omega),?_,hf⟩
  have e:(List.range (n + 1)).map V'=(List.range (n + 1)).map V:=List.map_congr_left fun i hi=>by rw [hV i (by have:=List.mem_range.1 hi;omega)]
  rw [e]
  exact h.us.oth ho (fun e=>by have:=hb _ e;omega)
theorem SMm.ready (h:SMm n g W V U R O w0 w) {v':Value} {R':List Int} (hown:w1.ownsRow 0 3 1 v' R'.length (ivl R')) (hg:w.grownBy w1 (V (n + 1)).ownBlock) (hat:v'.ownBlock=(V (n + 1)).ownBlock∨v'.ownBlock=some w.heap.size) :
    SMm n g W (fun j=>if j=n + 1 then v' else V j) U R' O w0 w1:=by
  have hf:=h.fam.app (i:=n + 1) (c':=R') (by omega) hown hg hat (by have:=h.hi;omega)
  have hf2:=hf.ext (V':=fun j=>if j=n + 1 then v' else V j) (C':=CC n U R' O) (fun _ _=>rfl) (fun i hi=>by
    by_cases e:i=n + 1
    · subst e;rw [if_pos rfl,CC_r]
    · rw [if_neg e];unfold CC;rw [if_neg e,if_neg e])
  cases hq:(V (n + 1)).ownBlock with
  | none=>exact h.move (i:=n + 1) (S:=[]) ((Oth.refl _ _).grown hg (fun k hk=>by rw [hq] at hk;cases hk)) (fun k hk=>by simp at hk) (by omega) hf2 (fun k hk=>if_neg (by omega))
  | some b=>exact h.move (i:=n + 1) (S:=[b]) ((Oth.refl _ _).grown hg (fun k hk=>by rw [hq] at hk;cases hk;exact .inl (by simp))) (fun k hk=>by simp at hk;subst hk;exact hq) (by omega) hf2 (fun k hk=>if_neg (by omega))
theorem SMm.readyPut (h:SMm n g W V U R O w0 w) {b g' m c:Nat} {R':List Int} (hV:(V (n + 1)).ownBlock=some b) (ho:Oth [b] w w1) (hm:m=R'.length) (hrow:Row 3 1 g' m c (ivl R') w1) (hat:g'=b∨w.heap.size≤g') :
    SMm n g W (fun j=>if j=n + 1 then .slice (some ⟨g',0,none⟩) m c else V j) U R' O w0 w1:=by
  have hf:=h.fam.put (i:=n + 1) (by omega) hV ho hm hrow hat (by have:=h.hi;omega)
  refine h.move (i:=n + 1) (S:=[b]) ho (fun k hk=>by simp at hk;subst hk;exact hV) (by omega) (hf.ext (fun _ _=>rfl) (fun i hi=>?_)) (fun k hk=>if_neg (by omega))
  by_cases e:i=n + 1
  · subst e;rw [if_pos rfl,CC_r]
  · rw [if_neg e];unfold CC;rw [if_neg e,if_neg e]
theorem SMm.orderPut (h:SMm n g W V U R O w0 w) {b m c:Nat} {O':List Int} (hV:(V (n + 2)).ownBlock=some b) (ho:Oth [b] w w1) (hm:m=O'.length) (hrow:Row 3 1 b m c (ivl O') w1) :
    SMm n g W (fun j=>if j=n + 2 then .slice (some ⟨b,0,none⟩) m c else V j) U R O' w0 w1:=by
  have hf:=h.fam.put (i:=n + 2) (by omega) hV ho hm hrow (.inl rfl) (by have:=h.hi;omega)
  refine h.move (i:=n + 2) (S:=[b]) ho (fun k hk=>by simp at hk;subst hk;exact hV) (by omega) (hf.ext (fun _ _=>rfl) (fun i hi=>?_)) (fun k hk=>if_neg (by omega))
  by_cases e:i=n + 2
  · subst e;rw [if_pos rfl,CC_o]
  · rw [if_neg e]
    unfold CC
    by_cases e1:i≤n
    · rw [if_pos e1,if_pos e1]
    · rw [if_neg e1,if_neg e1,if_pos (by omega),if_pos (by omega)]
theorem SMm.user (h:SMm n g W V U R O w0 w) {i:Nat} {v':Value} {c':List Int} (hi:i≤n) (hown:w1.ownsRow 0 3 1 v' c'.length (ivl c')) (hg:w.grownBy w1 (V i).ownBlock) (hat:v'.ownBlock=(V i).ownBlock∨v'.ownBlock=some w.heap.size) :
    SMm n g W (fun j=>if j=i then v' else V j) (fun j=>if j=i then c' else U j) R O w0 (w1.setCell ⟨g + 1,i,none⟩ v'):=by
  have hf:=h.fam.app (i:=i) (c':=c') (by omega) hown hg hat (by have:=h.hi;omega)
  have hb:∀ k,(V i).ownBlock=some k→g + 2≤k:=h.fam.new i (by omega)
  have ho:∃ S,Oth S w w1∧∀ k,k∈S→g + 2≤k:=by
    cases hq:(V i).ownBlock with
    | none=>exact ⟨[],(Oth.refl _ _).grown hg (fun k hk=>by rw [hq] at hk;cases hk),fun k hk=>by simp at hk⟩
    | some b=>exact ⟨[b],(Oth.refl _ _).grown hg (fun k hk=>by rw [hq] at hk;cases hk;exact .inl (by simp)),fun k hk=>by simp at hk;subst hk;exact hb _ hq⟩
  obtain ⟨S,ho,hS⟩:=ho
  have hs:Oth [g + 1] w1 (w1.setCell ⟨g + 1,i,none⟩ v'):=(Oth.refl _ _).setCell (.inl (by simp)) _
  refine ⟨(h.o.trans ho (fun k hk=>.inr (by have:=hS k hk;have:=h.lo;omega))).setCell (.inr (by have:=h.lo;show w0.heap.size≤g + 1;omega)) _,h.lo,(h.wt.oth ho (fun e=>by have:=hS _ e;omega)).oth hs (by simp),?_,?_⟩
  · exact rowV_set (h.us.oth ho (fun e=>by have:=hS _ e;omega)) i v'
  · refine (hf.oth hs (fun k hk b hb2 e=>?_)).ext (fun _ _=>rfl) (fun k hk=>?_)
    · have:=hf.new k hk b hb2
      simp at e;omega
    · by_cases e:k=i
      · subst e;rw [if_pos rfl,CC_u hi,if_pos rfl]
      · rw [if_neg e]
        by_cases e2:k≤n
        · rw [CC_u e2,CC_u e2,if_neg e]
        · unfold CC;rw [if_neg e2,if_neg e2]
theorem SMm.orderNew (h:SMm n g W V U R [] w0 w) {c:Nat} (hc:c≤maxLen) :
    SMm n g W (fun j=>if j=n + 2 then .slice (some ⟨w.heap.size,0,none⟩) 0 c else V j) U R [] w0 (w.alloc (.cells (madeCells #[.int .i64 0] c) 3)):=by
  have hw:(w.alloc (.cells (madeCells #[.int .i64 0] c) 3)).ownsRow 0 3 1 (.slice (some ⟨w.heap.size,0,none⟩) 0 c) 0 (ivl []):=
    ⟨rfl,.inr ⟨w.heap.size,c,_,rfl,Nat.zero_le _,heap_alloc_new _ _,Nat.zero_le _,hc,by rw [← Array.length_toList,toList_madeCells_one];simp,by simp [ivl]⟩⟩
  have hf:=h.fam.turn (i:=n + 2) (v':=.slice (some ⟨w.heap.size,0,none⟩) 0 c) (c':=[]) (w1:=w.alloc (.cells (madeCells #[.int .i64 0] c) 3)) (by omega) (fun j hj _=>(h.fam.own j hj).alloc _) hw (.inr ⟨_,rfl,Nat.le_refl _⟩) (by have:=h.hi;omega)
  refine h.move (i:=n + 2) (S:=[]) ((Oth.refl _ _).alloc _) (fun k hk=>by simp at hk) (by omega) (hf.ext (fun _ _=>rfl) (fun i hi=>?_)) (fun k hk=>if_neg (by omega))
  by_cases e:i=n + 2
  · subst e;rw [if_pos rfl,CC_o]
  · rw [if_neg e]
end
theorem own_slice {w:World} {B:Nat} {e:TypeId} {z n:Nat} {v:Value} {xs:List Value} (h:w.ownsRow B e z v n xs):∃ b c,v = .slice b n c:=by
  obtain ⟨-,⟨rfl,rfl⟩ | ⟨b,c,cells,rfl,-⟩⟩:=h
  · exact ⟨_,_,rfl⟩
  · exact ⟨_,_,rfl⟩
theorem own_row {w:World} {B:Nat} {e:TypeId} {z n g c:Nat} {xs:List Value} (h:w.ownsRow B e z (.slice (some ⟨g,0,none⟩) n c) n xs):Row e z g n c xs w:=by
  obtain ⟨hl,⟨h1,-⟩ | ⟨b,c',cur,h1,hg,hcur,hcap,hmx,hsc,htk⟩⟩:=h
  · cases h1
  · simp only [Value.slice.injEq,Option.some.injEq,Addr.mk.injEq] at h1
    obtain ⟨⟨rfl,-⟩,-,rfl⟩:=h1
    exact ⟨cur,hcur,hcap,hmx,hsc,hl,fun j hj=>by rw [← htk,List.getElem?_take,if_pos hj,Array.getElem?_toList]⟩
theorem NetD.R.base {D:NetD} {w:World} (h:D.R w) (hn:1≤D.n):∃ gN oN,D.b=some ⟨gN,oN,none⟩∧∀ k d,D.L[k]?=some d→(∀ j v,d.cells[j]?=some v→w.cell? ⟨gN,oN + k * 10 + j,none⟩=some v)∧d.R w:=by
  have h0:D.L[0]?=some (D.L[0]'(by rw [← h.len];omega)):=List.getElem?_eq_getElem _
  obtain ⟨g,off,h1,-,-⟩:=h.at_ _ _ h0
  refine ⟨g,off,h1,fun k d hk=>?_⟩
  obtain ⟨g',off',h2,h3,h4⟩:=h.at_ k d hk
  rw [h1] at h2
  simp only [Option.some.injEq,Addr.mk.injEq] at h2
  obtain ⟨rfl,rfl,-⟩:=h2
  exact ⟨h3,h4⟩
end Go.Proofs.YtnpdcjdmbkcpbaaGreat.Ins
namespace Go.Proofs.YtnpdcjdmbkcpbaaGreat.Ins
open Go.RowKit
def NetD.I (D:NetD):List (List Int):=D.L.map ND.ins
def NetD.ord (D:NetD):List Int:=sortF D.I D.n
def layF (D:NetD) (O:List Int):Nat→Option (Nat→List Int)
  | 0=>some fun i=>if i=0 then D.i.l else []
  | m + 1=>match layF D O m with
    | none=>none
    | some f=>match D.L[(O.getD m 0).toNat - 1]? with
      | none=>none
      | some d=>match d.op.shape (d.P.map Sh.l) (d.ins.map fun x=>f x.toNat) with
        | none=>none
        | some s=>some fun i=>if i=(O.getD m 0).toNat then s else f i
def usedB (I:List (List Int)) (i:Nat):Bool:=I.any fun l=>l.contains (i:Int)
def lossF (I:List (List Int)):Nat→Nat × Nat
  | 0=>(0,0)
  | m + 1=>if usedB I m=true then lossF I m else (m,(lossF I m).2 + 1)
def insB (n:Nat) (l:List Int):Bool:=l.all fun x=>decide (0≤x) && decide (x≤(n:Int))
def ND.ok (n:Nat) (d:ND):Bool:=d.op.right && insB n d.ins
def NetD.look (D:NetD):Option (List Int × (Nat→List Int) × Nat):=
  if (1≤D.n∧D.n≤512)∧shB D.i.l=true∧D.L.all (ND.ok D.n)=true∧D.ord.length=D.n then
    match layF D D.ord D.n with
    | none=>none
    | some f=>if (lossF D.I (D.n + 1)).2=1∧(lossF D.I (D.n + 1)).1≠0∧shB (f (lossF D.I (D.n + 1)).1)=true∧prd (f (lossF D.I (D.n + 1)).1)=1 then some (D.ord,f,(lossF D.I (D.n + 1)).1) else none
  else none
def bef (O:List Int) (m:Nat):Int:=if m=0 then 0 else O.getD (m - 1) 0
def chainB (D:NetD) (O:List Int):Nat→Bool
  | 0=>true
  | m + 1=>chainB D O m && (match D.L[(O.getD m 0).toNat - 1]? with
    | some d=>decide (d.ins=[bef O m])
    | none=>false)
theorem chainB_at {D:NetD} {O:List Int}:∀ {m:Nat},chainB D O m=true→∀ p,p < m→∃ d,D.L[(O.getD p 0).toNat - 1]?=some d∧d.ins=[bef O p]
  | 0,_,p,h=>by omega
  | m + 1,h,p,hp=>by
    rw [chainB,Bool.and_eq_true] at h
    by_cases e:p=m
    · subst e
      have h2:=h.2
      revert h2
      cases D.L[(O.getD p 0).toNat - 1]? with
      | none=>intro h2;cases h2
      | some d=>intro h2;exact ⟨d,rfl,of_decide_eq_true h2⟩
    · exact chainB_at h.1 p (by omega)
theorem nodup_le:∀ (n:Nat) (l:List Nat),l.Nodup→(∀ x∈l,x < n)→l.length≤n
  | 0,l,_,h=>by
    cases l with
    | nil=>simp
    | cons a t=>have:=h a (by simp);omega
  | n + 1,l,hn,h=>by
    by_cases hm:n∈l
    · have h1:=nodup_le n (l.erase n) (hn.erase n) (fun x hx=>by
        have:=(hn.mem_erase_iff).1 hx
        have:=h x this.2
        omega)
      rw [List.length_erase_of_mem hm] at h1
      omega
    · have h1:=nodup_le n l hn (fun x hx=>by
        have:=h x hx
        have:x≠n:=fun e=>hm (e ▸ hx)
        omega)
      omega
theorem bef_pos {O:List Int} {n p:Nat} (hm:∀ x∈O,1≤x∧x≤(n:Int)) (hl:O.length=n) (h0:p≠0) (hp:p≤n):1≤bef O p∧bef O p≤n:=by
  rw [bef,if_neg h0]
  have h1:O[p - 1]?=some (O.getD (p - 1) 0):=getD_some (by omega)
  exact hm _ (List.mem_of_getElem? h1)
theorem ord_at {O:List Int} {n p:Nat} (hm:∀ x∈O,1≤x∧x≤(n:Int)) (hl:O.length=n) (hp:p < n):1≤O.getD p 0∧O.getD p 0≤n:=
  hm _ (List.mem_of_getElem? (getD_some (by omega)))
theorem chain_inj {D:NetD} {O:List Int} (hm:∀ x∈O,1≤x∧x≤(D.n:Int)) (hl:O.length=D.n) (h:chainB D O D.n=true) :
    ∀ i j,i < j→j < D.n→O.getD i 0≠O.getD j 0
  | 0,j,h1,h2,e=>by
    obtain ⟨d,k1,k2⟩:=chainB_at h 0 (by omega)
    obtain ⟨d',k3,k4⟩:=chainB_at h j h2
    rw [e] at k1
    rw [k1] at k3
    cases k3
    rw [k2] at k4
    have:=bef_pos hm hl (p:=j) (by omega) (by omega)
    have h9:bef O 0=0:=rfl
    simp at k4
    omega
  | i + 1,j,h1,h2,e=>by
    obtain ⟨d,k1,k2⟩:=chainB_at h (i + 1) (by omega)
    obtain ⟨d',k3,k4⟩:=chainB_at h j h2
    rw [e] at k1
    rw [k1] at k3
    cases k3
    rw [k2] at k4
    simp at k4
    rw [bef,if_neg (by omega),bef,if_neg (by omega),Nat.add_sub_cancel] at k4
    exact chain_inj hm hl h i (j - 1) (by omega) (by omega) k4
def oF (O:List Int) (p:Nat):Nat:=if p=0 then 0 else (O.getD (p - 1) 0).toNat
def pF (O:List Int) (i:Nat):Nat:=if i=0 then 0 else O.findIdx (fun x=>decide (x=(i:Int))) + 1
theorem oF_succ (O:List Int) (p:Nat):oF O (p + 1)=(O.getD p 0).toNat:=by rw [oF,if_neg (by omega),Nat.add_sub_cancel]
theorem oF_bef {O:List Int} {n:Nat} (hm:∀ x∈O,1≤x∧x≤(n:Int)) (hl:O.length=n) {p:Nat} (hp:p≤n):bef O p=(oF O p:Int):=by
  by_cases e:p=0
  · subst e;rfl
  · have:=bef_pos hm hl e hp
    rw [bef,if_neg e] at this ⊢
    rw [oF,if_neg e]
    omega
theorem perm_of {O:List Int} {n:Nat} (hm:∀ x∈O,1≤x∧x≤(n:Int)) (hl:O.length=n) (hi:∀ i j,i < j→j < n→O.getD i 0≠O.getD j 0):Perm n (oF O) (pF O):=by
  have hinj:∀ i j,i < n→j < n→O.getD i 0=O.getD j 0→i=j:=fun i j h1 h2 e=>by
    rcases Nat.lt_trichotomy i j with h | h | h
    · exact absurd e (hi i j h h2)
    · exact h
    · exact absurd e.symm (hi j i h h1)
  have hsur:∀ i,1≤i→i≤n→(i:Int)∈O:=fun i h1 h2=>by
    apply Classical.byContradiction
    intro hno
    have hnd:((i - 1) :: O.map fun x=>x.toNat - 1).Nodup:=by
      rw [List.nodup_cons]
      refine ⟨fun hx=>?_,?_⟩
      · obtain ⟨x,hx1,hx2⟩:=List.mem_map.1 hx
        have:=hm x hx1
        exact hno (by rw [show (i:Int)=x by omega];exact hx1)
      · rw [List.nodup_iff_pairwise_ne,List.pairwise_iff_getElem]
        intro a b ha hb hab e
        simp only [List.length_map] at ha hb
        simp only [List.getElem_map] at e
        have m1:=hm _ (List.getElem_mem ha)
        have m2:=hm _ (List.getElem_mem hb)
        have e1:O.getD a 0=O[a]:=by rw [List.getD_eq_getElem?_getD,List.getElem?_eq_getElem ha];rfl
        have e2:O.getD b 0=O[b]:=by rw [List.getD_eq_getElem?_getD,List.getElem?_eq_getElem hb];rfl
        exact hi a b hab (by omega) (by rw [e1,e2];omega)
    have h9:=nodup_le n _ hnd (fun x hx=>by
      rcases List.mem_cons.1 hx with e | hx
      · omega
      · obtain ⟨y,hy1,rfl⟩:=List.mem_map.1 hx
        have:=hm y hy1
        omega)
    simp at h9
    omega
  have hfi:∀ i,1≤i→i≤n→O.findIdx (fun x=>decide (x=(i:Int))) < n∧O.getD (O.findIdx (fun x=>decide (x=(i:Int)))) 0=(i:Int):=fun i h1 h2=>by
    have h3:O.findIdx (fun x=>decide (x=(i:Int))) < O.length:=List.findIdx_lt_length_of_exists ⟨_,hsur i h1 h2,by simp⟩
    have h4:=List.findIdx_getElem (w:=h3)
    refine ⟨by omega,?_⟩
    rw [List.getD_eq_getElem?_getD,List.getElem?_eq_getElem h3]
    exact of_decide_eq_true h4
  refine ⟨rfl,rfl,fun p hp=>?_,fun i h2=>?_⟩
  · by_cases e:p=0
    · subst e;exact ⟨Nat.zero_le _,rfl⟩
    · have h1:=ord_at hm hl (p:=p - 1) (by omega)
      rw [oF,if_neg e]
      refine ⟨by omega,?_⟩
      rw [pF,if_neg (by omega)]
      have h3:=hfi (O.getD (p - 1) 0).toNat (by omega) (by omega)
      have h4:=hinj _ (p - 1) h3.1 (by omega) (by rw [h3.2];omega)
      rw [h4];omega
  · by_cases e:i=0
    · subst e;exact ⟨Nat.zero_le _,rfl⟩
    · have h3:=hfi i (by omega) h2
      rw [pF,if_neg e]
      exact ⟨by omega,by rw [oF_succ,h3.2];omega⟩
theorem chn_of {D:NetD} {O:List Int} (hm:∀ x∈O,1≤x∧x≤(D.n:Int)) (hl:O.length=D.n) (hn:1≤D.n∧D.n≤64) (h:chainB D O D.n=true):Chn D (oF O) (pF O):=by
  refine ⟨perm_of hm hl (chain_inj hm hl h),hn,fun p hp=>?_⟩
  obtain ⟨d,h1,h2⟩:=chainB_at h p hp
  exact ⟨d,by rw [oF_succ];exact h1,by rw [h2,oF_bef hm hl (by omega)]⟩
theorem lossF_only {I:List (List Int)} {a:Nat}:∀ m,(∀ i,i < m→(usedB I i=true ↔ i≠a))→a < m→(lossF I m).1=a
  | 0,_,h=>by omega
  | m + 1,h,ha=>by
    rw [lossF]
    by_cases e:m=a
    · subst e
      rw [if_neg (fun h2=>(h m (by omega)).1 h2 rfl)]
    · rw [if_pos ((h m (by omega)).2 e)]
      exact lossF_only m (fun i hi=>h i (by omega)) (by omega)
theorem chain_loss {D:NetD} {o π:Nat→Nat} (hc:Chn D o π) (hl:D.n=D.L.length):(lossF D.I (D.n + 1)).1=o D.n:=by
  have hn:=hc.n1
  have hP:=hc.pm
  refine lossF_only _ (fun i hi=>?_) (by have:=(hP.op D.n (by omega)).1;omega)
  have hpi:=hP.po i (by omega)
  have hnode:∀ k d,D.L[k]?=some d→d.ins=[(o (π (k + 1) - 1):Int)]:=fun k d hk=>by
    have hk2:k < D.n:=by rw [hl];exact (List.getElem?_eq_some_iff.1 hk).1
    have h1:=hP.po (k + 1) (by omega)
    have h2:=hP.ppos (p:=k + 1) (by omega) (by omega)
    obtain ⟨d',k1,k2⟩:=hc.ins (π (k + 1) - 1) (by omega)
    rw [show π (k + 1) - 1 + 1=π (k + 1) by omega,h1.2,show k + 1 - 1=k by omega,hk] at k1
    cases k1
    exact k2
  constructor
  · intro h e
    subst e
    simp only [usedB,NetD.I,List.any_map,List.any_eq_true,Function.comp] at h
    obtain ⟨d,hd,h2⟩:=h
    obtain ⟨k,hk⟩:=List.mem_iff_getElem?.1 hd
    have hk2:k < D.n:=by rw [hl];exact (List.getElem?_eq_some_iff.1 hk).1
    have h3:=hnode k d hk
    rw [h3] at h2
    simp at h2
    have h4:=hP.op (π (k + 1) - 1) (by have:=hP.po (k + 1) (by omega);omega)
    have h5:=hP.op D.n (by omega)
    have h6:o D.n=o (π (k + 1) - 1):=by omega
    have h7:=hP.po (k + 1) (by omega)
    have h8:D.n=π (k + 1) - 1:=by rw [← h4.2,← h6,h5.2]
    omega
  · intro e
    have h1:π i < D.n:=by
      rcases Nat.lt_or_ge (π i) D.n with h | h
      · exact h
      · exact absurd (by rw [← hpi.2];congr 1;omega) e
    obtain ⟨d,k1,k2⟩:=hc.ins (π i) h1
    simp only [usedB,NetD.I,List.any_map,List.any_eq_true,Function.comp]
    exact ⟨d,List.mem_of_getElem? k1,by rw [k2,hpi.2];simp⟩
theorem layF_keep {D:NetD} {O:List Int} {a:Nat}:∀ {m q:Nat} {f fq:Nat→List Int},layF D O m=some f→layF D O q=some fq→q≤m→(∀ p,q≤p→p < m→(O.getD p 0).toNat≠a)→f a=fq a
  | 0,q,f,fq,h,hq,hqm,hne=>by
    obtain rfl:q=0:=by omega
    rw [h] at hq;cases hq;rfl
  | m + 1,q,f,fq,h,hq,hqm,hne=>by
    by_cases e:q=m + 1
    · subst e;rw [h] at hq;cases hq;rfl
    · rw [layF] at h
      cases h1:layF D O m with
      | none=>rw [h1] at h;cases h
      | some g=>
        rw [h1] at h
        cases h2:D.L[(O.getD m 0).toNat - 1]? with
        | none=>rw [h2] at h;cases h
        | some d=>
          rw [h2] at h
          simp only at h
          cases h3:d.op.shape (d.P.map Sh.l) (d.ins.map fun x=>g x.toNat) with
          | none=>rw [h3] at h;cases h
          | some s=>
            rw [h3] at h
            cases h
            simp only
            rw [if_neg (fun e2=>hne m (by omega) (by omega) e2.symm)]
            exact layF_keep h1 hq (by omega) (fun p h5 h6=>hne p h5 (by omega))
theorem layF_at {D:NetD} {O:List Int}:∀ {m:Nat} {f:Nat→List Int},layF D O m=some f→∀ q,q < m→∃ fq d,layF D O q=some fq∧D.L[(O.getD q 0).toNat - 1]?=some d∧∃ s,d.op.shape (d.P.map Sh.l) (d.ins.map fun x=>fq x.toNat)=some s∧layF D O (q + 1)=some fun i=>if i=(O.getD q 0).toNat then s else fq i
  | 0,_,_,q,hq=>by omega
  | m + 1,f,h,q,hq=>by
    have h0:=h
    rw [layF] at h
    cases h1:layF D O m with
    | none=>rw [h1] at h;cases h
    | some g=>
      rw [h1] at h
      cases h2:D.L[(O.getD m 0).toNat - 1]? with
      | none=>rw [h2] at h;cases h
      | some d=>
        rw [h2] at h
        simp only at h
        cases h3:d.op.shape (d.P.map Sh.l) (d.ins.map fun x=>g x.toNat) with
        | none=>rw [h3] at h;cases h
        | some s=>
          rw [h3] at h
          cases h
          by_cases e:q=m
          · subst e
            exact ⟨g,d,h1,h2,s,h3,h0⟩
          · exact layF_at h1 q (by omega)
theorem chain_shape {D:NetD} {O:List Int} {f:Nat→List Int} (hm:∀ x∈O,1≤x∧x≤(D.n:Int)) (hl:O.length=D.n) (hn:1≤D.n∧D.n≤64) (h:chainB D O D.n=true) (hf:layF D O D.n=some f) :
    f 0=D.i.l∧∀ p,p < D.n→∃ d,D.L[oF O (p + 1) - 1]?=some d∧d.ins=[(oF O p:Int)]∧d.op.shape (d.P.map Sh.l) [f (oF O p)]=some (f (oF O (p + 1))):=by
  have hP:=perm_of hm hl (chain_inj hm hl h)
  have h0:layF D O 0=some fun i=>if i=0 then D.i.l else []:=rfl
  refine ⟨?_,fun p hp=>?_⟩
  · rw [layF_keep hf h0 (by omega) (fun p h1 h2=>by have:=ord_at hm hl h2;omega)]
    rfl
  · obtain ⟨fq,d,k1,k2,s,k3,k4⟩:=layF_at hf p hp
    obtain ⟨d',j1,j2⟩:=chainB_at h p hp
    rw [k2] at j1
    cases j1
    rw [oF_bef hm hl (by omega)] at j2
    refine ⟨d,by rw [oF_succ];exact k2,j2,?_⟩
    rw [j2] at k3
    have e1:f (oF O p)=fq (oF O p):=layF_keep hf k1 (by omega) (fun q h1 h2 e=>by
      rw [← oF_succ] at e
      have a1:=hP.op (q + 1) (by omega)
      have a2:=hP.op p (by omega)
      rw [e,a2.2] at a1
      omega)
    have e2:f (oF O (p + 1))=s:=by
      rw [layF_keep hf k4 (by omega) (fun q h1 h2 e=>by
        rw [← oF_succ] at e
        have a1:=hP.op (q + 1) (by omega)
        have a2:=hP.op (p + 1) (by omega)
        rw [e,a2.2] at a1
        omega)]
      rw [oF_succ,if_pos rfl]
    rw [e1,e2]
    simpa using k3
theorem srt_mem {n c:Nat} {U:Nat→List Int} (hU:∀ k,(U k).length≤c∧∀ x∈U k,1≤x∧x≤(n:Int)):∀ (f:Nat) {B:Int} {R:List Int} {W:Nat→Int} {O:List Int},MI n B R W O→∀ x∈srt U f R W O,1≤x∧x≤(n:Int)
  | 0,B,R,W,O,h=>by rw [srt];exact h.om
  | f + 1,B,[],W,O,h=>by rw [srt];exact h.om
  | f + 1,B,y :: R,W,O,h=>by
    rw [srt]
    exact srt_mem hU f (MI.fold (U y.toNat) (s:=(R,W)) (hU _).2 h.pop)
theorem mi_start {I:List (List Int)} {n b:Nat} (hI:∀ l∈I,l.length≤b) (hb:b * n≤1000000):MI n 0 (rdy0 (P1 I n).1 n) (P1 I n).1 []:=by
  have hp:=PI.all hI n (Nat.le_refl _)
  refine ⟨rdy0_sorted _ _,rdy0_mem _ _,?_,fun k=>?_,fun x hx=>by cases hx⟩
  · simpa using rdy0_len (fun k=>(hp.w k).1) n
  · have:=hp.w k
    have h2:((b * n:Nat):Int)≤1000000:=by omega
    exact ⟨by omega,by omega⟩
theorem sortF_mem {I:List (List Int)} {n b:Nat} (hI:∀ l∈I,l.length≤b) (hb:b * n≤1000000):∀ x∈sortF I n,1≤x∧x≤(n:Int):=
  srt_mem (PI.all hI n (Nat.le_refl _)).u (n + 1) (mi_start hI hb)
end Go.Proofs.YtnpdcjdmbkcpbaaGreat.Ins
namespace Go.Proofs.YtnpdcjdmbkcpbaaGreat.Ins
open Go.RowKit
def slen:Value→Nat
  | .slice _ n _=>n
  | _=>0
theorem fold_step {m:Nat} {ins:List Int} {s:StU} {j:Nat} {x:Int} (h:ins[j]?=some x):(ins.take (j + 1)).foldl (add1 m) s=add1 m ((ins.take j).foldl (add1 m) s) x:=by
  rw [List.take_add_one,h,List.foldl_append];rfl
theorem rel_step {l:List Int} {s:List Int × (Nat→Int)} {j:Nat} {x:Int} (h:l[j]?=some x):(l.take (j + 1)).foldl rel1 s=rel1 ((l.take j).foldl rel1 s) x:=by
  rw [List.take_add_one,h,List.foldl_append];rfl
theorem SMm.userRow {n g:Nat} {W:Nat→Int} {V:Nat→Value} {U:Nat→List Int} {R O:List Int} {w0 w w1:World} {i:Nat} (h:SMm n g W V U R O w0 w) (hi:i≤n + 2) (hg:w.grownBy w1 (V i).ownBlock) :
    Row 22 1 (g + 1) (n + 1) (n + 1) ((List.range (n + 1)).map V) w1∧Oth [] w0 w1:=by
  have hb:∀ k,(V i).ownBlock=some k→g + 2≤k:=h.fam.new i (by omega)
  have ho:∃ S,Oth S w w1∧∀ k,k∈S→g + 2≤k:=by
    cases hq:(V i).ownBlock with
    | none=>exact ⟨[],(Oth.refl _ _).grown hg (fun k hk=>by rw [hq] at hk;cases hk),fun k hk=>by simp at hk⟩
    | some b=>exact ⟨[b],(Oth.refl _ _).grown hg (fun k hk=>by rw [hq] at hk;cases hk;exact .inl (by simp)),fun k hk=>by simp at hk;subst hk;exact hb _ hq⟩
  obtain ⟨S,ho,hS⟩:=ho
  exact ⟨h.us.oth ho (fun e=>by have:=hS _ e;omega),h.o.trans ho (fun k hk=>.inr (by have:=hS k hk;have:=h.lo;omega))⟩
theorem ivl_snoc (l:List Int) (x:Int):ivl (l ++ [x])=ivl l ++ [.int .i64 x]:=by simp [ivl]
section
variable {D:NetD} {w:World}
def SrtR (D:NetD) (w:World) (e:Ending) (w':World):Prop:=∃ g,e = .returned (.slice (some ⟨g,0,none⟩) D.ord.length D.n)∧Row 3 1 g D.ord.length D.n (ivl D.ord) w'∧w.heap.size≤g
set_option maxRecDepth 100000 in
set_option maxHeartbeats 8000000 in
theorem sorted_any (hr:D.R w) (hn:1≤D.n∧D.n≤64) (hd:∀ d∈D.L,d.ins.length≤300∧∀ x∈d.ins,0≤x∧x≤(D.n:Int)) :
    Calls Tryz.prog 56 #[D.val] w fun e w'=>SrtR D w e w'∧Oth [] w w':=by
  obtain ⟨gN,oN,hb,hnd⟩:=hr.base hn.1
  have HD:=Lib.hid hd
  have HLEN:=Lib.hid hr.len
  have HND:Hid (∀ w',Oth [] w w'→∀ k d,D.L[k]?=some d→(∀ j v,d.cells[j]?=some v→w'.cell? ⟨gN,oN + k * 10 + j,none⟩=some v)∧d.R w'):=fun w' ho k d hk=>⟨fun j v hj=>ho.cell ((hnd k d hk).1 j v hj) (by simp),(hnd k d hk).2.oth ho⟩
  have hval:D.val = .agg #[.slice D.i.b D.i.n D.i.c,.slice (some ⟨gN,oN,none⟩) D.n D.c]:=by unfold NetD.val;rw [hb];rfl
  have HBX:Hid (∀ w',Oth [] (w.alloc (.cells #[.slice D.i.b D.i.n D.i.c,.slice (some ⟨gN,oN,none⟩) D.n D.c] 26)) w'→Oth [] w w'∧w'.cell? ⟨w.heap.size,0,none⟩=some (.slice D.i.b D.i.n D.i.c)∧w'.cell? ⟨w.heap.size,1,none⟩=some (.slice (some ⟨gN,oN,none⟩) D.n D.c)):=fun w' ho=>net_box ho
  obtain ⟨i0,hi,hz0,hz1,hz2⟩:=info_parts' info3q
  have e1:IntKind.i64.wrap ((D.n:Int) + 1)=(D.n:Int) + 1:=IntWalk.i64_in _ (by omega)
  have hm0:∀ w',_:=fun w'=>run_make_row' (P:=Tryz.prog) 22 3 (.int .i64 0) 8 Tryz.underlying22 info3 rfl .i64 .i64 (D.n + 1) (by omega) (by omega) w'
  have hm1:∀ w',_:=fun w'=>run_make_row' (P:=Tryz.prog) 121 22 (.slice none 0 0) 24 Tryz.underlying121 info22s rfl .i64 .i64 (D.n + 1) (by omega) (by omega) w'
  simp only [Int.natCast_add,Int.natCast_one] at hm0 hm1
  have HI:Hid (∀ l∈D.I,l.length≤300):=fun l hl=>by
    obtain ⟨d,hd1,rfl⟩:=List.mem_map.1 hl
    exact (hd d hd1).1
  rw [hval]
  obtain ⟨W1,hW1⟩:∃ W1,W1=w.alloc (.cells #[.slice D.i.b D.i.n D.i.c,.slice (some ⟨gN,oN,none⟩) D.n D.c] 26):=⟨_,rfl⟩
  have HW1:=Lib.hid hW1
  have hsz1:W1.heap.size=w.heap.size + 1:=by rw [hW1,World.size_alloc]
  have HBW:Hid (∀ w',Oth [] W1 w'→Oth [] w w'∧w'.cell? ⟨w.heap.size,1,none⟩=some (.slice (some ⟨gN,oN,none⟩) D.n D.c)∧w.heap.size < w'.heap.size):=fun w' ho=>by
    rw [HW1.out] at ho
    have h:=HBX.out w' ho
    exact ⟨h.1,h.2.2,World.block_lt_of_cell? _ _ h.2.2⟩
  have HS0:Hid (SMm D.n (w.heap.size + 1) (fun _=>0) (fun _=>.slice none 0 0) (fun _=>[]) [] [] W1 ((W1.alloc (.cells (madeCells #[.int .i64 0] (D.n + 1)) 3)).alloc (.cells (madeCells #[.slice none 0 0] (D.n + 1)) 22))):=by
    rw [← hsz1]
    refine ⟨((Oth.refl _ _).alloc _).alloc _,Nat.le_refl _,(nms_zero (heap_alloc_new _ _) (by unfold maxLen;omega)).oth ((Oth.refl [] _).alloc _) (by simp),?_,⟨fun i _=>⟨?_,.inl ⟨rfl,?_⟩⟩,fun i _ k hk=>(by cases hk),fun i j _ _ _ k hk=>(by cases hk)⟩⟩
    · have h2:=row_of_list (n:=D.n + 1) (xs:=List.replicate (D.n + 1) (Value.slice none 0 0)) (e:=22) (g:=W1.heap.size + 1) (w:=(W1.alloc (.cells (madeCells #[.int .i64 0] (D.n + 1)) 3)).alloc (.cells (madeCells #[.slice none 0 0] (D.n + 1)) 22)) (by
        rw [← toList_madeCells_one]
        have:=heap_alloc_new (W1.alloc (.cells (madeCells #[.int .i64 0] (D.n + 1)) 3)) (.cells (madeCells #[.slice none 0 0] (D.n + 1)) 22)
        rw [World.size_alloc] at this
        exact this) (by simp) (by unfold maxLen;omega)
      have e:(List.range (D.n + 1)).map (fun _=>Value.slice none 0 0)=List.replicate (D.n + 1) (.slice none 0 0):=by
        rw [List.eq_replicate_iff]
        exact ⟨by simp,fun b hb=>by obtain ⟨i,-,rfl⟩:=List.mem_map.1 hb;rfl⟩
      rw [e];exact h2
    · unfold CC;split <;> (try split) <;> rfl
    · unfold CC;split <;> (try split) <;> rfl
  have HS1:Hid (SMm D.n (w.heap.size + 1) (fun _=>0) (fun _=>.slice none 0 0) (fun _=>[]) [] [] W1 (((w.alloc (.cells #[.slice D.i.b D.i.n D.i.c,.slice (some ⟨gN,oN,none⟩) D.n D.c] 26)).alloc (.cells (madeCells #[.int .i64 0] (D.n + 1)) 3)).alloc (.cells (madeCells #[.slice none 0 0] (D.n + 1)) 22))):=by
    rw [← hW1];exact HS0
  have HPI:Hid (∀ m,m≤D.n→PI D.n (300 * m) (P1 D.I m)):=fun m hm=>PI.all HI.out m hm
  clear hr hnd hb hval hd HBX HS0
  clear hW1 hsz1
  go_enter Tryz.func56,Tryz.ntmps56
  go_wp2_with fail
  go_loopw [30] (fun x wr=>∃ (m:Nat) (V:Nat→Value),m≤D.n∧x = .int .i64 m∧V (D.n + 1) = .slice none 0 0∧V (D.n + 2) = .slice none 0 0∧SMm D.n (w.heap.size + 1) (P1 D.I m).1 V (P1 D.I m).2 [] [] W1 wr) (fun x _=>D.n - (intOf x).toNat)
  case atStart=>exact ⟨0,fun _=>.slice none 0 0,by omega,rfl,rfl,rfl,HS1.out⟩
  case round=>
    rename World=>wo
    obtain ⟨m,V,hm,rfl,hv1,hv2,hs⟩:=hrel
    by_cases hlt:m < D.n
    · have t1:(m:Int) < D.n:=by omega
      obtain ⟨d,hk⟩:∃ d,D.L[m]?=some d:=⟨_,List.getElem?_eq_getElem (by rw [← HLEN.out];exact hlt)⟩
      have hw0:Oth [] w wo:=(HBW.out wo hs.o).1
      obtain ⟨j2,j3⟩:=HND.out wo hw0 m d hk
      have hdd:=HD.out d (List.mem_of_getElem? hk)
      have hIm:D.I.getD m []=d.ins:=by unfold NetD.I;rw [List.getD_eq_getElem?_getD,List.getElem?_map,hk];rfl
      obtain ⟨o,bi,ni,ci,ins,bp,np,cp,P⟩:=d
      have c0:=j2 0 _ rfl
      have c1:=j2 1 _ rfl
      have c2:=j2 2 _ rfl
      have c3:=j2 3 _ rfl
      have c4:=j2 4 _ rfl
      have c5:=j2 5 _ rfl
      have c6:=j2 6 _ rfl
      have c7:=j2 7 _ rfl
      have c8:=j2 8 _ rfl
      have c9:=j2 9 _ rfl
      rw [Nat.add_zero] at c0
      have l2:=World.block_lt_of_cell? _ _ c0
      have hni:ni=ins.length:=j3.ins.len
      have hni2:ni≤300:=by rw [hni];exact hdd.1
      have HIN:Hid (RI bi ni ci ins w):=(HND.out w (Oth.refl _ _) m _ hk).2.ins
      have HDD:=Lib.hid hdd
      have HP:Hid (P1 D.I (m + 1)=ins.foldl (add1 m) (P1 D.I m)):=by
        rw [P1,hIm]
        exact Lib.hid rfl
      have HPB:=Lib.hid (HPI.out m (by omega))
      have HNI:=Lib.hid hni
      have HK:=Lib.hid (And.intro hv1 (And.intro hv2 hs))
      dsimp only at c0 c1 c2 c3 c4 c5 c6 c7 c8 c9
      clear j2 j3 hk hdd hIm hni hs hv1 hv2 hw0
      have e4:IntKind.i64.wrap ((m:Int) + 1)=(m:Int) + 1:=IntWalk.i64_in _ (by omega)
      go_wp2_with fail
      go_loopw [38] (fun y w2=>∃ (j:Nat) (V:Nat→Value),j≤ni∧y = .int .i64 j∧V (D.n + 1) = .slice none 0 0∧V (D.n + 2) = .slice none 0 0∧SMm D.n (w.heap.size + 1) ((ins.take j).foldl (add1 m) (P1 D.I m)).1 V ((ins.take j).foldl (add1 m) (P1 D.I m)).2 [] [] W1 w2) (fun y _=>ni - (intOf y).toNat)
      case atStart=>exact ⟨0,V,by omega,rfl,HK.out.1,HK.out.2.1,HK.out.2.2.keep ((Oth.refl _ _).alloc _)⟩
      case round=>
        obtain ⟨j,V2,hj,rfl,hv1,hv2,hs⟩:=hrel
        by_cases hlj:j < ni
        · have t2:(j:Int) < ni:=by omega
          obtain ⟨x,hx⟩:∃ x,ins[j]?=some x:=⟨_,List.getElem?_eq_getElem (by rw [← HNI.out];exact hlj)⟩
          have hw0:=(HBW.out wr hs.o).1
          obtain ⟨gi,oi,rfl,hc⟩:=(HIN.out.oth hw0).at_ j x hx
          have lgi:=World.block_lt_of_cell? _ _ hc
          have hxb:=HDD.out.2 x (List.mem_of_getElem? hx)
          have e5:IntKind.i64.wrap ((j:Int) + 1)=(j:Int) + 1:=IntWalk.i64_in _ (by omega)
          have HX:Hid ((ins.take (j + 1)).foldl (add1 m) (P1 D.I m)=add1 m ((ins.take j).foldl (add1 m) (P1 D.I m)) x):=fold_step hx
          have hpi:PI D.n 20000 ((ins.take j).foldl (add1 m) (P1 D.I m)):=(PI.fold hlt (ins.take j) HPB.out).mono (by simp;omega)
          obtain ⟨s,hsj⟩:∃ s,s=(ins.take j).foldl (add1 m) (P1 D.I m):=⟨_,rfl⟩
          rw [← hsj] at hs HX hpi
          obtain ⟨z,rfl⟩:∃ z:Nat,x=z:=⟨x.toNat,by omega⟩
          by_cases h0:z=0
          · subst h0
            have HF:=Lib.hid (And.intro hv1 (And.intro hv2 hs))
            clear hs hpi hsj hx hxb hw0 hv1 hv2
            rw [Int.natCast_zero] at hc
            go_wp2_with fail
            go_roundw
            case rel=>exact ⟨j + 1,V2,by omega,by go_num,HF.out.1,HF.out.2.1,by rw [HX.out];exact HF.out.2.2⟩
            case measure=>simp [intOf];omega
          · have hx':((z:Int) != 0)=true:=by simp [h0]
            have b1:=hs.wt.at_ (i:=m + 1) (by omega)
            have b2:=hs.wt.free (m + 1)
            have b3:=hs.wt.lt
            have hab:=hpi.w (m + 1)
            have hul:=(hpi.u z).1
            have hzn:z≤D.n:=by omega
            have u1:=hs.userAt hzn
            have u2:=hs.hi
            have HSM:=Lib.hid hs
            obtain ⟨a,ha⟩:∃ a,a=s.1 (m + 1):=⟨_,rfl⟩
            rw [← ha] at b1 hab
            have e6:IntKind.i64.wrap (a + 1)=a + 1:=IntWalk.i64_in _ (by omega)
            have t3:(m:Int) + 1 < (D.n:Int) + 1:=by omega
            have t4:(z:Int) < (D.n:Int) + 1:=by omega
            have HA:=Lib.hid ha
            have HV:=Lib.hid (And.intro hv1 hv2)
            have HSW:Hid (SMm D.n (w.heap.size + 1) (fun k=>if k=m + 1 then a + 1 else s.1 k) V2 s.2 [] [] W1 (wr.setCell ⟨w.heap.size + 1,m + 1,none⟩ (.int .i64 (a + 1)))):=hs.wait (m + 1) (a + 1)
            clear hs hpi hsj hx hxb hw0 hv1 hv2 ha
            go_wp2_with (at_builtin;refine wpList_append_own_at _ rfl _ _ 22 rfl 0 3 i0 _ 1 8 Tryz.underlying22 hi hz0 hz1 hz2 rfl (by decide) (V2 z) (s.2 z).length (ivl (s.2 z)) rfl ((HSW.out.ownU hzn).alloc _) ⟨wr.heap.size,0,none⟩ 1 1 [.int .i64 ((m:Int) + 1)] rfl rfl ?p1 ?p2 ?p3 ?p4 ?p5 ?_)
            case p2=>first | rfl | (intro u hu;simp at hu;subst hu;rfl)
            case p3=>unfold maxLen;omega
            case p4=>omega
            intro v' w6 hown6 hgrow hx1 hx2
            rw [← ivl_snoc] at hown6
            have hat:v'.ownBlock=(V2 z).ownBlock∨v'.ownBlock=some ((wr.setCell ⟨w.heap.size + 1,m + 1,none⟩ (.int .i64 (a + 1))).alloc (.cells #[.int .i64 ((m:Int) + 1)] 3)).heap.size:=by simpa using hx2
            have hKA:=HSW.out.keep ((Oth.refl [] _).alloc (.cells #[.int .i64 ((m:Int) + 1)] 3))
            have HU:Hid (SMm D.n (w.heap.size + 1) (fun k=>if k=m + 1 then a + 1 else s.1 k) (fun k=>if k=z then v' else V2 k) (fun k=>if k=z then s.2 z ++ [(m:Int) + 1] else s.2 k) [] [] W1 (w6.setCell ⟨w.heap.size + 1 + 1,z,none⟩ v')):=
              hKA.user (i:=z) (c':=s.2 z ++ [(m:Int) + 1]) hzn (by rw [List.length_append];exact hown6) hgrow hat
            have hrow6:=(hKA.userRow (i:=z) (by omega) hgrow).1
            have u3:=hrow6.free z
            have u4':=hrow6.lt
            have u5:=hrow6.cell (j:=z) (x:=V2 z) (by rw [List.getElem?_map,List.getElem?_range (by omega)];rfl)
            obtain ⟨vb,vc,rfl⟩:=own_slice hown6
            clear hKA hown6 hgrow hx1 hx2 hat hrow6 u1 u2 b1 b2 b3 c0 c1 c2 c3 c4 c5 c6 c7 c8 c9
            go_wp2_with fail
            go_roundw
            case rel=>
              refine ⟨j + 1,_,by omega,by go_num,?_,?_,HU.out.ext (fun k hk=>?_) (fun k hk=>?_) (fun _ _=>rfl)⟩
              · rw [if_neg (by omega)];exact HV.out.1
              · rw [if_neg (by omega)];exact HV.out.2
              · rw [HX.out,add1,if_neg (show ¬ (z:Int)=0 by omega)]
                by_cases e:k=m + 1
                · rw [if_pos e];simp only;rw [if_pos e,e,← HA.out]
                · rw [if_neg e];simp only;rw [if_neg e]
              · rw [HX.out,add1,if_neg (show ¬ (z:Int)=0 by omega)]
                simp only [Int.toNat_natCast]
                by_cases e:k=z
                · rw [if_pos e,if_pos e,e]
                · rw [if_neg e,if_neg e]
            case measure=>simp [intOf];omega
        · obtain rfl:j=ni:=by omega
          have t2:¬ (j:Int) < j:=by omega
          have HF:=Lib.hid (And.intro hv1 (And.intro hv2 hs))
          have HJ:Hid (ins.take j=ins):=by rw [HNI.out];exact Lib.hid List.take_length
          clear hv1 hv2 hs
          go_wp2_with fail
          go_roundw
          case rel=>exact ⟨m + 1,V2,by omega,by go_num,HF.out.1,HF.out.2.1,by rw [HP.out,← HJ.out];exact HF.out.2.2⟩
          case measure=>simp [intOf];omega
    · obtain rfl:m=D.n:=by omega
      have t1:¬ (D.n:Int) < (D.n:Int):=by omega
      obtain ⟨p0,p1,p2⟩:=HBW.out wo hs.o
      have HSP:=Lib.hid hs
      have hpw:=HPI.out D.n (Nat.le_refl _)
      have hmi:=mi_start (n:=D.n) HI.out (by omega)
      have hord:D.ord=srt (P1 D.I D.n).2 (D.n + 1) (rdy0 (P1 D.I D.n).1 D.n) (P1 D.I D.n).1 []:=rfl
      obtain ⟨ps,hps⟩:∃ ps,ps=P1 D.I D.n:=⟨_,rfl⟩
      rw [← hps] at hpw hmi HSP hord
      have HMI:=Lib.hid hmi
      have HORD:=Lib.hid hord
      have HPW:=Lib.hid hpw
      have HV:=Lib.hid (And.intro hv1 hv2)
      clear hs hv1 hv2 hpw hmi hord hps p0
      go_wp2_with fail
      go_loopw [10,9] (fun x y w2=>∃ (k:Nat) (V3:Nat→Value),k≤D.n∧x = .int .i64 ((k:Int) + 1)∧y=V3 (D.n + 1)∧V3 (D.n + 2) = .slice none 0 0∧SMm D.n (w.heap.size + 1) ps.1 V3 ps.2 (rdy0 ps.1 k) [] W1 w2) (fun x _ _=>D.n + 1 - (intOf x).toNat)
      case atStart=>exact ⟨0,V,by omega,rfl,HV.out.1.symm,HV.out.2,HSP.out⟩
      case round=>
        obtain ⟨k,V3,hk,rfl,hy,hv2,hs⟩:=hrel
        obtain ⟨p0,p1,p2⟩:=HBW.out wr hs.o
        by_cases hlk:k < D.n
        · have t2:(k:Int) + 1≤(D.n:Int):=by omega
          have b1:=hs.wt.at_ (i:=k + 1) (by omega)
          have b3:=hs.wt.lt
          have t3:(k:Int) + 1 < (D.n:Int) + 1:=by omega
          have e5:IntKind.i64.wrap ((k:Int) + 1 + 1)=(k:Int) + 1 + 1:=IntWalk.i64_in _ (by omega)
          have hrl:(rdy0 ps.1 k).length≤64:=by
            have:=rdy0_len (W:=ps.1) (fun i=>(HPW.out.w i).1) k
            omega
          by_cases hz:ps.1 (k + 1)=0
          · rw [hz] at b1
            have HRD:Hid (rdy0 ps.1 (k + 1)=rdy0 ps.1 k ++ [(k:Int) + 1]):=by
              rw [rdy0,if_pos hz]
              exact Lib.hid rfl
            have HOWN:Hid (wr.ownsRow 0 3 1 u9 (rdy0 ps.1 k).length (ivl (rdy0 ps.1 k))):=by rw [hy];exact hs.ownR
            have HSM:=Lib.hid (And.intro hy (And.intro hv2 hs))
            clear hy hv2 hs hz p0
            go_wp2_with (at_builtin;refine wpList_append_own_at _ rfl _ _ 22 rfl 0 3 i0 _ 1 8 Tryz.underlying22 hi hz0 hz1 hz2 rfl (by decide) u9 (rdy0 ps.1 k).length (ivl (rdy0 ps.1 k)) rfl (HOWN.out.alloc _) ⟨wr.heap.size,0,none⟩ 1 1 [.int .i64 ((k:Int) + 1)] rfl rfl ?q1 ?q2 ?q3 ?q4 ?q5 ?_)
            case q1=>exact cell_one_new _ _ _
            case q2=>first | rfl | (intro u hu;simp at hu;subst hu;rfl)
            case q3=>unfold maxLen;omega
            case q4=>omega
            case q5=>exact Nat.zero_le _
            intro v' w6 hown6 hgrow hx1 hx2
            rw [← ivl_snoc] at hown6
            have hat:v'.ownBlock=(V3 (D.n + 1)).ownBlock∨v'.ownBlock=some (wr.alloc (.cells #[.int .i64 ((k:Int) + 1)] 3)).heap.size:=by rw [← HSM.out.1];simpa using hx2
            rw [HSM.out.1] at hgrow
            have hKA:=HSM.out.2.2.keep ((Oth.refl [] _).alloc (.cells #[.int .i64 ((k:Int) + 1)] 3))
            have HU:Hid (SMm D.n (w.heap.size + 1) ps.1 (fun j=>if j=D.n + 1 then v' else V3 j) ps.2 (rdy0 ps.1 k ++ [(k:Int) + 1]) [] W1 w6):=
              hKA.ready (by rw [List.length_append];exact hown6) hgrow hat
            clear hKA hown6 hgrow hx1 hx2 hat b1 b3 p1
            go_wp2_with fail
            go_roundw
            case rel=>exact ⟨k + 1,fun j=>if j=D.n + 1 then v' else V3 j,by omega,by go_num,(if_pos rfl).symm,by show (if D.n + 2=D.n + 1 then v' else V3 (D.n + 2))=_;rw [if_neg (by omega)];exact HSM.out.2.1,by rw [HRD.out];exact HU.out⟩
            case measure=>simp [intOf];omega
          · have hz':(ps.1 (k + 1) == 0)=false:=by simp [hz]
            have HRD:Hid (rdy0 ps.1 (k + 1)=rdy0 ps.1 k):=by
              rw [rdy0,if_neg hz]
              exact Lib.hid rfl
            have HSM:=Lib.hid (And.intro hy (And.intro hv2 hs))
            clear hy hv2 hs p0
            go_wp2_with fail
            go_roundw
            case rel=>exact ⟨k + 1,V3,by omega,by go_num,HSM.out.1,HSM.out.2.1,by rw [HRD.out];exact HSM.out.2.2⟩
            case measure=>simp [intOf];omega
        · obtain rfl:k=D.n:=by omega
          have t2:¬ (D.n:Int) + 1≤(D.n:Int):=by omega
          have hm2:∀ w',_:=fun w'=>run_make_room (P:=Tryz.prog) 22 3 (.int .i64 0) 8 Tryz.underlying22 info3 rfl .i64 .i64 D.n (by omega) (by omega) w'
          have HSO:Hid (SMm D.n (w.heap.size + 1) ps.1 (fun j=>if j=D.n + 2 then .slice (some ⟨wr.heap.size,0,none⟩) 0 D.n else V3 j) ps.2 (rdy0 ps.1 D.n) [] W1 (wr.alloc (.cells (madeCells #[.int .i64 0] D.n) 3))):=hs.orderNew (by unfold maxLen;omega)
          have HY:=Lib.hid hy
          obtain ⟨go,hgo⟩:∃ go,go=wr.heap.size:=⟨_,rfl⟩
          have hgo2:w.heap.size + 2 < go:=by have:=hs.hi;omega
          have HGO:=Lib.hid hgo
          rw [← hgo] at HSO
          clear hy hv2 hs p0 hgo
          go_wp2_with fail
          go_loopw [9,11] (fun x z w2=>∃ (V4:Nat→Value) (R O:List Int) (W:Nat→Int),x=V4 (D.n + 1)∧z = .slice (some ⟨go,0,none⟩) O.length D.n∧V4 (D.n + 2) = .slice (some ⟨go,0,none⟩) O.length D.n∧SMm D.n (w.heap.size + 1) W V4 ps.2 R O W1 w2∧MI D.n (20000 * (O.length:Int)) R W O∧srt ps.2 (D.n + 1 - O.length) R W O=D.ord) (fun _ z _=>D.n - slen z)
          case atStart=>
            refine ⟨fun j=>if j=D.n + 2 then .slice (some ⟨go,0,none⟩) 0 D.n else V3 j,rdy0 ps.1 D.n,[],ps.1,?_,by rw [HGO.out];rfl,if_pos rfl,HSO.out,HMI.out,HORD.out.symm⟩
            show _=(if D.n + 1=D.n + 2 then _ else V3 (D.n + 1))
            rw [if_neg (by omega)]
            exact HY.out
          case round=>
            obtain ⟨V4,R,O,W,hx,rfl,hz,hs,hmi,hsr⟩:=hrel
            cases R with
            | nil=>
              obtain ⟨b,c,hb⟩:=own_slice hs.ownR
              rw [hb] at hx
              subst hx
              have hOr:O=D.ord:=by
                rw [← hsr]
                cases D.n + 1 - O.length <;> rfl
              have hrow:=own_row (show wr.ownsRow 0 3 1 (.slice (some ⟨go,0,none⟩) O.length D.n) O.length (ivl O) by rw [← hz];exact hs.ownO)
              have HF:=Lib.hid (And.intro hOr (And.intro hrow hs.o))
              clear hz hs hmi hsr hOr hrow hb
              go_wp2_with fail
              go_ret
              refine ⟨⟨go,?_,?_,by omega⟩,(HBW.out _ HF.out.2.2).1⟩
              · rw [← HF.out.1];rfl
              · rw [← HF.out.1];exact HF.out.2.1
            | cons r R=>
              have hro:=hs.ownR
              obtain ⟨gr,cr,hb,-,hrow⟩:=row_of_owns hro (by simp)
              rw [hb] at hx
              subst hx
              have hcn:=hmi.cons
              rw [List.length_cons] at hcn
              have hrm:=hmi.rm r (.head _)
              have a1:=hrow.cell (j:=0) (x:=.int .i64 r) rfl
              have a2:=hrow.lt
              have hmp:=hmi.pop
              have hV1:(V4 (D.n + 1)).ownBlock=some gr:=by rw [hb];rfl
              have hbl:=hs.fam.new (D.n + 1) (by omega) gr hV1
              have ND:=Lib.hid (delete0_any hrow)
              have hR64:R.length≤64:=by omega
              have hO64:O.length + 1≤D.n:=by omega
              obtain ⟨rn,hrn⟩:∃ rn:Nat,r=(rn:Int):=⟨r.toNat,by omega⟩
              have hft:D.n + 1 - O.length=(D.n + 1 - (O ++ [r]).length) + 1:=by rw [List.length_append,List.length_cons,List.length_nil];omega
              have HSR:Hid (srt ps.2 (D.n + 1 - (O ++ [r]).length) ((ps.2 rn).foldl rel1 (R,W)).1 ((ps.2 rn).foldl rel1 (R,W)).2 (O ++ [r])=D.ord):=by
                have h9:=hsr
                rw [hft,srt,hrn,Int.toNat_natCast,← hrn] at h9
                exact Lib.hid h9
              have HSM:=Lib.hid (And.intro hs (And.intro hz hmp))
              have HV1:=Lib.hid hV1
              have HGB:=Lib.hid hbl
              have HLO:Hid (go + 1≤wr.heap.size):=by
                have h9:=hs.fam.lt (i:=D.n + 2) (by omega) go (by rw [hz];rfl)
                exact Lib.hid h9
              have t4:(0:Int) < (R.length:Int) + 1:=by omega
              rw [List.length_cons] at *
              subst hrn
              clear hs hz hmi hsr hrow hro hb hmp hV1 hbl hft hcn
              go_wp2_with fail
              go_at_call 108
              (with_reducible refine ND.out.mono ?_)
              rintro e w7 ⟨rfl,hrow7,ho7⟩
              have HS7:Hid (SMm D.n (w.heap.size + 1) W (fun j=>if j=D.n + 1 then .slice (some ⟨gr,0,none⟩) R.length cr else V4 j) ps.2 R O W1 w7):=HSM.out.1.readyPut HV1.out ho7 rfl hrow7 (.inl rfl)
              have HO7:Hid (w7.ownsRow 0 3 1 (.slice (some ⟨go,0,none⟩) O.length D.n) O.length (ivl O)):=by
                have h9:=HS7.out.ownO
                rw [if_neg (by omega),HSM.out.2.1] at h9
                exact Lib.hid h9
              clear hrow7 ho7 a1 a2
              go_wp2_with (at_builtin;refine wpList_append_fits _ rfl _ _ 22 rfl 0 3 i0 1 Tryz.underlying22 hi hz1 go O.length D.n (ivl O) rfl (HO7.out.alloc _) ⟨w7.heap.size,0,none⟩ 1 1 [.int .i64 (rn:Int)] rfl rfl ?r1 ?r2 ?r3 ?_)
              case r1=>exact cell_one_new _ _ _
              case r2=>intro u hu;simp at hu;subst hu;rfl
              case r3=>omega
              intro w8 hown8 hgrow8
              rw [← ivl_snoc] at hown8
              obtain ⟨V5,hV5⟩:∃ V5:Nat→Value,V5=fun j=>if j=D.n + 2 then .slice (some ⟨go,0,none⟩) (O.length + 1) D.n else (if j=D.n + 1 then .slice (some ⟨gr,0,none⟩) R.length cr else V4 j):=⟨_,rfl⟩
              have HS8:Hid (SMm D.n (w.heap.size + 1) W V5 ps.2 R (O ++ [(rn:Int)]) W1 w8):=by
                rw [hV5]
                refine (HS7.out.keep ((Oth.refl [] _).alloc (.cells #[.int .i64 (rn:Int)] 3))).orderPut (b:=go) ?_ ((Oth.refl [go] _).grown hgrow8 (fun k hk=>by cases hk;exact .inl (by simp))) (by simp) (own_row hown8)
                show (if D.n + 2=D.n + 1 then _ else V4 (D.n + 2)).ownBlock=_
                rw [if_neg (by omega),HSM.out.2.1];rfl
              have h51:V5 (D.n + 1) = .slice (some ⟨gr,0,none⟩) R.length cr:=by rw [hV5];show (if D.n + 1=D.n + 2 then _ else if D.n + 1=D.n + 1 then _ else _)=_;rw [if_neg (by omega),if_pos rfl]
              have h52:V5 (D.n + 2) = .slice (some ⟨go,0,none⟩) (O.length + 1) D.n:=by rw [hV5];show (if D.n + 2=D.n + 2 then _ else _)=_;rw [if_pos rfl]
              have hr64:rn≤D.n:=by omega
              obtain ⟨bu,cu,h53⟩:=own_slice (HS8.out.ownU hr64)
              have u1:=HS8.out.userAt hr64
              have u2:=HS8.out.hi
              rw [h53] at u1
              have t5:(rn:Int) < (D.n:Int) + 1:=by omega
              have hL:(ps.2 rn).length≤19200:=by have:=(HPW.out.u rn).1;omega
              have HUM:Hid (∀ x∈ps.2 rn,1≤x∧x≤(D.n:Int)):=(HPW.out.u rn).2
              have HMP:=Lib.hid HSM.out.2.2
              have H5:=Lib.hid (And.intro h51 (And.intro h52 h53))
              obtain ⟨L,hLL⟩:∃ L,L=(ps.2 rn).length:=⟨_,rfl⟩
              rw [← hLL] at u1 hL
              have HLL:=Lib.hid hLL
              clear hown8 hgrow8 hV5 h51 h52 h53 HS7 HO7 HSM ND hLL
              go_wp2_with fail
              go_loopw [101,9] (fun y x w2=>∃ (j:Nat) (V6:Nat→Value) (R6:List Int) (W6:Nat→Int),j≤L∧y = .int .i64 j∧x=V6 (D.n + 1)∧(∃ g6 c6,V6 (D.n + 1) = .slice (some ⟨g6,0,none⟩) R6.length c6)∧V6 (D.n + 2) = .slice (some ⟨go,0,none⟩) (O.length + 1) D.n∧V6 rn = .slice bu L cu ∧
                SMm D.n (w.heap.size + 1) W6 V6 ps.2 R6 (O ++ [(rn:Int)]) W1 w2∧((ps.2 rn).take j).foldl rel1 (R,W)=(R6,W6)) (fun y _ _=>L - (intOf y).toNat)
              case atStart=>exact ⟨0,V5,R,W,by omega,rfl,H5.out.1.symm,⟨_,_,H5.out.1⟩,H5.out.2.1,by rw [HLL.out];exact H5.out.2.2,HS8.out,rfl⟩
              case round=>
                obtain ⟨j,V6,R6,W6,hj,rfl,hx,⟨g6,c6,h61⟩,h62,h63,hs,hfo⟩:=hrel
                rw [h61] at hx
                subst hx
                by_cases hlj:j < L
                · have t6:(j:Int) < L:=by omega
                  obtain ⟨u,hu⟩:∃ u,(ps.2 rn)[j]?=some u:=⟨_,List.getElem?_eq_getElem (by rw [← HLL.out];exact hlj)⟩
                  obtain ⟨gu,cu',hbu,-,hru⟩:=row_of_owns (hs.ownU hr64) (by rw [← HLL.out];omega)
                  rw [h63] at hbu
                  simp only [Value.slice.injEq] at hbu
                  obtain ⟨rfl,-,rfl⟩:=hbu
                  have a1:=hru.cell (ivl_get hu)
                  have a2:=hru.lt
                  have hub:=HUM.out u (List.mem_of_getElem? hu)
                  obtain ⟨un,rfl⟩:∃ un:Nat,u=(un:Int):=⟨u.toNat,by omega⟩
                  have b1:=hs.wt.at_ (i:=un) (by omega)
                  have b2:=hs.wt.free un
                  have b3:=hs.wt.lt
                  have hmi:=MI.fold (n:=D.n) (O:=O ++ [(rn:Int)]) ((ps.2 rn).take j) (B:=20000 * (O.length:Int)) (s:=(R,W)) (fun x hx=>HUM.out x (List.mem_of_mem_take hx)) HMP.out
                  rw [hfo] at hmi
                  have hwb : -(20000 * (O.length:Int) + (((ps.2 rn).take j).length:Int))≤W6 un∧W6 un≤1000000:=hmi.wb un
                  have hcn:(O ++ [(rn:Int)]).length + R6.length + psW W6 D.n=D.n:=hmi.cons
                  have hst:R6.Pairwise (·≤·):=hmi.st
                  rw [List.length_take,List.length_append,List.length_cons,List.length_nil] at *
                  obtain ⟨a,ha⟩:∃ a,a=W6 un:=⟨_,rfl⟩
                  rw [← ha] at b1 hwb
                  have e6:IntKind.i64.wrap (a - 1)=a - 1:=IntWalk.i64_in _ (by omega)
                  have e7:IntKind.i64.wrap ((j:Int) + 1)=(j:Int) + 1:=IntWalk.i64_in _ (by omega)
                  have t7:(un:Int) < (D.n:Int) + 1:=by omega
                  have hR6:R6.length≤64:=by omega
                  have HSW:Hid (SMm D.n (w.heap.size + 1) (dec1 W6 un) V6 ps.2 R6 (O ++ [(rn:Int)]) W1 (wr.setCell ⟨w.heap.size + 1,un,none⟩ (.int .i64 (a - 1)))):=
                    (hs.wait un (a - 1)).ext (fun i hi=>by
                      unfold dec1
                      rw [Int.toNat_natCast]
                      by_cases e:i=un
                      · rw [if_pos e,if_pos e,ha,e]
                      · rw [if_neg e,if_neg e]) (fun _ _=>rfl) (fun _ _=>rfl)
                  have HX:Hid (((ps.2 rn).take (j + 1)).foldl rel1 (R,W)=rel1 (R6,W6) un):=by
                    rw [rel_step hu,hfo]
                    exact Lib.hid rfl
                  have H6:=Lib.hid (And.intro h61 (And.intro h62 h63))
                  have HA:=Lib.hid (And.intro ha hst)
                  have hV6:(V6 (D.n + 1)).ownBlock=some g6:=by rw [h61];rfl
                  have hg6:=HSW.out.fam.lt (i:=D.n + 1) (by omega) g6 hV6
                  have HV6:=Lib.hid hV6
                  have HG6:=Lib.hid hg6
                  clear h61 h62 h63 hs hfo hru hub hmi hst hwb hcn ha hV6 hg6 hu
                  by_cases hz:a=1
                  · subst hz
                    have e8:((1:Int) - 1)=0:=rfl
                    rw [e8] at *
                    have hrow6:Row 3 1 g6 R6.length c6 (ivl R6) (wr.setCell ⟨w.heap.size + 1,un,none⟩ (.int .i64 0)):=own_row (by rw [← H6.out.1];exact HSW.out.ownR)
                    have NB:=Lib.hid (bsearch_any (x:=(un:Int)) hrow6 HA.out.2 (by omega))
                    have HR6:=Lib.hid hrow6
                    clear hrow6
                    go_wp2_with (go_at_call 109;(with_reducible refine NB.out.mono ?_);rintro e w9 ⟨⟨bf,rfl⟩,ho9⟩;replace ho9:=Lib.hid ho9)
                    have hsz9:=ho9.out.size
                    rw [World.size_setCell] at hsz9
                    have NI:Hid (Calls Tryz.prog 110 #[.slice (some ⟨g6,0,none⟩) R6.length c6,.int .i64 (R6.countP (· < (un:Int)):Nat),.slice (some ⟨w9.heap.size,0,none⟩) 1 1] (w9.alloc (.cells #[.int .i64 (un:Int)] 3)) fun e w'=>∃ g' cap',e = .returned (.slice (some ⟨g',0,none⟩) (R6.length + 1) cap')∧Row 3 1 g' (R6.length + 1) cap' (ivl (ins1 (un:Int) R6)) w'∧Oth [g6] (w9.alloc (.cells #[.int .i64 (un:Int)] 3)) w'∧(g'=g6∨(w9.alloc (.cells #[.int .i64 (un:Int)] 3)).heap.size≤g')):=
                      insert1_any (vb:=w9.heap.size) (cv:=1) ((HR6.out.oth ho9.out (by simp)).oth ((Oth.refl [] _).alloc _) (by simp)) (row_of_list (xs:=[.int .i64 (un:Int)]) (heap_alloc_new _ _) rfl (by decide)) (by have:=HG6.out;rw [World.size_setCell] at this;omega) List.countP_le_length (by omega)
                    go_wp2_with (go_at_call 110;(with_reducible refine NI.out.mono ?_);rintro e w10 ⟨g',cap',rfl,hrow10,ho10,hat⟩;replace hrow10:=Lib.hid hrow10;replace ho10:=Lib.hid ho10;replace hat:=Lib.hid hat)
                    have HS10:Hid (SMm D.n (w.heap.size + 1) (dec1 W6 un) (fun j=>if j=D.n + 1 then .slice (some ⟨g',0,none⟩) (R6.length + 1) cap' else V6 j) ps.2 (ins1 (un:Int) R6) (O ++ [(rn:Int)]) W1 w10):=
                      ((HSW.out.keep ho9.out).keep ((Oth.refl [] _).alloc (.cells #[.int .i64 (un:Int)] 3))).readyPut HV6.out ho10.out (ins1_len _ _).symm hrow10.out hat.out
                    go_roundw
                    case rel=>
                      refine ⟨j + 1,fun j=>if j=D.n + 1 then .slice (some ⟨g',0,none⟩) (R6.length + 1) cap' else V6 j,ins1 (un:Int) R6,dec1 W6 un,by omega,by go_num,(if_pos rfl).symm,⟨g',cap',?_⟩,?_,?_,HS10.out,?_⟩
                      · rw [ins1_len];exact if_pos rfl
                      · show (if D.n + 2=D.n + 1 then _ else V6 (D.n + 2))=_
                        rw [if_neg (by omega)];exact H6.out.2.1
                      · show (if rn=D.n + 1 then _ else V6 rn)=_
                        rw [if_neg (by omega)];exact H6.out.2.2
                      · rw [HX.out,rel1,if_pos]
                        simp only [Int.toNat_natCast]
                        rw [← HA.out.1];rfl
                    case measure=>simp [intOf];omega
                  · have hz':(a - 1 == 0)=false:=by simp;omega
                    go_wp2_with fail
                    go_roundw
                    case rel=>
                      refine ⟨j + 1,V6,R6,dec1 W6 un,by omega,by go_num,H6.out.1.symm,⟨_,_,H6.out.1⟩,H6.out.2.1,H6.out.2.2,HSW.out,?_⟩
                      rw [HX.out,rel1,if_neg]
                      simp only [Int.toNat_natCast]
                      rw [← HA.out.1];omega
                    case measure=>simp [intOf];omega
                · obtain rfl:j=L:=by omega
                  have t6:¬ (j:Int) < j:=by omega
                  have hft:(ps.2 rn).take j=ps.2 rn:=by rw [HLL.out,List.take_length]
                  rw [hft] at hfo
                  have HF:=Lib.hid (And.intro h61 (And.intro h62 (And.intro hs hfo)))
                  clear h61 h62 h63 hs hfo hft
                  go_wp2_with fail
                  go_roundw
                  case rel=>
                    have hmi:=MI.fold (n:=D.n) (O:=O ++ [(rn:Int)]) (ps.2 rn) (B:=20000 * (O.length:Int)) (s:=(R,W)) HUM.out HMP.out
                    have hsr:=HSR.out
                    rw [HF.out.2.2.2] at hmi hsr
                    refine ⟨V6,R6,O ++ [(rn:Int)],W6,HF.out.1.symm,by simp,by rw [HF.out.2.1];simp,HF.out.2.2.1,hmi.mono ?_,hsr⟩
                    rw [List.length_append,← HLL.out]
                    simp;omega
                  case measure=>simp [slen];omega
end
end Go.Proofs.YtnpdcjdmbkcpbaaGreat.Ins
