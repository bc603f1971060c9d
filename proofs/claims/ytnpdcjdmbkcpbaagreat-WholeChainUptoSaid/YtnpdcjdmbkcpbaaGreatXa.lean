/- Rows in memory and frames: lemmas for the walks of slices.Insert. The walks of package chain: readers of a chain. The solver of package chain in memory; its memo. The walk of (*solver).split. No condition. -/
import Derived.Test.YtnpdcjdmbkcpbaaGreatRows
import Derived.WalkKit
import Derived.WalkSpells
import Derived.WalkLawsBesides
import Derived.Lib.Hide
import Derived.Below
import Derived.OneCell
import Derived.LoopTactic
import Derived.Outline
import Derived.BigQuiet
import Derived.Deep.QuietTactic
import Derived.Lib.Overlaps
import Derived.Lib.AppendZerosOnto
import Derived.Laws.IdiomCopy
import Derived.Laws.Externs
import Derived.Laws.NewBlocks
import Derived.Lib.JoinLaws
import Derived.Lib.SliceRun
import Derived.Maps.AppendAt
import Derived.Deep.RegionLaw
import Derived.Deep.RegionHeld3
import Derived.Maps.Keyed
import Derived.Maps.OwnSet
import Derived.DeepKeys4
set_option linter.unusedVariables false
set_option linter.unusedSimpArgs false
namespace Go.Proofs.YtnpdcjdmbkcpbaaGreat.Ins
open Go.RowKit
structure Oth (S:List Nat) (w w':World):Prop where
  os:w'.os=w.os
  tape:w'.tape=w.tape
  output:w'.output=w.output
  size:w.heap.size≤w'.heap.size
  block:∀ k,k < w.heap.size→k∉S→w'.heap[k]?=w.heap[k]?
def Fr (S:List Nat) (w:World) (S':List Nat):Prop:=∀ k,k∈S'→k∈S∨w.heap.size≤k
theorem Fr.refl (S:List Nat) (w:World):Fr S w S:=fun _ h=>.inl h
theorem Fr.nil (S:List Nat) (w:World):Fr S w []:=fun _ h=>absurd h (by simp)
theorem Oth.refl (S:List Nat) (w:World):Oth S w w:=⟨rfl,rfl,rfl,Nat.le_refl _,fun _ _ _=>rfl⟩
theorem Oth.trans {S S':List Nat} {a b c:World} (h:Oth S a b) (k:Oth S' b c) (hf:Fr S a S'):Oth S a c:=
  ⟨k.os.trans h.os,k.tape.trans h.tape,k.output.trans h.output,Nat.le_trans h.size k.size,fun i hi hn=>
    (k.block i (Nat.lt_of_lt_of_le hi h.size) (fun e=>by rcases hf i e with h | h;exact hn h;omega)).trans (h.block i hi hn)⟩
theorem Oth.mono {S S':List Nat} {a b:World} (h:Oth S a b) (hs:∀ k,k∈S→k∈S'):Oth S' a b:=⟨h.os,h.tape,h.output,h.size,fun k hk hn=>h.block k hk (fun e=>hn (hs k e))⟩
theorem Oth.alloc {S:List Nat} {a w:World} (h:Oth S a w) (o:Obj):Oth S a (w.alloc o):=
  h.trans (S':=[]) ⟨rfl,rfl,rfl,by simp,fun k hk _=>Below.heap_alloc _ _ _ hk⟩ (Fr.nil _ _)
theorem Oth.drew {S:List Nat} {a w:World} (h:Oth S a w):Oth S a w.drew:=⟨h.os,h.tape,h.output,h.size,h.block⟩
theorem Oth.drewN {S:List Nat} {a w:World} (h:Oth S a w) (n:Nat):Oth S a (w.drewN n):=⟨h.os,h.tape,h.output,h.size,h.block⟩
theorem Oth.setCell {S:List Nat} {a w:World} (h:Oth S a w) {p:Addr} (hp:p.block∈S∨a.heap.size≤p.block) (u:Value):Oth S a (w.setCell p u):=
  h.trans (S':=[p.block]) ⟨rfl,rfl,rfl,by simp [World.setCell],fun k hk hn=>Below.heap_setCell _ _ _ _ (by simpa using hn)⟩ (fun k hk=>by simp at hk;subst hk;exact hp)
theorem oth_setCells (b:Nat):∀ (vs:List Value) (o:Nat) (w:World),Oth [b] w (w.setCells b o vs)
  | [],_,w=>Oth.refl _ _
  | v :: r,o,w=>((Oth.refl [b] w).setCell (p:=⟨b,o,none⟩) (.inl (by simp)) v).trans (oth_setCells b r (o + 1) _) (Fr.refl _ _)
theorem Oth.setCells {S:List Nat} {a w:World} (h:Oth S a w) {b:Nat} (hp:b∈S∨a.heap.size≤b) (o:Nat) (vs:List Value):Oth S a (w.setCells b o vs):=
  h.trans (oth_setCells b vs o w) (fun k hk=>by simp at hk;subst hk;exact hp)
theorem Oth.grown {S:List Nat} {a w w':World} {row:Option Nat} (h:Oth S a w) (hg:w.grownBy w' row) (hr:∀ k,row=some k→k∈S∨a.heap.size≤k):Oth S a w':=by
  cases row with
  | none=>exact h.trans (S':=[]) ⟨hg.os,hg.tape,hg.output,hg.size,fun k hk _=>hg.block k hk (by simp)⟩ (Fr.nil _ _)
  | some r=>exact h.trans (S':=[r]) ⟨hg.os,hg.tape,hg.output,hg.size,fun k hk hn=>hg.block k hk (by simpa using hn)⟩ (fun k hk=>by simp at hk;subst hk;exact hr k rfl)
theorem Oth.below {S:List Nat} {w w':World} (h:Oth S w w') {B:Nat} (hB:B≤w.heap.size) (hS:∀ k,k∈S→B≤k):Below B w w':=
  ⟨h.os,h.tape,h.output,h.size,fun k hk=>h.block k (by omega) (fun e=>by have:=hS k e;omega)⟩
theorem Oth.cell {S:List Nat} {w w':World} (h:Oth S w w') {p:Addr} {v:Value} (hp:w.cell? p=some v) (hn:p.block∉S):w'.cell? p=some v:=by
  rw [World.cell?_of_block (w:=w) (h.block p.block (World.block_lt_of_cell? w p hp) hn)];exact hp
theorem Oth.heap {S:List Nat} {w w':World} (h:Oth S w w') {p:Nat} {o:Obj} (hp:w.heap[p]?=some o) (hn:p∉S):w'.heap[p]?=some o:=by
  rw [h.block p (lt_of_block hp) hn];exact hp
def wr (cur:Array Value):Nat→List Value→Array Value
  | _,[]=>cur
  | o,v :: r=>wr (cur.setIfInBounds o v) (o + 1) r
theorem wr_size:∀ (vs:List Value) (o:Nat) (cur:Array Value),(wr cur o vs).size=cur.size
  | [],_,_=>rfl
  | v :: r,o,cur=>by rw [wr,wr_size r];simp
theorem wr_get:∀ (vs:List Value) (o:Nat) (cur:Array Value) (k:Nat),o + vs.length≤cur.size→(wr cur o vs)[k]?=if o≤k∧k < o + vs.length then vs[k - o]? else cur[k]?
  | [],o,cur,k,_=>by rw [wr,if_neg (by simp)]
  | v :: r,o,cur,k,h=>by
    simp only [List.length_cons] at h
    rw [wr,wr_get r (o + 1) _ k (by simp;omega)]
    simp only [List.length_cons]
    by_cases h1:k=o
    · subst h1
      rw [if_neg (by omega),if_pos (by omega)]
      rw [Array.getElem?_setIfInBounds_self_of_lt (by omega)];simp
    · by_cases h2:o + 1≤k∧k < o + 1 + r.length
      · rw [if_pos h2,if_pos (by omega)]
        obtain ⟨m,rfl⟩:∃ m,k=o + 1 + m:=⟨k - (o + 1),by omega⟩
        rw [show o + 1 + m - o=m + 1 by omega,show o + 1 + m - (o + 1)=m by omega]
        simp
      · rw [if_neg h2,if_neg (by omega),Array.getElem?_setIfInBounds_ne (by omega)]
theorem heap_setCells (b:Nat):∀ (vs:List Value) (o:Nat) (w:World) (cur:Array Value) (e:TypeId),w.heap[b]?=some (.cells cur e (0,0))→(w.setCells b o vs).heap[b]?=some (.cells (wr cur o vs) e (0,0))
  | [],_,_,_,_,h=>h
  | v :: r,o,w,cur,e,h=>by
    rw [World.setCells,wr]
    refine heap_setCells b r (o + 1) _ _ e ?_
    simp [World.setCell,Array.getElem?_modify,h]
def Row (e:TypeId) (z g n cap:Nat) (xs:List Value) (w:World):Prop:=
  ∃ cur,w.heap[g]?=some (.cells cur e (0,0))∧n≤cap∧cap≤maxLen∧cur.size=cap * z∧xs.length=n * z∧∀ j,j < n * z→cur[j]?=xs[j]?
section
variable {e:TypeId} {z g n cap:Nat} {xs:List Value} {w:World}
theorem Row.lt (h:Row e z g n cap xs w):g < w.heap.size:=by obtain ⟨cur,h,_⟩:=h;exact lt_of_block h
theorem Row.len (h:Row e z g n cap xs w):xs.length=n * z:=by obtain ⟨cur,h,_,_,_,hl,_⟩:=h;exact hl
theorem Row.cap_le (h:Row e z g n cap xs w):n≤cap∧cap≤maxLen:=by obtain ⟨cur,h,h1,h2,_⟩:=h;exact ⟨h1,h2⟩
theorem Row.cell (h:Row e z g n cap xs w) {j:Nat} {x:Value} (hj:xs[j]?=some x):w.cell? ⟨g,j,none⟩=some x:=by
  have hl:j < xs.length:=(List.getElem?_eq_some_iff.1 hj).1
  obtain ⟨cur,h,_,_,_,hn,ht⟩:=h
  simp only [World.cell?,h]
  rw [ht j (by omega)];exact hj
theorem Row.there (h:Row e z g n cap xs w) {j:Nat} (hj:j < cap * z):(w.cell? ⟨g,j,none⟩).isSome=true:=by
  obtain ⟨cur,h,_,_,hs,hn,ht⟩:=h
  simp only [World.cell?,h]
  rw [Array.getElem?_eq_getElem (by omega)];rfl
theorem Row.free (h:Row e z g n cap xs w) (j:Nat):w.frozen? ⟨g,j,none⟩=false:=by obtain ⟨cur,h,_⟩:=h;simp [World.frozen?,h]
theorem Row.oth (h:Row e z g n cap xs w) {w':World} {S:List Nat} (ho:Oth S w w') (hg:g∉S):Row e z g n cap xs w':=by
  obtain ⟨cur,h,r⟩:=h
  exact ⟨cur,ho.heap h hg,r⟩
theorem Row.drew (h:Row e z g n cap xs w):Row e z g n cap xs w.drew:=h
theorem Row.owns (h:Row e z g n cap xs w):w.ownsRow 0 e z (.slice (some ⟨g,0,none⟩) n cap) n xs:=by
  obtain ⟨cur,h,h1,h2,h3,h4,h5⟩:=h
  refine ⟨h4,Or.inr ⟨g,cap,cur,rfl,Nat.zero_le _,h,h1,h2,h3,?_⟩⟩
  apply List.ext_getElem?
  intro j
  rw [List.getElem?_take]
  by_cases hj:j < n * z
  · rw [if_pos hj,Array.getElem?_toList,h5 j hj]
  · rw [if_neg hj,List.getElem?_eq_none (by omega)]
end
theorem row_of_owns {w:World} {B:Nat} {e:TypeId} {z n:Nat} {v:Value} {xs:List Value} (h:w.ownsRow B e z v n xs) (h0:0 < n) :
    ∃ g cap,v = .slice (some ⟨g,0,none⟩) n cap∧B≤g∧Row e z g n cap xs w:=by
  obtain ⟨hl,⟨_,h⟩ | ⟨g,cap,cur,rfl,hg,hcur,hcap,hmx,hsc,htk⟩⟩:=h
  · omega
  · refine ⟨g,cap,rfl,hg,⟨cur,hcur,hcap,hmx,hsc,hl,fun j hj=>?_⟩⟩
    rw [← htk,List.getElem?_take,if_pos hj,Array.getElem?_toList]
theorem run_copy_cellsZ {P:Program} (w:World) (dT sT ty elem:TypeId) (z b o dLen dCap:Nat) (a:Addr) (sLen sCap:Nat) (cs:List Value)
    (hu:P.underlying dT=some (.slice elem)) (hs:(P.info? elem).map (·.size)=some z) (hn:cs.length=Nat.min sLen dLen * z)
    (hsrc:∀ j v,cs[j]?=some v→w.cell? (a.add j)=some v) (hc:∀ j,j < cs.length→(w.cell? ⟨b,o + j,none⟩).isSome=true) (hf:∀ j,j < cs.length→w.frozen? ⟨b,o + j,none⟩=false) (h1:∀ v∈cs,v.oneCell'=true) :
    (Builtin.copy_ #[dT,sT] ty #[.slice (some ⟨b,o,none⟩) dLen dCap,.slice (some a) sLen sCap]).run P w = .ok (goInt (Nat.min sLen dLen)) (w.setCells b o cs):=by
  have hl:=run_loadCells_list (P:=P) w a cs hsrc
  have hst:=run_storeCells_cells (P:=P) b o cs 0 w (by simpa using hc) (by simpa using hf) h1
  cases hq:P.info? elem with
  | none=>simp [hq] at hs
  | some i=>
    have hi:i.size=z:=by simpa [hq] using hs
    simp [Builtin.copy_,run_underlying hu,Builtin.lenOf,Builtin.firstCells,sizeOf,typeInfo,hq,hi,← hn,hl,hst]
theorem step_copy_runI {P:Program} {ops:Array Oper} {o:Oper} {a:Act} {w:World} {K:Act→World→Prop} {Q:Exit→Act→World→Prop} {E:Prop}
    (hg:o.guard=none) (d x:Operand) (dT sT:TypeId) (hop:o.op=Op.call { callee:=Callee.builtin Builtin.copy,args:=#[d,x],argTypes:=#[dT,sT] })
    (v u:Value) (hd:a.eval d=v) (hx:a.eval x=u) {v':Value} {w':World} (hr:(Builtin.copy_ #[dT,sT] o.type #[v,u]).run P w = .ok v' w') (hK:K (a.put o.dst v') w') :
    if Region.wanted o (yielded ops a.tmps)=true then Oper.wp P o a w K Q else E:=by
  have hw:Region.wanted o (yielded ops a.tmps)=true:=by simp [Region.wanted,hg]
  rw [if_pos hw]
  unfold Oper.wp
  simp [execOp,hop,resolve,invoke,builtin,hd,hx,hr,Result.andThen]
  exact hK
def insAt (xs:List Value) (k:Nat) (a b c:Value):List Value:=xs.take k ++ a :: b :: c :: xs.drop k
theorem insAt_get (xs:List Value) (k:Nat) (a b c:Value) (j:Nat) (hk:k≤xs.length):(insAt xs k a b c)[j]?=if j < k then xs[j]? else if j=k then some a else if j=k + 1 then some b else if j=k + 2 then some c else xs[j - 3]?:=by
  unfold insAt
  have hl:(xs.take k).length=k:=by simp;omega
  by_cases h1:j < k
  · rw [if_pos h1,List.getElem?_append_left (by omega),List.getElem?_take,if_pos h1]
  · rw [if_neg h1,List.getElem?_append_right (by omega),hl]
    by_cases h2:j=k
    · subst h2;simp
    · rw [if_neg h2]
      by_cases h3:j=k + 1
      · subst h3;rw [if_pos rfl,show k + 1 - k=1 by omega];rfl
      · rw [if_neg h3]
        by_cases h4:j=k + 2
        · subst h4;rw [if_pos rfl,show k + 2 - k=2 by omega];rfl
        · rw [if_neg h4]
          obtain ⟨m,rfl⟩:∃ m,j=k + 3 + m:=⟨j - (k + 3),by omega⟩
          rw [show k + 3 + m - k=m + 3 by omega,show k + 3 + m - 3=k + m by omega]
          simp
theorem insAt_length (xs:List Value) (k:Nat) (a b c:Value) (hk:k≤xs.length):(insAt xs k a b c).length=xs.length + 3:=by
  unfold insAt;simp;omega
theorem row_shift {e:TypeId} {g n cap i:Nat} {xs:List Value} {w:World} (a b c:Value) (h:Row e 3 g n cap xs w) (hi:i≤n) (hc:n + 1≤cap) :
    Row e 3 g (n + 1) cap (insAt xs (i * 3) a b c) ((w.drew.setCells g ((i + 1) * 3) (xs.drop (i * 3))).setCells g (i * 3) [a,b,c]):=by
  have hl:=h.len
  obtain ⟨cur,hh,h1,h2,h3,h4,h5⟩:=h
  refine ⟨_,heap_setCells g _ _ _ _ e (heap_setCells g _ _ w.drew cur e hh),hc,h2,by rw [wr_size,wr_size];exact h3,by rw [insAt_length _ _ _ _ _ (by omega)];omega,fun j hj=>?_⟩
  rw [insAt_get _ _ _ _ _ _ (by omega),wr_get _ _ _ _ (by rw [wr_size];simp;omega),wr_get _ _ _ _ (by simp;omega)]
  simp only [List.length_cons,List.length_nil,List.length_drop,List.getElem?_drop]
  by_cases c1:j < i * 3
  · rw [if_neg (by omega),if_neg (by omega),if_pos c1];exact h5 j (by omega)
  · rw [if_neg c1]
    by_cases c2:j=i * 3
    · subst c2;rw [if_pos (by omega)];simp
    · rw [if_neg c2]
      by_cases c3:j=i * 3 + 1
      · subst c3;rw [if_pos (by omega)];simp
      · rw [if_neg c3]
        by_cases c4:j=i * 3 + 2
        · subst c4;rw [if_pos (by omega)];simp
        · rw [if_neg c4,if_neg (by omega),if_pos (by omega)];congr 1;omega
theorem row_fresh {e:TypeId} {n G i:Nat} {xs:List Value} {w:World} (a b c:Value) (ROW:Array Value) (hl:xs.length=n * 3) (hi:i≤n) (hc:n + 1≤G) (hG:G≤maxLen) (hs:ROW.size=G * 3) (hR:∀ j,j < i * 3→ROW[j]?=xs[j]?) :
    Row e 3 w.heap.size (n + 1) G (insAt xs (i * 3) a b c) ((((w.alloc (.cells ROW e)).drew.setCells w.heap.size (i * 3) [a,b,c]).drew).setCells w.heap.size ((i + 1) * 3) (xs.drop (i * 3))):=by
  have hh:((w.alloc (.cells ROW e)).drew).heap[w.heap.size]?=some (.cells ROW e (0,0)):=heap_alloc_new w _
  refine ⟨_,heap_setCells w.heap.size _ _ _ _ e (show (((w.alloc (.cells ROW e)).drew.setCells w.heap.size (i * 3) [a,b,c]).drew).heap[w.heap.size]?=_ from heap_setCells w.heap.size _ _ _ _ e hh),hc,hG,by rw [wr_size,wr_size];exact hs,by rw [insAt_length _ _ _ _ _ (by omega)];omega,fun j hj=>?_⟩
  rw [insAt_get _ _ _ _ _ _ (by omega),wr_get _ _ _ _ (by rw [wr_size];simp;omega),wr_get _ _ _ _ (by simp;omega)]
  simp only [List.length_cons,List.length_nil,List.length_drop,List.getElem?_drop]
  by_cases c1:j < i * 3
  · rw [if_neg (by omega),if_neg (by omega),if_pos c1];exact hR j (by omega)
  · rw [if_neg c1]
    by_cases c2:j=i * 3
    · subst c2;rw [if_neg (by omega),if_pos (by omega)];simp
    · rw [if_neg c2]
      by_cases c3:j=i * 3 + 1
      · subst c3;rw [if_neg (by omega),if_pos (by omega)];simp
      · rw [if_neg c3]
        by_cases c4:j=i * 3 + 2
        · subst c4;rw [if_neg (by omega),if_pos (by omega)];simp
        · rw [if_neg c4,if_pos (by omega)];congr 1;omega
theorem Row.set {e:TypeId} {z g n cap:Nat} {xs:List Value} {w:World} (h:Row e z g n cap xs w) (j:Nat) (u:Value):Row e z g n cap (xs.set j u) (w.setCell ⟨g,j,none⟩ u):=by
  obtain ⟨cur,hh,h1,h2,h3,h4,h5⟩:=h
  refine ⟨cur.setIfInBounds j u,by simp [World.setCell,Array.getElem?_modify,hh],h1,h2,by simpa using h3,by simpa using h4,fun i hi=>?_⟩
  rw [Array.getElem?_setIfInBounds,List.getElem?_set]
  have:=h5 i hi
  by_cases e:j=i
  · subst e
    have hc:j < cur.size:=by rw [h3];exact Nat.lt_of_lt_of_le hi (Nat.mul_le_mul_right _ h1)
    simp [hc,h4,hi]
  · simp [e,this]
theorem one_set0 {w:World} {p:Nat} {x u:Value} {t:TypeId} (h:w.heap[p]?=some (.cells #[x] t (0,0))):(w.setCell ⟨p,0,none⟩ u).heap[p]?=some (.cells #[u] t (0,0)):=by
  simp [World.setCell,Array.getElem?_modify,h]
end Go.Proofs.YtnpdcjdmbkcpbaaGreat.Ins
namespace Go.Proofs.YtnpdcjdmbkcpbaaGreat.Ins
open Go.RowKit
def Ints (g:Nat) (xs:List Nat) (w:World):Prop:=∀ (i x:Nat),xs[i]?=some x→w.cell? ⟨g,i,none⟩=some (.int .i64 x)
theorem Ints.oth {g:Nat} {xs:List Nat} {w w':World} {S:List Nat} (h:Ints g xs w) (ho:Oth S w w') (hg:g∉S):Ints g xs w':=fun i x hx=>ho.cell (h i x hx) hg
theorem Ints.at_ {g:Nat} {xs:List Nat} {w:World} (h:Ints g xs w) {i:Nat} (hi:i < xs.length):w.cell? ⟨g,i,none⟩=some (.int .i64 (xs.getD i 0)):=by
  refine h i _ ?_
  rw [List.getElem?_eq_getElem hi,List.getD_eq_getElem?_getD,List.getElem?_eq_getElem hi];rfl
section
variable {w:World} {g1 c1 n1:Nat} {v2:Value}
set_option maxHeartbeats 400000 in
theorem kept_zero:Calls Tryz.prog 75 #[.agg #[.slice (some ⟨g1,0,none⟩) n1 c1,v2],.int .i64 0] w fun e w'=>e = .returned (.int .i64 0)∧Oth [] w w':=by
  go_enter Tryz.func75,Tryz.ntmps75
  go_wp2
  go_ret
  exact ⟨rfl,(Oth.refl _ _).alloc _⟩
set_option maxHeartbeats 400000 in
theorem kept_pos {l x:Nat} (h0:l≠0) (hl:l < n1) (hc:w.cell? ⟨g1,l,none⟩=some (.int .i64 x)):Calls Tryz.prog 75 #[.agg #[.slice (some ⟨g1,0,none⟩) n1 c1,v2],.int .i64 l] w fun e w'=>e = .returned (.int .i64 x)∧Oth [] w w':=by
  have hlt:=World.block_lt_of_cell? w _ hc
  have t1:(l:Int)≠0:=by omega
  have t2:(l:Int) < n1:=by omega
  go_enter Tryz.func75,Tryz.ntmps75
  go_wp2
  go_ret
  exact ⟨rfl,(Oth.refl _ _).alloc _⟩
theorem box2_keep {w w':World} {a b c d:Value} {t1 t2:TypeId} (h:Oth [] ((w.alloc (.cells #[a,b] t1)).alloc (.cells #[c,d] t2)) w') :
    w'.cell? ⟨w.heap.size,0,none⟩=some a∧w'.cell? ⟨w.heap.size,1,none⟩=some b∧w'.cell? ⟨w.heap.size + 1,0,none⟩=some c∧w'.cell? ⟨w.heap.size + 1,1,none⟩=some d∧∀ p x,w.cell? p=some x→w'.cell? p=some x:=by
  have h1:((w.alloc (.cells #[a,b] t1)).alloc (.cells #[c,d] t2)).heap[w.heap.size]?=some (.cells #[a,b] t1):=by
    rw [Below.heap_alloc _ _ _ (by simp)];exact heap_alloc_new w _
  have h2:((w.alloc (.cells #[a,b] t1)).alloc (.cells #[c,d] t2)).heap[w.heap.size + 1]?=some (.cells #[c,d] t2):=by
    have:=heap_alloc_new (w.alloc (.cells #[a,b] t1)) (.cells #[c,d] t2);simpa using this
  have k1:=h.heap h1 (by simp)
  have k2:=h.heap h2 (by simp)
  refine ⟨?_,?_,?_,?_,fun p x hx=>?_⟩
  · simp [World.cell?,k1]
  · simp [World.cell?,k1]
  · simp [World.cell?,k2]
  · simp [World.cell?,k2]
  · exact h.cell ((((Oth.refl [] _).alloc _).alloc _).cell hx (by simp)) (by simp)
theorem bx2 {w w':World} {a b c d x:Value} {t1 t2:TypeId} {p:Addr} (h:Oth [] ((w.alloc (.cells #[a,b] t1)).alloc (.cells #[c,d] t2)) w') (hx:w.cell? p=some x) :
    Oth [] w w'∧w'.cell? p=some x∧w'.cell? ⟨w.heap.size,0,none⟩=some a∧w'.cell? ⟨w.heap.size,1,none⟩=some b∧w'.cell? ⟨w.heap.size + 1,0,none⟩=some c∧w'.cell? ⟨w.heap.size + 1,1,none⟩=some d:=by
  obtain ⟨k1,k2,k3,k4,k5⟩:=box2_keep h
  exact ⟨(((Oth.refl _ _).alloc _).alloc _).trans h (Fr.nil _ _),k5 _ _ hx,k1,k2,k3,k4⟩
set_option maxHeartbeats 1000000 in
theorem single_zero {r x:Nat} (hr:r < n1) (hx:x≤1000000000) (hc:w.cell? ⟨g1,r,none⟩=some (.int .i64 x)):Calls Tryz.prog 76 #[.agg #[.slice (some ⟨g1,0,none⟩) n1 c1,v2],.agg #[.int .i64 0,.int .i64 r]] w fun e w'=>e = .returned (.int .i64 x)∧Oth [] w w':=by
  have hlt:=World.block_lt_of_cell? w _ hc
  have t2:(r:Int) < n1:=by omega
  have HC:=Lib.hid hc
  have ew:IntKind.i64.wrap (x:Int)=x:=IntWalk.i64_in _ (by omega)
  clear hc
  go_enter Tryz.func76,Tryz.ntmps76
  go_wp2_with fail
  go_region_held3 (fun w'=>Oth [] w w'∧w'.cell? ⟨g1,r,none⟩=some (.int .i64 x)∧w'.cell? ⟨w.heap.size,0,none⟩=some (.slice (some ⟨g1,0,none⟩) n1 c1)∧w'.cell? ⟨w.heap.size,1,none⟩=some v2∧w'.cell? ⟨w.heap.size + 1,0,none⟩=some (.int .i64 0)∧w'.cell? ⟨w.heap.size + 1,1,none⟩=some (.int .i64 r)) (first | exact bx2 (Oth.refl _ _).drew HC.out | exact bx2 ((Oth.refl _ _).drew.trans ho (Fr.nil _ _)) HC.out) (first | (go_at_call 75;refine kept_zero.mono ?_;rintro e w' ⟨rfl,ho⟩))
  go_wp2
  go_ret
  rename_i hh
  exact ⟨by go_num,hh.1⟩
set_option maxHeartbeats 1000000 in
theorem single_pos {l r x y:Nat} (h0:l≠0) (hl:l < n1) (hr:r < n1) (hx:x≤1000000000) (hy:y≤1000000000) (hc:w.cell? ⟨g1,r,none⟩=some (.int .i64 x)) (hd:w.cell? ⟨g1,l,none⟩=some (.int .i64 y)):Calls Tryz.prog 76 #[.agg #[.slice (some ⟨g1,0,none⟩) n1 c1,v2],.agg #[.int .i64 l,.int .i64 r]] w fun e w'=>e = .returned (.int .i64 (x + y))∧Oth [] w w':=by
  have hlt:=World.block_lt_of_cell? w _ hc
  have t2:(r:Int) < n1:=by omega
  have HC:=Lib.hid hc
  have HK:Hid (∀ w',Oth [] w w'→Calls Tryz.prog 75 #[.agg #[.slice (some ⟨g1,0,none⟩) n1 c1,v2],.int .i64 l] w' fun e w2=>e = .returned (.int .i64 y)∧Oth [] w' w2):=fun w' ho=>kept_pos h0 hl (ho.cell hd (by simp))
  have ew:IntKind.i64.wrap ((x:Int) + (y:Int))=(x:Int) + (y:Int):=IntWalk.i64_in _ (by omega)
  clear hc hd
  go_enter Tryz.func76,Tryz.ntmps76
  go_wp2_with fail
  go_region_held3 (fun w'=>Oth [] w w'∧w'.cell? ⟨g1,r,none⟩=some (.int .i64 x)∧w'.cell? ⟨w.heap.size,0,none⟩=some (.slice (some ⟨g1,0,none⟩) n1 c1)∧w'.cell? ⟨w.heap.size,1,none⟩=some v2∧w'.cell? ⟨w.heap.size + 1,0,none⟩=some (.int .i64 l)∧w'.cell? ⟨w.heap.size + 1,1,none⟩=some (.int .i64 r)) (first | exact bx2 (Oth.refl _ _).drew HC.out | exact bx2 ((Oth.refl _ _).drew.trans ho (Fr.nil _ _)) HC.out) (first | (go_at_call 75;refine (HK.out _ (((Oth.refl _ _).alloc _).alloc _).drew).mono ?_;rintro e w' ⟨rfl,ho⟩))
  go_wp2
  go_ret
  rename_i hh
  exact ⟨by go_num,hh.1⟩
set_option maxHeartbeats 1000000 in
theorem step_any {n2 c2 l r k x y z:Nat} {g2:Nat} (hb:n1≤1000000000) (hk:l < k) (hkr:k < r) (hr:r < n1) (hx:x≤1000000000) (hy:y≤1000000000) (hz:z≤1000000000)
    (hc:w.cell? ⟨g1,k,none⟩=some (.int .i64 x)) (hd:w.cell? ⟨g1,k - 1,none⟩=some (.int .i64 y)) (he:w.cell? ⟨g1,r,none⟩=some (.int .i64 z)) :
    Calls Tryz.prog 78 #[.agg #[.slice (some ⟨g1,0,none⟩) n1 c1,.slice (some ⟨g2,0,none⟩) n2 c2],.agg #[.int .i64 l,.int .i64 r],.int .i64 k] w fun e w'=>e = .returned (.int .i64 ((x + (if k - 1=l then 0 else y) + (if r=n2 then 0 else z):Nat):Int))∧Oth [] w w':=by
  have hlt:=World.block_lt_of_cell? w _ hc
  obtain ⟨j,rfl⟩:∃ j,k=j + 1:=⟨k - 1,by omega⟩
  rw [Nat.add_sub_cancel] at hd ⊢
  have t1:((j + 1:Nat):Int) - 1=(j:Int):=by omega
  have t2:(r:Int) < n1:=by omega
  have t3:(j:Int) + 1 < n1:=by omega
  have t4:(j:Int) + 1 - 1=(j:Int):=by omega
  by_cases h1:j=l
  · obtain rfl:=h1
    rw [if_pos rfl]
    by_cases h2:r=n2
    · obtain rfl:=h2
      rw [if_pos rfl]
      go_enter Tryz.func78,Tryz.ntmps78
      go_wp2
      go_ret
      exact ⟨by go_num,((Oth.refl _ _).alloc _).alloc _⟩
    · have u2:¬ (r:Int)=n2:=by omega
      rw [if_neg h2]
      clear h2
      go_enter Tryz.func78,Tryz.ntmps78
      go_wp2
      go_ret
      exact ⟨by go_num,((Oth.refl _ _).alloc _).alloc _⟩
  · have u1:¬ (j:Int)=l:=by omega
    rw [if_neg h1]
    clear h1
    by_cases h2:r=n2
    · obtain rfl:=h2
      rw [if_pos rfl]
      go_enter Tryz.func78,Tryz.ntmps78
      go_wp2
      go_ret
      exact ⟨by go_num,((Oth.refl _ _).alloc _).alloc _⟩
    · have u2:¬ (r:Int)=n2:=by omega
      rw [if_neg h2]
      clear h2
      go_enter Tryz.func78,Tryz.ntmps78
      go_wp2
      go_ret
      exact ⟨by go_num,((Oth.refl _ _).alloc _).alloc _⟩
def Sol (p g1 c1 n1 g2 c2 n2 n cap mb:Nat) (w:World):Prop:=
  w.heap[p]?=some (.cells #[.slice (some ⟨g1,0,none⟩) n1 c1,.slice (some ⟨g2,0,none⟩) n2 c2,.int .i64 n,.int .i64 cap,.map (some mb)] 101 (0,0))
theorem Sol.at_ {p g1 c1 n1 g2 c2 n2 n cap mb:Nat} {w:World} (h:Sol p g1 c1 n1 g2 c2 n2 n cap mb w) :
    w.cell? ⟨p,0,none⟩=some (.slice (some ⟨g1,0,none⟩) n1 c1)∧w.cell? ⟨p,1,none⟩=some (.slice (some ⟨g2,0,none⟩) n2 c2)∧w.cell? ⟨p,2,none⟩=some (.int .i64 n)∧w.cell? ⟨p,3,none⟩=some (.int .i64 cap)∧w.cell? ⟨p,4,none⟩=some (.map (some mb)):=by
  unfold Sol at h
  simp [World.cell?,h]
theorem Sol.oth {p g1 c1 n1 g2 c2 n2 n cap mb:Nat} {w w':World} {S:List Nat} (h:Sol p g1 c1 n1 g2 c2 n2 n cap mb w) (ho:Oth S w w') (hp:p∉S):Sol p g1 c1 n1 g2 c2 n2 n cap mb w':=ho.heap h hp
set_option maxHeartbeats 1000000 in
theorem own_yes {p g2 c2 n2 n cap mb l r x:Nat} (h:Sol p g1 c1 n1 g2 c2 n2 n cap mb w) (hb:n2≤1000000000) (hr:r + 1=n) (hn:n≤n2) (hc:w.cell? ⟨g2,r,none⟩=some (.int .i64 x)) :
    Calls Tryz.prog 77 #[.pointer (some ⟨p,0,none⟩),.agg #[.int .i64 l,.int .i64 n]] w fun e w'=>e = .returned (.int .i64 x)∧Oth [] w w':=by
  obtain ⟨s0,s1,s2,s3,s4⟩:=h.at_
  have hlt:=World.block_lt_of_cell? w _ hc
  have hlp:=World.block_lt_of_cell? w _ s0
  have t1:(n:Int) - 1=(r:Int):=by omega
  have t2:(r:Int) < n2:=by omega
  have t3:IntKind.i64.wrap (r:Int)=(r:Int):=IntWalk.i64_in _ (by omega)
  clear h
  go_enter Tryz.func77,Tryz.ntmps77
  go_wp2_with fail
  go_quiet (fail)
  go_wp2_with fail
  go_quiet (fail)
  go_wp2
  go_ret
  exact ⟨rfl,by first | exact (((Oth.refl _ _).alloc _).drewN _).drewN _ | exact ((Oth.refl _ _).alloc _).drewN _⟩
set_option maxHeartbeats 1000000 in
theorem own_no {p g2 c2 n2 n cap mb l r:Nat} (h:Sol p g1 c1 n1 g2 c2 n2 n cap mb w) (hr:r≠n) :
    Calls Tryz.prog 77 #[.pointer (some ⟨p,0,none⟩),.agg #[.int .i64 l,.int .i64 r]] w fun e w'=>e = .returned (.int .i64 0)∧Oth [] w w':=by
  obtain ⟨s0,s1,s2,s3,s4⟩:=h.at_
  have hlp:=World.block_lt_of_cell? w _ s0
  have t1:¬ (r:Int)=n:=by omega
  clear h
  go_enter Tryz.func77,Tryz.ntmps77
  go_wp2_with fail
  go_quiet (fail)
  go_wp2
  go_ret
  exact ⟨rfl,by first | exact (((Oth.refl _ _).alloc _).drewN _).drewN _ | exact ((Oth.refl _ _).alloc _).drewN _⟩
end
end Go.Proofs.YtnpdcjdmbkcpbaaGreat.Ins
namespace Go.Proofs.YtnpdcjdmbkcpbaaGreat.Ins
open Go.RowKit
set_option maxRecDepth 100000
open Go.ChangeMaps (setBlock heap_setBlock_same heap_setBlock_other)
open Go.WideElems (Fit)
theorem laid:laidOutB Tryz.prog=true:=by kernel_rfl
theorem r103:(103:TypeId) < Tryz.prog.types.size:=of_decide_eq_true (by kernel_rfl)
theorem wide103:(match Tryz.prog.underlying 103 with | some (.array _ _) | some (.struct _)=>true | _=>false)=true:=by rw [Tryz.underlying103]
theorem law103:WideMaps.KeyLaw Tryz.prog 103:=deep_law_laid laid (m:=2) (by omega) r103 (by kernel_rfl) wide103
theorem keyed103:Maps.Keyed Tryz.prog 103:=Maps.Keyed.of_law law103
theorem cells103:Tryz.prog.cellsOf 103=2:=by kernel_rfl
theorem cells3:Tryz.prog.cellsOf 3=1:=by kernel_rfl
theorem formed103 {c0 c1:Value}:(Value.agg #[c0,c1]).formed Tryz.prog 103=true:=by simp [Value.formed,Tryz.underlying103,cells103]
theorem kt103:Tryz.prog.keyType 103=true:=by kernel_rfl
theorem size_types:∃ d,Tryz.prog.types.size=d + 1:=⟨Tryz.prog.types.size - 1,by have h:103 < Tryz.prog.types.size:=r103;omega⟩
theorem zero97 (w:World):(zeroValue 97).run Tryz.prog w = .ok (.agg #[.slice none 0 0]) w:=by kernel_rfl
theorem wf_small (l:Nat) (hl:l < 1000):(Lit.int .i64 (l:Int)).wf=true:=by
  simp [Lit.wf,IntKind.min,IntKind.max,IntKind.bits,IntKind.signed];omega
theorem lits103 (P:Program) (d:Nat) (l r:Int) (h1:P.underlying 103=some
    (TypeDesc.struct
      #[{ name := "l",type:=3,offset:=0,embedded:=false,tag := "",pkgPath := "athanor/chain",
          byteOffset:=0 },
        { name := "r",type:=3,offset:=1,embedded:=false,tag := "",pkgPath := "athanor/chain",
          byteOffset:=8 }])) (h3:P.underlying 3=some (.int .i64)) (c2:P.cellsOf 103=2) (c1:P.cellsOf 3=1) (w1:(Lit.int .i64 l).wf=true) (w2:(Lit.int .i64 r).wf=true) :
   P.keyLits (d+2) 103 [.int .i64 l,.int .i64 r]=some [.int .i64 l,.int .i64 r]:=by
  simp [Program.keyLits,h1,h3,c1,c2,w1,w2]
theorem key103 (l r:Nat) (hl:l < 1000) (hr:r < 1000):∃ kl,keyOf Tryz.prog 103 (.agg #[.int .i64 l,.int .i64 r])=some kl:=by
  obtain ⟨d,hd⟩:=size_types
  have w1:=wf_small l hl
  have w2:=wf_small r hr
  unfold keyOf
  rw [Tryz.underlying103]
  simp only [formed103,kt103]
  rw [show (Value.agg #[.int .i64 (l:Int),.int .i64 (r:Int)]).cells.toList=[.int .i64 (l:Int),.int .i64 (r:Int)] from rfl,hd,lits103 Tryz.prog d l r Tryz.underlying103 Tryz.underlying3 cells103 cells3 w1 w2]
  exact ⟨_,rfl⟩
structure Par where
  (p g1 c1 g2 c2 mb cap:Nat)
  (ws cs:List Nat)
  V:Nat→Nat→List Nat
def Ent (C:Par) (K:List Nat) (w:World) (e:MapEntry):Prop:=
  ∃ l r g c:Nat,l < r∧r≤C.cs.length∧e.key = .agg #[.int .i64 l,.int .i64 r]∧e.val = .agg #[.slice (some ⟨g,0,none⟩) (C.V l r).length c]∧Ints g (C.V l r) w∧g < w.heap.size∧g∉K
def R0:Value→Option (DataW Unit × List MemPlace):=fun _=>some (.nil,[])
structure Slv (C:Par) (K:List Nat) (w:World):Prop where
  sol:Sol C.p C.g1 C.c1 C.ws.length C.g2 C.c2 C.cs.length C.cs.length C.cap C.mb w
  ws:Ints C.g1 C.ws w
  cs:Ints C.g2 C.cs w
  memo:∃ es clock,w.heap[C.mb]?=some (.map es clock)∧Fit Tryz.prog 103 R0 es clock∧∀ e∈es.toList,Ent C K w e
  base:C.p∈K∧C.g1∈K∧C.g2∈K∧C.mb∈K∧C.mb≠C.p∧C.mb≠C.g1∧C.mb≠C.g2
  old:∀ k,k∈K→k < w.heap.size
theorem Slv.oth {C:Par} {K S:List Nat} {w w':World} (h:Slv C K w) (ho:Oth S w w') (hs:∀ k,k∈S→k∈K∧k≠C.p∧k≠C.g1∧k≠C.g2∧k≠C.mb):Slv C K w':=by
  obtain ⟨b1,b2,b3,b4,b5,b6,b7⟩:=h.base
  obtain ⟨es,clock,hm,hf,he⟩:=h.memo
  refine ⟨h.sol.oth ho fun e=>(hs _ e).2.1 rfl,h.ws.oth ho fun e=>(hs _ e).2.2.1 rfl,h.cs.oth ho fun e=>(hs _ e).2.2.2.1 rfl,⟨es,clock,ho.heap hm fun e=>(hs _ e).2.2.2.2 rfl,hf,?_⟩,h.base,fun k hk=>Nat.lt_of_lt_of_le (h.old k hk) ho.size⟩
  intro e hm
  obtain ⟨l,r,g,c,k1,k2,k3,k4,k5,k6,k7⟩:=he e hm
  exact ⟨l,r,g,c,k1,k2,k3,k4,k5.oth ho fun e=>k7 (hs _ e).1,Nat.lt_of_lt_of_le k6 ho.size,k7⟩
theorem Slv.new {C:Par} {K:List Nat} {w w':World} (h:Slv C K w) (ho:Oth [] w w') (g:Nat) (hg:w.heap.size≤g) (hg2:g < w'.heap.size):Slv C (g :: K) w':=by
  have h2:=h.oth ho (by simp)
  obtain ⟨b1,b2,b3,b4,b5,b6,b7⟩:=h.base
  obtain ⟨es,clock,hm,hf,he⟩:=h.memo
  refine ⟨h2.sol,h2.ws,h2.cs,⟨es,clock,ho.heap hm (by simp),hf,?_⟩,⟨.tail _ b1,.tail _ b2,.tail _ b3,.tail _ b4,b5,b6,b7⟩,?_⟩
  · intro e hm
    obtain ⟨l,r,g',c,k1,k2,k3,k4,k5,k6,k7⟩:=he e hm
    exact ⟨l,r,g',c,k1,k2,k3,k4,k5.oth ho (by simp),Nat.lt_of_lt_of_le k6 ho.size,fun e=>by
      rcases List.mem_cons.1 e with rfl | e
      · omega
      · exact k7 e⟩
  · intro k hk
    rcases List.mem_cons.1 hk with rfl | hk
    · exact hg2
    · exact h2.old k hk
theorem Slv.less {C:Par} {K K':List Nat} {w:World} (h:Slv C K w) (hk:∀ k,k∈K'→k∈K) (h1:C.p∈K') (h2:C.g1∈K') (h3:C.g2∈K') (h4:C.mb∈K'):Slv C K' w:=by
  obtain ⟨b1,b2,b3,b4,b5,b6,b7⟩:=h.base
  obtain ⟨es,clock,hm,hf,he⟩:=h.memo
  refine ⟨h.sol,h.ws,h.cs,⟨es,clock,hm,hf,fun e he'=>?_⟩,⟨h1,h2,h3,h4,b5,b6,b7⟩,fun k hk'=>h.old k (hk k hk')⟩
  obtain ⟨l,r,g',c,k1,k2,k3,k4,k5,k6,k7⟩:=he e he'
  exact ⟨l,r,g',c,k1,k2,k3,k4,k5,k6,fun e=>k7 (hk _ e)⟩
theorem Slv.room {C:Par} {K:List Nat} {w:World} {es:Array MapEntry} {clock:Nat} (hn:C.cs.length < 1000) (hf:Fit Tryz.prog 103 R0 es clock) (he:∀ e∈es.toList,Ent C K w e):es.size < maxLen:=by
  have hd:=hf.stamped.2.2
  have hsub:es.toList.map (·.key) ⊆ (List.range 1000).flatMap fun l=>(List.range 1000).map fun r=>Value.agg #[.int .i64 (l:Nat),.int .i64 (r:Nat)]:=by
    intro k hk
    obtain ⟨e,h1,rfl⟩:=List.mem_map.1 hk
    obtain ⟨l,r,g',c,k1,k2,k3,k4,k5,k6,k7⟩:=he e h1
    refine List.mem_flatMap.2 ⟨l,by simp;omega,List.mem_map.2 ⟨r,by simp;omega,k3.symm⟩⟩
  have:=hd.length_le_of_subset hsub
  have e2:((List.range 1000).flatMap fun l=>(List.range 1000).map fun r=>Value.agg #[.int .i64 (l:Nat),.int .i64 (r:Nat)]).length=1000000:=by
    rw [List.length_flatMap]
    simp only [List.length_map,List.length_range]
    rw [List.map_const',List.length_range,List.sum_replicate_nat]
  rw [e2] at this
  simp at this
  unfold maxLen;omega
theorem Slv.put {C:Par} {K:List Nat} {w:World} (h:Slv C K w) (hn:C.cs.length < 1000) (l r g c:Nat) (hl:l < r) (hr:r≤C.cs.length) (hi:Ints g (C.V l r) w) (hg:g < w.heap.size) (hgK:g∉K) :
    ∃ w',(Instr.mapUpdate 99 (.map (some C.mb)) (.agg #[.int .i64 l,.int .i64 r]) (.agg #[.slice (some ⟨g,0,none⟩) (C.V l r).length c])).run Tryz.prog w = .ok () w'∧Slv C K w'∧Oth [C.mb] w w':=by
  obtain ⟨b1,b2,b3,b4,b5,b6,b7⟩:=h.base
  obtain ⟨es,clock,hm,hf,he⟩:=h.memo
  obtain ⟨kl,hk⟩:=key103 l r (by omega) (by omega)
  obtain ⟨es',clock',hrun,F',_,_,_,hwho⟩:=Maps.fit_store (R':=R0) keyed103 Tryz.underlying99 hm hf (Slv.room hn hf he) (fun _ _ _ _ hz=>hz) hk (val:=.agg #[.slice (some ⟨g,0,none⟩) (C.V l r).length c]) (yv:=(.nil,[])) rfl
  have ho:Oth [C.mb] w (setBlock w C.mb (.map es' clock')):=⟨rfl,rfl,rfl,by simp [setBlock],fun k _ hk=>heap_setBlock_other hm _ (fun e=>hk (by simp [e]))⟩
  have hx:∀ g' xs,Ints g' xs w→g'∉K→Ints g' xs (setBlock w C.mb (.map es' clock')):=fun g' xs hi hk=>hi.oth ho (by simp;intro e;exact hk (e ▸ b4))
  refine ⟨_,hrun,⟨h.sol.oth ho (by simp;exact fun e=>b5 e.symm),h.ws.oth ho (by simp;exact fun e=>b6 e.symm),h.cs.oth ho (by simp;exact fun e=>b7 e.symm),⟨es',clock',heap_setBlock_same hm _,F',?_⟩,h.base,fun k hk=>Nat.lt_of_lt_of_le (h.old k hk) ho.size⟩,ho⟩
  intro e hm'
  rcases hwho e hm' with ⟨h1,_⟩ | ⟨h1,h2⟩
  · obtain ⟨l',r',g',c',k1,k2,k3,k4,k5,k6,k7⟩:=he e h1
    exact ⟨l',r',g',c',k1,k2,k3,k4,hx _ _ k5 k7,Nat.lt_of_lt_of_le k6 ho.size,k7⟩
  · exact ⟨l,r,g,c,hl,hr,h1,h2,hx _ _ hi hgK,Nat.lt_of_lt_of_le hg ho.size,hgK⟩
end Go.Proofs.YtnpdcjdmbkcpbaaGreat.Ins
namespace Go.Proofs.YtnpdcjdmbkcpbaaGreat.Ins
open Go.RowKit
def kp (ws:List Nat) (l:Nat):Nat:=if l=0 then 0 else ws.getD l 0
structure Good (C:Par):Prop where
  n1:C.ws.length=C.cs.length + 1
  n2:1≤C.cs.length∧C.cs.length≤64
  wb:∀ i,i < C.ws.length→1≤C.ws.getD i 0∧C.ws.getD i 0≤65536
  cb:∀ i,i < C.cs.length→C.cs.getD i 0≤1099511627776
  cap:C.cap≤10000000
  vl:∀ l r,l < r→r≤C.cs.length→(C.V l r).length=C.cap + 1 - kp C.ws l
  vb:∀ l r i,(C.V l r).getD i 0≤1152921504606846976
def VS (C:Par) (l r:Nat):Prop:=∀ K w,Slv C K w→Calls Tryz.prog 31 #[.pointer (some ⟨C.p,0,none⟩),.agg #[.int .i64 l,.int .i64 r]] w fun e w'=>
  ∃ g c:Nat,e = .returned (.agg #[.slice (some ⟨g,0,none⟩) (C.V l r).length c])∧Slv C K w'∧Oth [C.mb] w w'∧Ints g (C.V l r) w'∧g < w'.heap.size∧g∉K
def iv (xs:List Nat):List Value:=xs.map fun (x:Nat)=>.int .i64 (x:Int)
def sp1 (xs R L:List Nat) (need cost wk i:Nat):Nat:=if need≤i then min (xs.getD i 0) (cost + R.getD (i - wk) 0 + L.getD i 0) else xs.getD i 0
def spm (xs R L:List Nat) (need cost wk m:Nat):List Nat:=(List.range xs.length).map fun i=>if i < m then sp1 xs R L need cost wk i else xs.getD i 0
theorem iv_get (xs:List Nat) (i:Nat) (hi:i < xs.length):(iv xs)[i]?=some (.int .i64 (xs.getD i 0)):=by
  simp [iv,List.getD_eq_getElem?_getD,List.getElem?_eq_getElem hi]
theorem spm_length (xs R L:List Nat) (need cost wk m:Nat):(spm xs R L need cost wk m).length=xs.length:=by simp [spm]
theorem spm_getD (xs R L:List Nat) (need cost wk m i:Nat) (hi:i < xs.length):(spm xs R L need cost wk m).getD i 0=if i < m then sp1 xs R L need cost wk i else xs.getD i 0:=by
  simp [spm,List.getD_eq_getElem?_getD,hi]
theorem spm_need (xs R L:List Nat) (need cost wk:Nat):spm xs R L need cost wk need=xs:=by
  apply List.ext_getElem
  · simp [spm]
  · intro i h1 h2
    simp only [spm,List.getElem_map,List.getElem_range,sp1]
    split
    · rw [if_neg (by omega)];simp [List.getD_eq_getElem?_getD,List.getElem?_eq_getElem h2]
    · simp [List.getD_eq_getElem?_getD,List.getElem?_eq_getElem h2]
theorem spm_next (xs R L:List Nat) (need cost wk m:Nat) (h1:need≤m) (h2:m < xs.length) (u:Nat) (hu:u=min (xs.getD m 0) (cost + R.getD (m - wk) 0 + L.getD m 0)):(iv (spm xs R L need cost wk m)).set m (.int .i64 (u:Int))=iv (spm xs R L need cost wk (m + 1)):=by
  apply List.ext_getElem
  · simp [spm,iv]
  · intro i h3 h4
    have hi:i < xs.length:=by simpa [spm,iv] using h4
    simp only [iv,spm,List.getElem_set,List.getElem_map,List.getElem_range]
    by_cases e:m=i
    · subst e
      rw [if_pos rfl,if_pos (by omega),sp1,if_pos h1,hu]
    · rw [if_neg e]
      by_cases e2:i < m
      · rw [if_pos e2,if_pos (by omega)]
      · rw [if_neg e2,if_neg (by omega)]
theorem field97 (a:Option Addr) (n c:Nat) (w:World):(Instr.field 97 (.agg #[.slice a n c]) 0).run Tryz.prog w = .ok (.slice a n c) w:=by kernel_rfl
theorem box1_keep {w w':World} {a b:Value} {t1:TypeId} {S:List Nat} (hS:∀ k,k∈S→k < w.heap.size) (h:Oth S (w.alloc (.cells #[a,b] t1)) w') :
    w'.cell? ⟨w.heap.size,0,none⟩=some a∧w'.cell? ⟨w.heap.size,1,none⟩=some b:=by
  have k1:=h.heap (heap_alloc_new w (.cells #[a,b] t1)) (fun e=>absurd (hS _ e) (by omega))
  constructor <;> simp [World.cell?,k1]
section
variable {C:Par} {K:List Nat} {w:World} {gl len cl:Nat} {xs:List Nat}
theorem sp_init {l r:Nat} (hn:C.mb≠gl) (h:Slv C (gl :: K) w) (hr:Row 3 1 gl len cl (iv xs) w) :
    Slv C (gl :: K) (w.alloc (.cells #[.int .i64 l,.int .i64 r] 103)).drew∧Row 3 1 gl len cl (iv xs) (w.alloc (.cells #[.int .i64 l,.int .i64 r] 103)).drew∧Oth [C.mb] w (w.alloc (.cells #[.int .i64 l,.int .i64 r] 103)).drew ∧
      (w.alloc (.cells #[.int .i64 l,.int .i64 r] 103)).drew.cell? ⟨w.heap.size,0,none⟩=some (.int .i64 l)∧(w.alloc (.cells #[.int .i64 l,.int .i64 r] 103)).drew.cell? ⟨w.heap.size,1,none⟩=some (.int .i64 r):=by
  have ho:Oth [] w (w.alloc (.cells #[.int .i64 l,.int .i64 r] 103)).drew:=((Oth.refl _ _).alloc _).drew
  obtain ⟨k1,k2⟩:=box1_keep (w:=w) (a:=.int .i64 l) (b:=.int .i64 r) (t1:=103) (S:=[]) (by simp) (Oth.refl _ _).drew
  exact ⟨h.oth ho (by simp),hr.oth ho (by simp),ho.mono (by simp),k1,k2⟩
theorem sp_keep {l r:Nat} {w1 w2:World} {B:Nat} (hB:B≠C.mb) (hn:C.mb≠gl) (h:Slv C (gl :: K) w1∧Row 3 1 gl len cl (iv xs) w1∧Oth [C.mb] w w1∧w1.cell? ⟨B,0,none⟩=some (.int .i64 l)∧w1.cell? ⟨B,1,none⟩=some (.int .i64 r)) (h1:Slv C (gl :: K) w2) (h2:Oth [C.mb] w1 w2) :
    Slv C (gl :: K) w2∧Row 3 1 gl len cl (iv xs) w2∧Oth [C.mb] w w2∧w2.cell? ⟨B,0,none⟩=some (.int .i64 l)∧w2.cell? ⟨B,1,none⟩=some (.int .i64 r):=by
  obtain ⟨k1,k2,k3,k4,k5⟩:=h
  exact ⟨h1,k2.oth h2 (by simpa using Ne.symm hn),k3.trans h2 (Fr.refl _ _),h2.cell k4 (by simpa using hB),h2.cell k5 (by simpa using hB)⟩
set_option maxRecDepth 100000 in
set_option maxHeartbeats 20000000 in
theorem split_any (hG:Good C) {l r k need cost:Nat} (hl:l < k) (hk:k < r) (hr:r≤C.cs.length) (h1:VS C k r) (h2:VS C l k) (hgl:gl∉K) (hK:C.p∈K∧C.g1∈K∧C.g2∈K∧C.mb∈K)
    (h:Slv C (gl :: K) w) (hrow:Row 3 1 gl len cl (iv xs) w) (hx:∀ i,xs.getD i 0≤1152921504606846976) (hlen:len=(C.V l r).length) (hn:need < len) (hw:C.ws.getD k 0≤need) (hc:cost≤100000000000000) :
    Calls Tryz.prog 79 #[.pointer (some ⟨C.p,0,none⟩),.agg #[.int .i64 l,.int .i64 r],.int .i64 k,.int .i64 need,.int .i64 cost,.slice (some ⟨gl,0,none⟩) len cl] w fun e w'=>
      e = .returned (.tuple #[])∧Slv C (gl :: K) w'∧Oth [C.mb,gl] w w'∧Row 3 1 gl len cl (iv (spm xs (C.V k r) (C.V l k) need cost (C.ws.getD k 0) len)) w':=by
  obtain ⟨hp,hg1,hg2,hmb⟩:=hK
  have n1:C.mb≠gl:=fun e=>hgl (e ▸ hmb)
  have n2:C.p≠gl:=fun e=>hgl (e ▸ hp)
  have n4:C.g2≠gl:=fun e=>hgl (e ▸ hg2)
  have n3:C.g1≠gl:=fun e=>hgl (e ▸ hg1)
  have nB:w.heap.size≠C.mb:=fun e=>by have:=h.old C.mb (.tail _ hmb);omega
  have HV:Hid (∀ a b,(a=k∧b=r)∨(a=l∧b=k)→VS C a b):=fun a b e=>by rcases e with ⟨rfl,rfl⟩ | ⟨rfl,rfl⟩;exact h1;exact h2
  have HS:=Lib.hid (sp_init (l:=l) (r:=r) n1 h hrow)
  have HG:=Lib.hid hG
  have bl:(l:Int) < 1000:=by have:=hG.n2;omega
  have br:(r:Int) < 1000:=by have:=hG.n2;omega
  have bk:(k:Int) < 1000:=by have:=hG.n2;omega
  have HX:=Lib.hid hx
  have HL:=Lib.hid hlen
  have HH:=Lib.hid h
  have hcl:=hrow.cap_le
  have hfd:=field97
  clear h1 h2 h hG hrow hx hlen
  go_enter Tryz.func79,Tryz.ntmps79
  go_wp2_with fail
  go_region_held3 (fun w'=>Slv C (gl :: K) w'∧Row 3 1 gl len cl (iv xs) w'∧Oth [C.mb] w w'∧w'.cell? ⟨w.heap.size,0,none⟩=some (.int .i64 l)∧w'.cell? ⟨w.heap.size,1,none⟩=some (.int .i64 r)) (first | exact HS.out | exact sp_keep nB n1 (by assumption) k1 k2)
    (first | (go_at_call 31;refine (HV.out _ _ (by first | exact .inl ⟨rfl,rfl⟩ | exact .inr ⟨rfl,rfl⟩) (gl :: K) _ (by first | exact k1 | exact HS.out.1)).mono ?_;rintro e w' ⟨gR,cR,rfl,k1,k2,rr1,rr2,rr3⟩))
  rename_i w1 gQ cQ q1 q2 qq1 qq2 qq3 hh
  obtain ⟨_,hrow,ho,_,_⟩:=hh
  have qq:=qq1.oth k2 (by simp;rintro rfl;exact qq3 (.tail _ hmb))
  have hQ:gQ≠gl:=fun e=>qq3 (e ▸ .head _)
  have hR:gR≠gl:=fun e=>rr3 (e ▸ .head _)
  have lR:=HG.out.vl k r hk (by omega)
  have lL:=HG.out.vl l k hl (by omega)
  have lE:=HG.out.vl l r (by omega) (by omega)
  have hlk:(C.V l k).length=len:=by rw [HL.out,lL,lE]
  have hkp:kp C.ws k=C.ws.getD k 0:=by unfold kp;rw [if_neg (by omega)]
  have hxl:xs.length=len:=by have:=hrow.len;simpa [iv] using this
  have hkw:k < C.ws.length:=by rw [HG.out.n1];omega
  obtain ⟨hw1,hw2⟩:=HG.out.wb k hkw
  obtain ⟨wk,hwk⟩:∃ a,a=C.ws.getD k 0:=⟨_,rfl⟩
  rw [← hwk] at hkp hw1 hw2 hw
  rw [hkp] at lR
  have hbig:len≤C.cap + 1:=by rw [HL.out,lE];omega
  have hcap:=HG.out.cap
  rw [hlk]
  obtain ⟨nR,hnR⟩:∃ a,a=(C.V k r).length:=⟨_,rfl⟩
  rw [← hnR] at lR ⊢
  have HREL:Hid (Slv C (gl :: K) w'∧Row 3 1 gl len cl (iv (spm xs (C.V k r) (C.V l k) need cost wk need)) w'∧Oth [C.mb,gl] w w'∧Ints gQ (C.V k r) w'∧Ints gR (C.V l k) w'):=⟨k1,by rw [spm_need];exact hrow,ho.mono (by simp),qq,rr1⟩
  have HWK:=Lib.hid hwk
  have HNR:=Lib.hid hnR
  have HLK:=Lib.hid hlk
  clear q1 q2 qq1 qq2 qq3 rr2 rr3 qq k1 k2 rr1 hrow ho lL lE hkp hwk hnR hlk
  go_wp2_with fail
  go_loopw [14] (fun x wr=>∃ m:Nat,need≤m∧m≤len∧x = .int .i64 m∧Slv C (gl :: K) wr∧Row 3 1 gl len cl (iv (spm xs (C.V k r) (C.V l k) need cost wk m)) wr∧Oth [C.mb,gl] w wr∧Ints gQ (C.V k r) wr∧Ints gR (C.V l k) wr) (fun x _=>len - (intOf x).toNat)
  case atStart=>exact ⟨need,Nat.le_refl _,by omega,rfl,HREL.out⟩
  case round=>
    obtain ⟨m,hm1,hm2,rfl,z1,z2,z3,z4,z5⟩:=hrel
    by_cases hlt:m < len
    · have t1:(m:Int) < (len:Int):=by omega
      obtain ⟨d,rfl⟩:∃ d,m=d + wk:=⟨m - wk,by omega⟩
      have a0:=z1.sol.at_.1
      have a1:=z1.ws.at_ hkw
      rw [← HWK.out] at a1
      have a2:=z2.cell (iv_get _ (d + wk) (by rw [spm_length];omega))
      rw [spm_getD _ _ _ _ _ _ _ _ (by omega),if_neg (by omega)] at a2
      have a3:=z4.at_ (i:=d) (by rw [← HNR.out,lR];omega)
      have a4:=z5.at_ (i:=d + wk) (by rw [HLK.out];omega)
      have fz:=z2.free (d + wk)
      have b1:=HX.out (d + wk)
      have b2:=HG.out.vb k r d
      have b3:=HG.out.vb l k (d + wk)
      obtain ⟨X,hX⟩:∃ a,a=xs.getD (d + wk) 0:=⟨_,rfl⟩
      obtain ⟨Y,hY⟩:∃ a,a=(C.V k r).getD d 0:=⟨_,rfl⟩
      obtain ⟨Z,hZ⟩:∃ a,a=(C.V l k).getD (d + wk) 0:=⟨_,rfl⟩
      rw [← hX] at a2 b1
      rw [← hY] at a3 b2
      rw [← hZ] at a4 b3
      have hres:∀ u:Nat,u=min X (cost + Y + Z)→(iv (spm xs (C.V k r) (C.V l k) need cost wk (d + wk))).set (d + wk) (.int .i64 (u:Int))=iv (spm xs (C.V k r) (C.V l k) need cost wk (d + wk + 1)):=fun u hu=>spm_next _ _ _ _ _ _ _ hm1 (by omega) u (by rw [hu,hX,hY,hZ,Nat.add_sub_cancel])
      have t2:(d:Int) < nR:=by omega
      have t3:(k:Int) < C.ws.length:=by omega
      have e1:IntKind.i64.wrap (d:Int)=d:=IntWalk.i64_in _ (by omega)
      have e2:IntKind.i64.wrap ((cost:Int) + Y)=cost + Y:=IntWalk.i64_in _ (by omega)
      have e3:IntKind.i64.wrap ((cost:Int) + Y + Z)=cost + Y + Z:=IntWalk.i64_in _ (by omega)
      have HRES:=Lib.hid hres
      have HZ:=Lib.hid (And.intro z1 (And.intro z2 (And.intro z3 (And.intro z4 z5))))
      clear hres z1 z2 z3 z4 z5 hX hY hZ
      go_wp2_with fail
      go_region
      have hmin:(if (cost:Int) + Y + Z < X then (cost:Int) + Y + Z else (X:Int))=((min X (cost + Y + Z):Nat):Int):=by split <;> omega
      rw [hmin]
      obtain ⟨z1,z2,z3,z4,z5⟩:=HZ.out
      obtain ⟨U,hU⟩:∃ a,a=min X (cost + Y + Z):=⟨_,rfl⟩
      rw [← hU]
      have ho2:Oth [gl] wr (wr.setCell ⟨gl,d + wk,none⟩ (.int .i64 (U:Int))).drew:=((Oth.refl _ _).setCell (.inl (by simp)) _).drew
      have y1:=z1.oth ho2 (by simp;exact ⟨n2.symm,n3.symm,n4.symm,n1.symm⟩)
      have y2:Row 3 1 gl len cl (iv (spm xs (C.V k r) (C.V l k) need cost wk (d + wk + 1))) (wr.setCell ⟨gl,d + wk,none⟩ (.int .i64 (U:Int))).drew:=by
        rw [← HRES.out U hU];exact z2.set (d + wk) _
      have y3:Oth [C.mb,gl] w (wr.setCell ⟨gl,d + wk,none⟩ (.int .i64 (U:Int))).drew:=z3.trans ho2 (fun k hk=>.inl (by simp at hk;simp [hk]))
      have y4:=z4.oth ho2 (by simpa using hQ)
      have y5:=z5.oth ho2 (by simpa using hR)
      have HY:=Lib.hid (And.intro y1 (And.intro y2 (And.intro y3 (And.intro y4 y5))))
      clear z1 z2 z3 z4 z5 y1 y2 y3 y4 y5 ho2 hmin hU a0 a1 a2 a3 a4
      go_wp2_with fail
      go_roundw
      case rel=>exact ⟨d + wk + 1,by omega,by omega,by go_num,HY.out⟩
      case measure=>simp [intOf];omega
    · obtain rfl:m=len:=by omega
      have t1:¬ (m:Int) < (m:Int):=by omega
      go_wp2_with fail
      go_end0
      rw [HWK.out] at z2
      have e9:C.ws.getD k 0=C.ws[k]:=by simp [List.getD_eq_getElem?_getD,List.getElem?_eq_getElem hkw]
      rw [e9] at z2
      exact ⟨rfl,z1,z3,z2⟩
end
end Go.Proofs.YtnpdcjdmbkcpbaaGreat.Ins
