/- slices.Delete, BinarySearch and Insert at ints, laid from the shelf and told in rows. Plain: the order that net.sorted finds; rows that are owned beside one another. The walk of the law's few. The walks of package safe: Add, Max; of package code: Count. The walk of code.Cost. No condition. -/
import Derived.Test.YtnpdcjdmbkcpbaaGreatXj
import Derived.Shelf.Slices.Delete
import Derived.Shelf.Slices.SearchI
import Derived.Shelf.Spec.SlicesInsert
import Derived.Shelf.Spec.SlicesInsertGrow
import Derived.Ground.Names2Prog
import Derived.Lib.Meet
set_option linter.unusedVariables false
set_option linter.unusedSimpArgs false
namespace Go.Proofs.YtnpdcjdmbkcpbaaGreat.Ins
open Go.Shelf Go.RowKit Go.Lib
def Tryz.lays23_ren:Go.Shelf.Ren:=⟨fun | 23=>108 | n=>n,fun | 22=>22 | 3=>3 | 4=>4 | 0=>0 | n=>n,fun | n=>n⟩
theorem Tryz.lays23:Go.Proofs.Lays2.n23 Tryz.prog Tryz.lays23_ren:={
  mixed:=by kernel_rfl
  f23:=Tryz.func108.trans (congrArg some (by kernel_rfl))
  t0:=Tryz.underlying0
  a0:=Tryz.isAgg0
  z0:=Tryz.sizeOf0
  v0:=Tryz.zeroValue0
  t3:=Tryz.underlying3
  a3:=Tryz.isAgg3
  z3:=Tryz.sizeOf3
  v3:=Tryz.zeroValue3
  t4:=Tryz.underlying4
  a4:=Tryz.isAgg4
  z4:=Tryz.sizeOf4
  v4:=Tryz.zeroValue4
  t22:=Tryz.underlying22
  a22:=Tryz.isAgg22
  z22:=Tryz.sizeOf22
  v22:=Tryz.zeroValue22
  i3:=by kernel_rfl }
def Tryz.lays25_ren:Go.Shelf.Ren:=⟨fun | 25=>109 | 31=>149 | 32=>150 | 37=>193 | n=>n,fun | 22=>22 | 3=>3 | 4=>4 | 40=>148 | 0=>0 | n=>n,fun | n=>n⟩
theorem Tryz.lays25:Go.Proofs.Lays2.n25 Tryz.prog Tryz.lays25_ren:={
  mixed:=by kernel_rfl
  f25:=Tryz.func109.trans (congrArg some (by kernel_rfl))
  f31:=Tryz.func149.trans (congrArg some (by kernel_rfl))
  f32:=Tryz.func150.trans (congrArg some (by kernel_rfl))
  f37:=Tryz.func193.trans (congrArg some (by kernel_rfl))
  t0:=Tryz.underlying0
  a0:=Tryz.isAgg0
  z0:=Tryz.sizeOf0
  v0:=Tryz.zeroValue0
  t3:=Tryz.underlying3
  a3:=Tryz.isAgg3
  z3:=Tryz.sizeOf3
  v3:=Tryz.zeroValue3
  t4:=Tryz.underlying4
  a4:=Tryz.isAgg4
  z4:=Tryz.sizeOf4
  v4:=Tryz.zeroValue4
  t22:=Tryz.underlying22
  a22:=Tryz.isAgg22
  z22:=Tryz.sizeOf22
  v22:=Tryz.zeroValue22
  t40:=Tryz.underlying148
  a40:=Tryz.isAgg148
  z40:=Tryz.sizeOf148
  v40:=Tryz.zeroValue148 }
def Tryz.lays21_ren:Go.Shelf.Ren:=⟨fun | 21=>110 | 27=>151 | 28=>152 | 35=>194 | 39=>239 | n=>n,fun | 22=>22 | 3=>3 | 4=>4 | 0=>0 | n=>n,fun | n=>n⟩
theorem Tryz.lays21:Go.Proofs.Lays2.n21 Tryz.prog Tryz.lays21_ren:={
  mixed:=by kernel_rfl
  f21:=Tryz.func110.trans (congrArg some (by kernel_rfl))
  f27:=Tryz.func151.trans (congrArg some (by kernel_rfl))
  f28:=Tryz.func152.trans (congrArg some (by kernel_rfl))
  f35:=Tryz.func194.trans (congrArg some (by kernel_rfl))
  f39:=Tryz.func239.trans (congrArg some (by kernel_rfl))
  t0:=Tryz.underlying0
  a0:=Tryz.isAgg0
  z0:=Tryz.sizeOf0
  v0:=Tryz.zeroValue0
  t3:=Tryz.underlying3
  a3:=Tryz.isAgg3
  z3:=Tryz.sizeOf3
  v3:=Tryz.zeroValue3
  t4:=Tryz.underlying4
  a4:=Tryz.isAgg4
  z4:=Tryz.sizeOf4
  v4:=Tryz.zeroValue4
  t22:=Tryz.underlying22
  a22:=Tryz.isAgg22
  z22:=Tryz.sizeOf22
  v22:=Tryz.zeroValue22
  i3:=by kernel_rfl }
theorem row1 {cur:Array Value} {g n cap:Nat} {xs:List Value} {w:World} (h:w.heap[g]?=some (.cells cur 3 (0,0))) (h1:n≤cap) (h2:cap≤maxLen) (h3:cur.size=cap) (h4:xs.length=n) (h5:∀ j,j < n→cur[j]?=xs[j]?):Row 3 1 g n cap xs w:=
  ⟨cur,h,h1,h2,by omega,by omega,fun j hj=>h5 j (by omega)⟩
theorem row1_at {g n cap:Nat} {xs:List Value} {w:World} (h:Row 3 1 g n cap xs w):∃ cur,w.heap[g]?=some (.cells cur 3 (0,0))∧n≤cap∧cap≤maxLen∧cur.size=cap∧xs.length=n∧∀ j,j < n→cur[j]?=xs[j]?:=by
  obtain ⟨cur,h1,h2,h3,h4,h5,h6⟩:=h
  exact ⟨cur,h1,h2,h3,by omega,by omega,fun j hj=>h6 j (by omega)⟩
theorem ivl_len (l:List Int):(ivl l).length=l.length:=by simp [ivl]
theorem ivl_one (l:List Int):∀ v∈ivl l,v.oneCell'=true:=by
  intro v hv
  obtain ⟨x,-,rfl⟩:=List.mem_map.1 hv
  rfl
section
variable {w:World}
theorem delete0_any {g cap:Nat} {x:Int} {l:List Int} (hr:Row 3 1 g (l.length + 1) cap (ivl (x :: l)) w) :
    Calls Tryz.prog 108 #[.slice (some ⟨g,0,none⟩) (l.length + 1) cap,.int .i64 0,.int .i64 1] w fun e w'=>e = .returned (.slice (some ⟨g,0,none⟩) l.length cap)∧Row 3 1 g l.length cap (ivl l) w'∧Oth [g] w w':=by
  obtain ⟨cur,h1,h2,h3,h4,h5,h6⟩:=row1_at hr
  have hH:Sort.Holds (Value.int .i64) w g 0 (x :: l).toArray:=by
    intro j hj
    have hj2:j < (x :: l).length:=by simpa using hj
    refine ⟨?_,hr.free _⟩
    rw [Nat.zero_add,getElem!_pos (x :: l).toArray j hj,List.getElem_toArray]
    exact hr.cell (by simp only [ivl];rw [List.getElem?_map,List.getElem?_eq_getElem hj2];rfl)
  refine (Any.slices_Delete_int Tryz.lays23 g 0 cap 0 1 (x :: l) w hH (by simpa using h2) (by unfold maxLen at h3;omega) (by omega) (by simp)).mono ?_
  rintro e w' ⟨rfl,q,rfl⟩
  have hd:(List.take 0 (x :: l) ++ List.drop 1 (x :: l) ++ List.replicate (1 - 0) 0:List Int)=l ++ [0]:=by simp
  rw [hd]
  refine ⟨by simp,?_,?_⟩
  · refine row1 (cur:=Sort.putCells (Value.int .i64) 0 (l ++ [0]).toArray cur) ?_ (by omega) h3 (by simp [Sort.putCells,h4]) (ivl_len l) (fun j hj=>?_)
    · show ((Sort.ahead w q).heap.modify g (Sort.onCells _))[g]?=_
      simp [Sort.ahead,Array.getElem?_modify,h1,Sort.onCells]
    · rw [Sort.putCells,Array.getElem?_mapIdx]
      have h7:=h6 j (by omega)
      rw [List.getElem?_eq_getElem (by rw [ivl_len];simp;omega)] at h7
      rw [h7,Option.map_some,if_pos (by simp;omega)]
      simp only [ivl]
      rw [List.getElem?_map,List.getElem?_eq_getElem hj,Option.map_some]
      have hj2:j < (l ++ [(0:Int)]).toArray.size:=by simp;omega
      rw [Nat.sub_zero,getElem!_pos _ j hj2]
      simp [List.getElem_append_left hj]
  · refine ⟨rfl,rfl,rfl,by simp,fun i hi hn=>?_⟩
    show ((Sort.ahead w q).heap.modify g (Sort.onCells _))[i]?=_
    rw [Array.getElem?_modify,if_neg (fun e=>hn (by simp [e]))]
    rfl
theorem bsearch_any {g cap:Nat} {x:Int} {l:List Int} (hr:Row 3 1 g l.length cap (ivl l) w) (hs:l.Pairwise (·≤·)) (hn:l.length≤1000) :
    Calls Tryz.prog 109 #[.slice (some ⟨g,0,none⟩) l.length cap,.int .i64 x] w fun e w'=>(∃ b:Bool,e = .returned (.tuple #[.int .i64 (l.countP (· < x):Nat),.bool b]))∧Oth [] w w':=by
  obtain ⟨cur,h1,h2,h3,h4,h5,h6⟩:=row1_at hr
  have ht:l.take l.length=l:=List.take_length
  refine (Any.slices_BinarySearch_int Tryz.lays25 g 0 l.length cap l x w (Nat.le_refl _) (by omega) (fun j hj=>?_) (by rw [ht];exact hs)).mono ?_
  · rw [Nat.zero_add]
    exact hr.cell (by simp only [ivl];rw [List.getElem?_map,getD_some hj];rfl)
  · rintro e w' ⟨rfl,q,rfl⟩
    rw [ht]
    exact ⟨⟨_,rfl⟩,(Oth.refl _ _).drewN q⟩
theorem insert1_any {g cap vb cv i:Nat} {x:Int} {l:List Int} (hr:Row 3 1 g l.length cap (ivl l) w) (hv:Row 3 1 vb 1 cv [.int .i64 x] w) (hne:vb≠g) (hi:i≤l.length) (hn:l.length≤1000) :
    Calls Tryz.prog 110 #[.slice (some ⟨g,0,none⟩) l.length cap,.int .i64 i,.slice (some ⟨vb,0,none⟩) 1 cv] w fun e w'=>∃ g' cap',e = .returned (.slice (some ⟨g',0,none⟩) (l.length + 1) cap')∧Row 3 1 g' (l.length + 1) cap' (ivl (l.take i ++ x :: l.drop i)) w'∧Oth [g] w w'∧(g'=g∨w.heap.size≤g'):=by
  obtain ⟨cur,h1,h2,h3,h4,h5,h6⟩:=row1_at hr
  obtain ⟨cu2,k1,k2,k3,k4,k5,k6⟩:=row1_at hv
  have hcs:∀ j v,(ivl l)[j]?=some v→w.cell? ⟨g,0 + j,none⟩=some v:=fun j v hj=>by rw [Nat.zero_add];exact hr.cell hj
  have hvs:∀ j v,[Value.int .i64 x][j]?=some v→w.cell? ⟨vb,0 + j,none⟩=some v:=fun j v hj=>by rw [Nat.zero_add];exact hv.cell hj
  have h1v:∀ v∈[Value.int .i64 x],v.oneCell'=true:=fun v hv=>by simp at hv;subst hv;rfl
  have hil:(ivl (l.take i ++ x :: l.drop i)).length=l.length + 1:=by simp [ivl];omega
  have hat:∀ j,(ivl (l.take i ++ x :: l.drop i))[j]?=if j < i then (ivl l)[j]? else if j=i then some (.int .i64 x) else (ivl l)[j - 1]?:=by
    intro j
    simp only [ivl,List.map_append,List.map_cons]
    have hl:((l.take i).map (Value.int .i64)).length=i:=by simp;omega
    by_cases c1:j < i
    · rw [if_pos c1,List.getElem?_append_left (by omega),List.getElem?_map,List.getElem?_take,if_pos c1,List.getElem?_map]
    · rw [if_neg c1,List.getElem?_append_right (by omega),hl]
      by_cases c2:j=i
      · subst c2;simp
      · rw [if_neg c2]
        obtain ⟨m,rfl⟩:∃ m,j=i + 1 + m:=⟨j - (i + 1),by omega⟩
        rw [show i + 1 + m - i=m + 1 by omega,show i + 1 + m - 1=i + m by omega]
        simp
  rcases Nat.lt_or_ge i l.length with hlt | hge
  · rcases Nat.lt_or_ge cap (l.length + 1) with hc | hc
    · have hG:=grownCap_ge w (l.length + 1) cap (Tryz.lays21_ren.t 3)
      have hGm:=grownCap_le_maxLen w (l.length + 1) cap (Tryz.lays21_ren.t 3) (by unfold maxLen;omega)
      refine (Any2.slices_Insert_int_grow Tryz.lays21 g 0 l.length cap i vb 0 1 cv (ivl l) [.int .i64 x] w hlt (by omega) h2 hc (by omega) h5 rfl hcs hvs (ivl_one l) h1v).mono ?_
      rintro e w' ⟨rfl,rfl⟩
      generalize grownCap w (l.length + 1) cap (Tryz.lays21_ren.t 3)=G at hG hGm ⊢
      rw [show Tryz.lays21_ren.t 3=3 from rfl]
      refine ⟨w.heap.size,G,rfl,?_,(((((Oth.refl [g] w).alloc _).drew).setCells (.inr (Nat.le_refl _)) _ _).drew).setCells (.inr (Nat.le_refl _)) _ _,.inr (Nat.le_refl _)⟩
      obtain ⟨ROW,hROW⟩:∃ ROW:Array Value,ROW=((ivl l).take i).toArray ++ Builtin.zeroCells (Value.int .i64 0).cells (l.length + 1 - i) ++ Builtin.zeroCells (Value.int .i64 0).cells (G - (l.length + 1)):=⟨_,rfl⟩
      rw [← hROW]
      have hRl:ROW.size=G:=by
        rw [hROW]
        simp [Builtin.zeroCells,Value.cells]
        omega
      have hRj:∀ j,j < i→ROW[j]?=(ivl l)[j]?:=fun j hj=>by
        rw [hROW,Array.append_assoc,Array.getElem?_append_left (by simp;omega)]
        simp [List.getElem?_take,hj]
      have hh:((w.alloc (.cells ROW 3)).drew).heap[w.heap.size]?=some (.cells ROW 3 (0,0)):=heap_alloc_new w _
      refine row1 (heap_setCells w.heap.size _ _ _ _ 3 (show (((w.alloc (.cells ROW 3)).drew.setCells w.heap.size i [.int .i64 x]).drew).heap[w.heap.size]?=_ from heap_setCells w.heap.size _ _ _ _ 3 hh)) hG hGm (by rw [wr_size,wr_size];exact hRl) hil (fun j hj=>?_)
      rw [hat,wr_get _ _ _ _ (by rw [wr_size];simp;omega),wr_get _ _ _ _ (by simp;omega)]
      simp only [List.length_cons,List.length_nil,List.length_drop,List.getElem?_drop]
      by_cases c1:j < i
      · rw [if_neg (by omega),if_neg (by omega),if_pos c1];exact hRj j c1
      · rw [if_neg c1]
        by_cases c2:j=i
        · subst c2;rw [if_neg (by omega),if_pos (by omega),if_pos rfl];simp
        · rw [if_neg c2,if_pos (by omega)];congr 1;omega
    · refine (Any2.slices_Insert_int_shift Tryz.lays21 g 0 l.length cap i vb 0 1 cv (ivl l) [.int .i64 x] w hlt (by omega) hc (by unfold maxLen at h3;omega) hne h5 rfl hcs ?_ (fun j _=>hr.free _) hvs (ivl_one l) h1v 3 3 cu2.size cur.size (by simp [World.shape?,k1]) (by simp [World.shape?,h1]) (by omega) (hv.free _) (hv.free _)).mono ?_
      · intro j hj
        exact hr.there (by omega)
      · rintro e w' ⟨rfl,rfl⟩
        simp only [Nat.zero_add]
        refine ⟨g,cap,rfl,?_,(((Oth.refl [g] w).drew).setCells (.inl (by simp)) _ _).setCells (.inl (by simp)) _ _,.inl rfl⟩
        refine row1 (heap_setCells g _ _ _ _ 3 (heap_setCells g _ _ w.drew cur 3 h1)) hc h3 (by rw [wr_size,wr_size];exact h4) hil (fun j hj=>?_)
        rw [hat,wr_get _ _ _ _ (by rw [wr_size];simp;omega),wr_get _ _ _ _ (by simp;omega)]
        simp only [List.length_cons,List.length_nil,List.length_drop,List.getElem?_drop]
        by_cases c1:j < i
        · rw [if_neg (by omega),if_neg (by omega),if_pos c1];exact h6 j (by omega)
        · rw [if_neg c1]
          by_cases c2:j=i
          · subst c2;rw [if_pos (by omega),if_pos rfl];simp
          · rw [if_neg c2,if_neg (by omega),if_pos (by omega)];congr 1;omega
  · obtain rfl:i=l.length:=by omega
    rcases Nat.lt_or_ge cap (l.length + 1) with hc | hc
    · have hG:=grownCap_ge w (l.length + 1) cap (Tryz.lays21_ren.t 3)
      have hGm:=grownCap_le_maxLen w (l.length + 1) cap (Tryz.lays21_ren.t 3) (by unfold maxLen;omega)
      refine (Any2.slices_Insert_int_end_grow Tryz.lays21 (some ⟨g,0,none⟩) l.length cap vb 0 1 cv (ivl l) [.int .i64 x] w (by omega) h2 hc (by omega) h5 rfl (by simp) (fun a ha j v hj=>by cases ha;rw [Addr.add_lit];exact hcs j v hj) hvs h1v).mono ?_
      rintro e w' ⟨rfl,rfl⟩
      generalize grownCap w (l.length + 1) cap (Tryz.lays21_ren.t 3)=G at hG hGm ⊢
      rw [show Tryz.lays21_ren.t 3=3 from rfl]
      refine ⟨w.heap.size,G,rfl,?_,((Oth.refl [g] w).drew).alloc _,.inr (Nat.le_refl _)⟩
      refine row1 (heap_alloc_new w.drew _) hG hGm (by simp [Builtin.zeroCells,Value.cells];omega) hil (fun j hj=>?_)
      rw [hat,Array.getElem?_append_left (by simp;omega),List.getElem?_toArray]
      by_cases c1:j < l.length
      · rw [if_pos c1,List.getElem?_append_left (by omega)]
      · obtain rfl:j=l.length:=by omega
        rw [if_neg c1,if_pos rfl,List.getElem?_append_right (by omega),h5,Nat.sub_self];rfl
    · refine (Any2.slices_Insert_int_end_room Tryz.lays21 g 0 l.length cap vb 0 1 cv [.int .i64 x] w (by omega) hc (by unfold maxLen at h3;omega) rfl (fun j hj=>by rw [Nat.zero_add];exact hr.there (by omega)) (fun j _=>hr.free _) hvs h1v).mono ?_
      rintro e w' ⟨rfl,rfl⟩
      simp only [Nat.zero_add]
      refine ⟨g,cap,rfl,?_,(Oth.refl [g] w).setCells (.inl (by simp)) _ _,.inl rfl⟩
      refine row1 (heap_setCells g _ _ w cur 3 h1) hc h3 (by rw [wr_size];exact h4) hil (fun j hj=>?_)
      rw [hat,wr_get _ _ _ _ (by simp;omega)]
      simp only [List.length_cons,List.length_nil]
      by_cases c1:j < l.length
      · rw [if_neg (by omega),if_pos c1];exact h6 j (by omega)
      · obtain rfl:j=l.length:=by omega
        rw [if_pos (by omega),if_neg c1,if_pos rfl,Nat.sub_self];rfl
end
end Go.Proofs.YtnpdcjdmbkcpbaaGreat.Ins
namespace Go.Proofs.YtnpdcjdmbkcpbaaGreat.Ins
open Go.RowKit
abbrev StU:=(Nat→Int) × (Nat→List Int)
def add1 (m:Nat) (s:StU) (x:Int):StU:=if x=0 then s else (fun k=>if k=m + 1 then s.1 k + 1 else s.1 k,fun k=>if k=x.toNat then s.2 k ++ [(m:Int) + 1] else s.2 k)
def P1 (I:List (List Int)):Nat→StU
  | 0=>(fun _=>0,fun _=>[])
  | m + 1=>(I.getD m []).foldl (add1 m) (P1 I m)
def rdy0 (W:Nat→Int):Nat→List Int
  | 0=>[]
  | m + 1=>if W (m + 1)=0 then rdy0 W m ++ [(m:Int) + 1] else rdy0 W m
def ins1 (u:Int) (R:List Int):List Int:=R.take (R.countP (· < u)) ++ u :: R.drop (R.countP (· < u))
def dec1 (W:Nat→Int) (u:Int):Nat→Int:=fun k=>if k=u.toNat then W k - 1 else W k
def rel1 (s:List Int × (Nat→Int)) (u:Int):List Int × (Nat→Int):=if s.2 u.toNat - 1=0 then (ins1 u s.1,dec1 s.2 u) else (s.1,dec1 s.2 u)
def srt (U:Nat→List Int):Nat→List Int→(Nat→Int)→List Int→List Int
  | 0,_,_,O=>O
  | _ + 1,[],_,O=>O
  | f + 1,x :: R,W,O=>srt U f ((U x.toNat).foldl rel1 (R,W)).1 ((U x.toNat).foldl rel1 (R,W)).2 (O ++ [x])
def sortF (I:List (List Int)) (n:Nat):List Int:=srt (P1 I n).2 (n + 1) (rdy0 (P1 I n).1 n) (P1 I n).1 []
def psW (W:Nat→Int):Nat→Nat
  | 0=>0
  | m + 1=>psW W m + if 0 < W (m + 1) then 1 else 0
structure PI (n c:Nat) (s:StU):Prop where
  w:∀ k,0≤s.1 k∧s.1 k≤c
  u:∀ k,(s.2 k).length≤c∧∀ x∈s.2 k,1≤x∧x≤(n:Int)
theorem PI.mono {n c c':Nat} {s:StU} (h:PI n c s) (hc:c≤c'):PI n c' s:=⟨fun k=>by have:=h.w k;omega,fun k=>⟨by have:=(h.u k).1;omega,(h.u k).2⟩⟩
theorem PI.add {n c m:Nat} {s:StU} (h:PI n c s) (hm:m < n) (x:Int):PI n (c + 1) (add1 m s x):=by
  unfold add1
  split
  · exact h.mono (by omega)
  · refine ⟨fun k=>?_,fun k=>?_⟩
    · have:=h.w k
      simp only
      split <;> omega
    · have:=h.u k
      simp only
      split
      · refine ⟨by simp;omega,fun y hy=>?_⟩
        rcases List.mem_append.1 hy with h1 | h1
        · exact this.2 y h1
        · simp at h1;omega
      · exact ⟨by omega,this.2⟩
theorem PI.fold {n m:Nat} (hm:m < n):∀ (l:List Int) {c:Nat} {s:StU},PI n c s→PI n (c + l.length) (l.foldl (add1 m) s)
  | [],c,s,h=>h
  | x :: l,c,s,h=>by
    rw [List.foldl_cons,List.length_cons]
    exact (PI.fold hm l (h.add hm x)).mono (by omega)
theorem PI.all {I:List (List Int)} {n b:Nat} (hI:∀ l∈I,l.length≤b):∀ m,m≤n→PI n (b * m) (P1 I m)
  | 0,_=>⟨fun k=>by simp [P1],fun k=>by simp [P1]⟩
  | m + 1,h=>by
    rw [P1]
    have h1:=PI.fold (n:=n) (by omega:m < n) (I.getD m []) (PI.all hI m (by omega))
    have h2:(I.getD m []).length≤b:=by
      rw [List.getD_eq_getElem?_getD]
      cases hq:I[m]? with
      | none=>simp
      | some l=>exact hI l (List.mem_of_getElem? hq)
    exact h1.mono (by rw [Nat.mul_succ];omega)
theorem rdy0_len {W:Nat→Int} (hW:∀ k,0≤W k):∀ m,(rdy0 W m).length + psW W m=m
  | 0=>rfl
  | m + 1=>by
    have h1:=rdy0_len hW m
    have h2:=hW (m + 1)
    rw [rdy0,psW]
    by_cases h:W (m + 1)=0
    · rw [if_pos h,if_neg (by omega),List.length_append];simp;omega
    · rw [if_neg h,if_pos (by omega)];omega
theorem rdy0_mem (W:Nat→Int):∀ m,∀ x∈rdy0 W m,1≤x∧x≤(m:Int)
  | 0,x,h=>by simp [rdy0] at h
  | m + 1,x,h=>by
    rw [rdy0] at h
    split at h
    · rcases List.mem_append.1 h with h1 | h1
      · have:=rdy0_mem W m x h1;omega
      · simp at h1;omega
    · have:=rdy0_mem W m x h;omega
theorem rdy0_sorted (W:Nat→Int):∀ m,(rdy0 W m).Pairwise (·≤·)
  | 0=>List.Pairwise.nil
  | m + 1=>by
    rw [rdy0]
    split
    · rw [List.pairwise_append]
      refine ⟨rdy0_sorted W m,by simp,fun a ha b hb=>?_⟩
      have:=rdy0_mem W m a ha
      simp at hb;omega
    · exact rdy0_sorted W m
theorem ins1_len (u:Int) (R:List Int):(ins1 u R).length=R.length + 1:=by
  have:=List.countP_le_length (p:=(· < u)) (l:=R)
  unfold ins1;simp;omega
theorem ins1_mem {u:Int} {R:List Int} {x:Int} (h:x∈ins1 u R):x=u∨x∈R:=by
  unfold ins1 at h
  rcases List.mem_append.1 h with h1 | h1
  · exact .inr (List.mem_of_mem_take h1)
  · rcases List.mem_cons.1 h1 with h2 | h2
    · exact .inl h2
    · exact .inr (List.mem_of_mem_drop h2)
theorem ins1_sorted (u:Int):∀ (R:List Int),R.Pairwise (·≤·)→(ins1 u R).Pairwise (·≤·)
  | [],_=>by simp [ins1]
  | y :: t,h=>by
    have hp:=List.pairwise_cons.1 h
    have ih:=ins1_sorted u t hp.2
    unfold ins1 at ih ⊢
    by_cases hy:y < u
    · rw [List.countP_cons_of_pos (by simpa using hy),List.take_succ_cons,List.drop_succ_cons,List.cons_append,List.pairwise_cons]
      refine ⟨fun a ha=>?_,ih⟩
      rcases List.mem_append.1 ha with h1 | h1
      · exact hp.1 a (List.mem_of_mem_take h1)
      · rcases List.mem_cons.1 h1 with h2 | h2
        · omega
        · exact hp.1 a (List.mem_of_mem_drop h2)
    · have h0:(y :: t).countP (· < u)=0:=by
        rw [List.countP_eq_zero]
        intro a ha
        rcases List.mem_cons.1 ha with h1 | h1
        · subst h1;simpa using hy
        · have:=hp.1 a h1
          simp;omega
      rw [h0]
      simp only [List.take_zero,List.nil_append,List.drop_zero]
      rw [List.pairwise_cons]
      refine ⟨fun a ha=>?_,h⟩
      rcases List.mem_cons.1 ha with h1 | h1
      · omega
      · have:=hp.1 a h1;omega
theorem psW_dec {W:Nat→Int} {u:Int}:∀ n,psW (dec1 W u) n + (if 1≤u∧u≤(n:Int)∧W u.toNat=1 then 1 else 0)=psW W n
  | 0=>by rw [if_neg (by omega)];rfl
  | n + 1=>by
    have ih:=psW_dec (W:=W) (u:=u) n
    rw [psW,psW]
    have e:dec1 W u (n + 1)=if n + 1=u.toNat then W (n + 1) - 1 else W (n + 1):=rfl
    rw [e]
    by_cases h:n + 1=u.toNat
    · rw [if_pos h,← h]
      rw [if_neg (by omega)] at ih
      have hu:u=(n:Int) + 1:=by omega
      generalize W (n + 1)=z
      split <;> split <;> split <;> omega
    · rw [if_neg h]
      generalize W (n + 1)=z
      generalize W u.toNat=y at ih ⊢
      by_cases h2:1≤u∧u≤(n:Int)∧y=1
      · rw [if_pos h2] at ih
        have h3:1≤u∧u≤((n + 1:Nat):Int)∧y=1:=⟨h2.1,by omega,h2.2.2⟩
        rw [if_pos h3]
        split <;> omega
      · rw [if_neg h2] at ih
        have h3:¬ (1≤u∧u≤((n + 1:Nat):Int)∧y=1):=fun h4=>h2 ⟨h4.1,by omega,h4.2.2⟩
        rw [if_neg h3]
        split <;> omega
structure MI (n:Nat) (B:Int) (R:List Int) (W:Nat→Int) (O:List Int):Prop where
  st:R.Pairwise (·≤·)
  rm:∀ x∈R,1≤x∧x≤(n:Int)
  cons:O.length + R.length + psW W n=n
  wb:∀ k,-B≤W k∧W k≤1000000
  om:∀ x∈O,1≤x∧x≤(n:Int)
theorem MI.mono {n:Nat} {B B':Int} {R:List Int} {W:Nat→Int} {O:List Int} (h:MI n B R W O) (hB:B≤B'):MI n B' R W O:=⟨h.st,h.rm,h.cons,fun k=>by have:=h.wb k;omega,h.om⟩
theorem MI.pop {n:Nat} {B:Int} {x:Int} {R:List Int} {W:Nat→Int} {O:List Int} (h:MI n B (x :: R) W O):MI n B R W (O ++ [x]):=by
  refine ⟨(List.pairwise_cons.1 h.st).2,fun y hy=>h.rm y (.tail _ hy),?_,h.wb,fun y hy=>?_⟩
  · have:=h.cons;simp at this ⊢;omega
  · rcases List.mem_append.1 hy with h1 | h1
    · exact h.om y h1
    · simp at h1;subst h1;exact h.rm y (.head _)
theorem MI.rel {n:Nat} {B:Int} {u:Int} {R:List Int} {W:Nat→Int} {O:List Int} (h:MI n B R W O) (hu:1≤u∧u≤(n:Int)):MI n (B + 1) (rel1 (R,W) u).1 (rel1 (R,W) u).2 O:=by
  have hp:=psW_dec (W:=W) (u:=u) n
  have hwb:∀ k,-(B + 1)≤dec1 W u k∧dec1 W u k≤1000000:=fun k=>by
    have:=h.wb k
    unfold dec1;split <;> omega
  have hc:=h.cons
  unfold rel1
  simp only
  split
  · rename_i h1
    rw [if_pos (by omega)] at hp
    refine ⟨ins1_sorted u R h.st,fun x hx=>?_,by simp only [ins1_len];omega,hwb,h.om⟩
    rcases ins1_mem hx with rfl | h2
    · exact hu
    · exact h.rm x h2
  · rename_i h1
    rw [if_neg (by omega)] at hp
    exact ⟨h.st,h.rm,by simp only;omega,hwb,h.om⟩
theorem MI.fold {n:Nat} {O:List Int}:∀ (l:List Int) {B:Int} {s:List Int × (Nat→Int)},(∀ u∈l,1≤u∧u≤(n:Int))→MI n B s.1 s.2 O→MI n (B + l.length) (l.foldl rel1 s).1 (l.foldl rel1 s).2 O
  | [],B,s,_,h=>by simpa using h
  | u :: l,B,s,hl,h=>by
    rw [List.foldl_cons,List.length_cons]
    exact (MI.fold l (fun x hx=>hl x (.tail _ hx)) (h.rel (hl u (.head _)))).mono (by omega)
structure Fam (B N:Nat) (V:Nat→Value) (C:Nat→List Int) (w:World):Prop where
  own:∀ i,i < N→w.ownsRow 0 3 1 (V i) (C i).length (ivl (C i))
  new:∀ i,i < N→∀ k,(V i).ownBlock=some k→B≤k
  dis:∀ i j,i < N→j < N→i≠j→∀ k,(V i).ownBlock=some k→(V j).ownBlock=some k→False
theorem Fam.oth {B N:Nat} {V:Nat→Value} {C:Nat→List Int} {w w':World} {S:List Nat} (h:Fam B N V C w) (ho:Oth S w w') (hS:∀ i,i < N→∀ k,(V i).ownBlock=some k→k∉S):Fam B N V C w':=
  ⟨fun i hi=>Row.own (h.own i hi) ho (hS i hi),h.new,h.dis⟩
theorem Fam.keep {B N:Nat} {V:Nat→Value} {C:Nat→List Int} {w w':World} (h:Fam B N V C w) (ho:Oth [] w w'):Fam B N V C w':=h.oth ho (fun _ _ _ _=>by simp)
theorem Fam.lt {B N:Nat} {V:Nat→Value} {C:Nat→List Int} {w:World} (h:Fam B N V C w) {i:Nat} (hi:i < N):∀ k,(V i).ownBlock=some k→k < w.heap.size:=by
  intro k hk
  obtain ⟨-,⟨e,-⟩ | ⟨b,c,cells,e,-,h2,-⟩⟩:=h.own i hi
  · rw [e] at hk;cases hk
  · rw [e] at hk;simp [Value.ownBlock] at hk;subst hk;exact lt_of_block h2
theorem Fam.turn {B N:Nat} {V:Nat→Value} {C:Nat→List Int} {w w1:World} {i:Nat} {v':Value} {c':List Int} (h:Fam B N V C w) (hi:i < N)
    (hother:∀ j,j < N→j≠i→w1.ownsRow 0 3 1 (V j) (C j).length (ivl (C j)))
    (hown:w1.ownsRow 0 3 1 v' c'.length (ivl c')) (hat:v'.ownBlock=(V i).ownBlock∨∃ k,v'.ownBlock=some k∧w.heap.size≤k) (hB:B≤w.heap.size) :
    Fam B N (fun j=>if j=i then v' else V j) (fun j=>if j=i then c' else C j) w1:=by
  have hblk:∀ k,v'.ownBlock=some k→(V i).ownBlock=some k∨w.heap.size≤k:=fun k hk=>by
    rcases hat with h1 | ⟨k',h1,h2⟩
    · exact .inl (by rw [← h1];exact hk)
    · rw [h1] at hk;cases hk;exact .inr h2
  refine ⟨fun j hj=>?_,fun j hj k hk=>?_,fun a b ha hb hab k hk hk2=>?_⟩
  · by_cases e:j=i
    · simp only [e,if_true];exact hown
    · simp only [e,if_false];exact hother j hj e
  · by_cases e:j=i
    · simp only [e,if_true] at hk
      rcases hblk k hk with h1 | h1
      · exact h.new i hi k h1
      · omega
    · simp only [e,if_false] at hk
      exact h.new j hj k hk
  · by_cases e1:a=i
    · have e2:b≠i:=fun e=>hab (e1.trans e.symm)
      simp only [e1,if_true] at hk
      simp only [e2,if_false] at hk2
      rcases hblk k hk with h1 | h1
      · exact h.dis i b hi hb (fun e=>e2 e.symm) k h1 hk2
      · have:=h.lt hb k hk2;omega
    · simp only [e1,if_false] at hk
      by_cases e2:b=i
      · simp only [e2,if_true] at hk2
        rcases hblk k hk2 with h1 | h1
        · exact h.dis a i ha hi e1 k hk h1
        · have:=h.lt ha k hk;omega
      · simp only [e2,if_false] at hk2
        exact h.dis a b ha hb hab k hk hk2
theorem Fam.app {B N:Nat} {V:Nat→Value} {C:Nat→List Int} {w w1:World} {i:Nat} {v':Value} {c':List Int} (h:Fam B N V C w) (hi:i < N)
    (hown:w1.ownsRow 0 3 1 v' c'.length (ivl c')) (hg:w.grownBy w1 (V i).ownBlock) (hat:v'.ownBlock=(V i).ownBlock∨v'.ownBlock=some w.heap.size) (hB:B≤w.heap.size) :
    Fam B N (fun j=>if j=i then v' else V j) (fun j=>if j=i then c' else C j) w1:=by
  refine h.turn hi (fun j hj hji=>(h.own j hj).kept hg ?_) hown (hat.imp id fun e=>⟨_,e,Nat.le_refl _⟩) hB
  cases hq:(V j).ownBlock with
  | none=>exact .inl rfl
  | some k=>exact .inr fun e=>h.dis j i hj hi hji k hq e.symm
theorem Fam.put {B N:Nat} {V:Nat→Value} {C:Nat→List Int} {w w1:World} {i g g' m c:Nat} {c':List Int} (h:Fam B N V C w) (hi:i < N) (hV:(V i).ownBlock=some g) (ho:Oth [g] w w1)
    (hm:m=c'.length) (hrow:Row 3 1 g' m c (ivl c') w1) (hat:g'=g∨w.heap.size≤g') (hB:B≤w.heap.size) :
    Fam B N (fun j=>if j=i then .slice (some ⟨g',0,none⟩) m c else V j) (fun j=>if j=i then c' else C j) w1:=by
  subst hm
  refine h.turn hi (fun j hj hji=>Row.own (h.own j hj) ho (fun k hk e=>?_)) hrow.owns ?_ hB
  · simp at e;subst e;exact h.dis j i hj hi hji k hk hV
  · rw [hV]
    rcases hat with rfl | h1
    · exact .inl rfl
    · exact .inr ⟨g',rfl,h1⟩
theorem Fam.ext {B N:Nat} {V V':Nat→Value} {C C':Nat→List Int} {w:World} (h:Fam B N V C w) (hV:∀ i,i < N→V i=V' i) (hC:∀ i,i < N→C i=C' i):Fam B N V' C' w:=
  ⟨fun i hi=>by rw [← hV i hi,← hC i hi];exact h.own i hi,fun i hi k hk=>h.new i hi k (by rw [hV i hi];exact hk),fun a b ha hb hab k hk hk2=>h.dis a b ha hb hab k (by rw [hV a ha];exact hk) (by rw [hV b hb];exact hk2)⟩
end Go.Proofs.YtnpdcjdmbkcpbaaGreat.Ins
namespace Go.Proofs.YtnpdcjdmbkcpbaaGreat.Ins
open Go.RowKit
def smL:List Nat→Nat
  | []=>0
  | x :: t=>x + smL t
theorem smL_app:∀ (a b:List Nat),smL (a ++ b)=smL a + smL b
  | [],b=>by simp [smL]
  | x :: a,b=>by rw [List.cons_append,smL,smL,smL_app a b];omega
theorem smL_bound {B:Nat}:∀ (l:List Nat),(∀ x∈l,x≤B)→smL l≤l.length * B
  | [],_=>Nat.zero_le _
  | x :: t,h=>by
    have h1:=smL_bound t (fun y hy=>h y (.tail _ hy))
    have h2:=h x (.head _)
    rw [smL,List.length_cons,Nat.succ_mul];omega
theorem smL_mem:∀ {l:List Nat} {x:Nat},x∈l→x≤smL l
  | y :: t,x,h=>by
    rw [smL]
    rcases List.mem_cons.1 h with rfl | h
    · omega
    · have:=smL_mem h;omega
def shK (s:Sh):Nat:=1 + s.l.length
def ndK (d:ND):Nat:=3 + d.ins.length + d.op.s.length + smL (d.P.map shK)
theorem shK_eq (s:Sh):shK s=1 + s.l.length:=rfl
theorem ndK_eq (d:ND):ndK d=3 + d.ins.length + d.op.s.length + smL (d.P.map shK):=rfl
def NetD.few (D:NetD):Nat:=D.i.l.length + smL (D.L.map ndK)
def NetD.fewB (D:NetD):Bool:=decide (D.few≤300) && decide (D.n≤12)
theorem sm_next {α:Type} {f:α→Nat} {l:List α} {m:Nat} {x:α} (h:l[m]?=some x):smL ((l.take (m + 1)).map f)=smL ((l.take m).map f) + f x:=by
  rw [List.take_add_one,h,List.map_append,smL_app]
  simp [smL]
theorem sm_take {α:Type} {f:α→Nat} {B:Nat} {l:List α} {m:Nat} (h:∀ x∈l,f x≤B):smL ((l.take m).map f)≤m * B:=by
  refine Nat.le_trans (smL_bound (B:=B) _ (fun y hy=>?_)) (Nat.mul_le_mul_right _ (by simp;omega))
  obtain ⟨x,hx,rfl⟩:=List.mem_map.1 hy
  exact h x (List.mem_of_mem_take hx)
theorem shK_le {d:ND} (h:d.short 1048576):∀ s∈d.P,shK s≤1048577:=fun s hs=>by
  have:=h.p.2 s hs
  unfold shK;omega
theorem ndK_le {d:ND} (h:d.short 1048576):ndK d≤1100000000000:=by
  have h1:=sm_take (m:=d.P.length) (shK_le h)
  rw [List.take_length] at h1
  have h2:=h.p.1
  have h3:d.P.length * 1048577≤1048576 * 1048577:=Nat.mul_le_mul_right _ h2
  have h4:=h.s
  have h5:=h.i
  unfold ndK;omega
theorem few_short {D:NetD} (h:D.fewB=true):D.i.l.length≤300∧D.n≤12∧∀ d∈D.L,d.ins.length≤300∧d.op.s.length≤300∧d.P.length≤300∧∀ s∈d.P,s.l.length≤300:=by
  unfold NetD.fewB NetD.few at h
  simp only [Bool.and_eq_true,decide_eq_true_eq] at h
  refine ⟨by omega,h.2,fun d hd=>?_⟩
  have h1:=smL_mem (List.mem_map_of_mem (f:=ndK) hd)
  have h0:=ndK_eq d
  refine ⟨by omega,by omega,?_,fun s hs=>?_⟩
  · have:∀ l:List Sh,l.length≤smL (l.map shK):=fun l=>by
      induction l with
      | nil=>exact Nat.zero_le _
      | cons a t ih=>
        rw [List.map_cons,smL,List.length_cons]
        have:=shK_eq a
        omega
    have:=this d.P
    omega
  · have h2:=smL_mem (List.mem_map_of_mem (f:=shK) hs)
    have:=shK_eq s
    omega
section
variable {D:NetD} {w:World}
set_option maxRecDepth 100000 in
set_option maxHeartbeats 8000000 in
theorem few_any (hr:D.R w) (hi:D.i.l.length≤1048576) (hn:D.n≤1048576) (hd:∀ d∈D.L,d.short 1048576) :
    Calls Tryz.prog 6 #[D.val] w fun e w'=>e = .returned (.bool D.fewB)∧Oth [] w w':=by
  have hil:D.i.n=D.i.l.length:=hr.i.len
  have hlen:=hr.len
  have hcap:=hr.cap
  have hat:=hr.at_
  have hval:D.val = .agg #[.slice D.i.b D.i.n D.i.c,.slice D.b D.n D.c]:=rfl
  have hfew:D.fewB=(decide (D.few≤300) && decide (D.n≤12)):=rfl
  have hnum:∀ m,D.i.l.length + smL ((D.L.take m).map ndK)≤1048576 + m * 1100000000000:=fun m=>by
    have:=sm_take (f:=ndK) (m:=m) (fun d hd'=>ndK_le (hd d hd'))
    omega
  have hfull:D.few=D.i.l.length + smL ((D.L.take D.n).map ndK):=by rw [hlen,List.take_length];rfl
  rw [hval,hfew]
  clear hval hfew hr
  have HNUM:=Lib.hid hnum
  have HAT:=Lib.hid hat
  have HD:=Lib.hid hd
  have HLEN:=Lib.hid hlen
  have HIL:=Lib.hid hil
  have hil2:D.i.n≤1048576:=by omega
  clear hat hd hnum hlen hil
  obtain ⟨fw,hfw⟩:∃ fw,fw=D.few:=⟨_,rfl⟩
  rw [← hfw] at hfull ⊢
  have HFULL:=Lib.hid hfull
  clear hfw hfull
  obtain ⟨⟨ib,iN,ic,il⟩,b,n,c,L⟩:=D
  dsimp only at *
  have HBX:Hid (∀ b,∀ w',Oth [] (w.alloc (.cells #[.slice ib iN ic,.slice b n c] 26)) w'→Oth [] w w'∧w'.cell? ⟨w.heap.size,0,none⟩=some (.slice ib iN ic)∧w'.cell? ⟨w.heap.size,1,none⟩=some (.slice b n c)):=fun b w' ho=>net_box ho
  go_enter Tryz.func6,Tryz.ntmps6
  go_wp2_with fail
  go_loopw [14,3] (fun x y wr=>∃ m:Nat,m≤n∧x = .int .i64 m∧y = .int .i64 (il.length + smL ((L.take m).map ndK):Nat)∧Oth [] (w.alloc (.cells #[.slice ib iN ic,.slice b n c] 26)) wr) (fun x _ _=>n - (intOf x).toNat)
  case atStart=>exact ⟨0,by omega,rfl,by rw [HIL.out];simp [smL],Oth.refl _ _⟩
  case round=>
    obtain ⟨m,hm,rfl,rfl,ho⟩:=hrel
    obtain ⟨p0,p1,p2⟩:=HBX.out b wr ho
    have p3:=World.block_lt_of_cell? _ _ p1
    have han:=HNUM.out m
    by_cases hlt:m < n
    · have t1:(m:Int) < n:=by omega
      obtain ⟨d,hk⟩:∃ d,L[m]?=some d:=⟨_,List.getElem?_eq_getElem (by rw [← HLEN.out];exact hlt)⟩
      have hdd:=HD.out d (List.mem_of_getElem? hk)
      have hnext:smL ((L.take (m + 1)).map ndK)=smL ((L.take m).map ndK) + ndK d:=sm_next hk
      have hnk:=ndK_le hdd
      rw [ndK_eq d] at hnext hnk
      obtain ⟨gN,oN,rfl,j2,j3⟩:=HAT.out m d hk
      obtain ⟨o,bi,ni,ci,ins,bp,np,cp,P⟩:=d
      have j4:=j3.oth p0
      have hni:ni=ins.length:=j3.ins.len
      have hno:o.n=o.s.length:=j3.op.s.len
      have hnp:np=P.length:=j3.p.len
      have s1:=hdd.i
      have s2:=hdd.s
      have s3:=hdd.p.1
      have s4:=hdd.p.2
      have c0:=p0.cell (j2 0 _ rfl) (by simp)
      have c1:=p0.cell (j2 1 _ rfl) (by simp)
      have c2:=p0.cell (j2 2 _ rfl) (by simp)
      have c3:=p0.cell (j2 3 _ rfl) (by simp)
      have c4:=p0.cell (j2 4 _ rfl) (by simp)
      have c5:=p0.cell (j2 5 _ rfl) (by simp)
      have c6:=p0.cell (j2 6 _ rfl) (by simp)
      have c7:=p0.cell (j2 7 _ rfl) (by simp)
      have c8:=p0.cell (j2 8 _ rfl) (by simp)
      have c9:=p0.cell (j2 9 _ rfl) (by simp)
      rw [Nat.add_zero] at c0
      have l2:=World.block_lt_of_cell? _ _ c0
      have HP:=Lib.hid j3.p
      dsimp only at c0 c1 c2 c3 c4 c5 c6 c7 c8 c9 s1 s2 s3 s4 hni hno hnp HP hnk hnext
      obtain ⟨a,ha⟩:∃ a,a=il.length + smL ((L.take m).map ndK):=⟨_,rfl⟩
      have HNX:Hid (il.length + smL ((L.take (m + 1)).map ndK)=a + (3 + ni + o.n) + smL (P.map shK)):=by
        rw [hnext,hni,hno];exact Lib.hid (by omega)
      have hsk:∀ j,smL ((P.take j).map shK)≤j * 1048577:=fun j=>sm_take (f:=shK) (fun s hs=>by have:=s4 s hs;unfold shK;omega)
      have HSK:=Lib.hid hsk
      have HS4:=Lib.hid s4
      rw [← ha] at han ⊢
      have hab:m * 1100000000000≤1048576 * 1100000000000:=Nat.mul_le_mul_right _ (by omega)
      have hni2:ni≤1048576:=by omega
      have hno2:o.n≤1048576:=by omega
      have hnp2:np≤1048576:=by omega
      have ha2:a≤1200000000000000000:=by omega
      have HNP:=Lib.hid hnp
      have HO:=Lib.hid (And.intro ho p0)
      clear ha j2 j3 j4 hk hdd hnext hnk hni hno hnp s1 s2 s3 s4 hsk han hab ho p0
      have e1:IntKind.i64.wrap (3 + (ni:Int))=3 + (ni:Int):=IntWalk.i64_in _ (by omega)
      have e2:IntKind.i64.wrap (3 + (ni:Int) + (o.n:Int))=3 + (ni:Int) + (o.n:Int):=IntWalk.i64_in _ (by omega)
      have e3:IntKind.i64.wrap ((a:Int) + (3 + (ni:Int) + (o.n:Int)))=(a:Int) + (3 + (ni:Int) + (o.n:Int)):=IntWalk.i64_in _ (by omega)
      have e4:IntKind.i64.wrap ((m:Int) + 1)=(m:Int) + 1:=IntWalk.i64_in _ (by omega)
      go_wp2_with fail
      go_loopw [32,3] (fun x y w2=>∃ j:Nat,j≤np∧x = .int .i64 j∧y = .int .i64 ((a + (3 + ni + o.n) + smL ((P.take j).map shK):Nat):Int)∧Oth [] (w.alloc (.cells #[.slice ib iN ic,.slice (some ⟨gN,oN,none⟩) n c] 26)) w2) (fun x _ _=>np - (intOf x).toNat)
      case atStart=>exact ⟨0,by omega,rfl,by go_num,HO.out.1.alloc _⟩
      case round=>
        obtain ⟨j,hj,rfl,rfl,ho⟩:=hrel
        by_cases hlj:j < np
        · have t2:(j:Int) < np:=by omega
          obtain ⟨q0,-,-⟩:=HBX.out _ _ ho
          obtain ⟨g9,o9,s9,rfl,k1,k2,k3⟩:=(HP.out.oth q0).get hlj
          have k4:=World.block_lt_of_cell? _ _ k2
          have k5:=HSK.out j
          have k6:=HS4.out s9 (List.mem_of_getElem? k1)
          have k7:=k3.len
          have k8:j * 1048577≤1048576 * 1048577:=Nat.mul_le_mul_right _ (by omega)
          have HN:Hid (smL ((P.take (j + 1)).map shK)=smL ((P.take j).map shK) + (1 + s9.n)):=by rw [sm_next k1,k7];rfl
          obtain ⟨q,hq⟩:∃ q,q=a + (3 + ni + o.n) + smL ((P.take j).map shK):=⟨_,rfl⟩
          have hq2:q≤1300000000000000000:=by omega
          have hs2:s9.n≤1048576:=by omega
          rw [← hq]
          have HQ:=Lib.hid hq
          have HO2:=Lib.hid ho
          clear hq k1 k3 k5 k6 k7 k8 q0 ho
          have e5:IntKind.i64.wrap (1 + (s9.n:Int))=1 + (s9.n:Int):=IntWalk.i64_in _ (by omega)
          have e6:IntKind.i64.wrap ((q:Int) + (1 + (s9.n:Int)))=(q:Int) + (1 + (s9.n:Int)):=IntWalk.i64_in _ (by omega)
          have e7:IntKind.i64.wrap ((j:Int) + 1)=(j:Int) + 1:=IntWalk.i64_in _ (by omega)
          go_wp2_with fail
          go_roundw
          case rel=>exact ⟨j + 1,by omega,by go_num,by rw [HN.out,← Nat.add_assoc,← HQ.out];go_num,HO2.out⟩
          case measure=>simp [intOf];omega
        · obtain rfl:j=np:=by omega
          have t2:¬ (j:Int) < j:=by omega
          have HO2:=Lib.hid ho
          have HJ:Hid (P.take j=P):=by rw [HNP.out];exact Lib.hid List.take_length
          clear ho
          go_wp2_with fail
          go_roundw
          case rel=>exact ⟨m + 1,by omega,by go_num,by rw [HNX.out,HJ.out],HO2.out⟩
          case measure=>simp [intOf];omega
    · obtain rfl:m=n:=by omega
      have t1:¬ (m:Int) < m:=by omega
      rw [← HFULL.out] at han ⊢
      have HO:=Lib.hid p0
      clear ho p0
      by_cases h1:fw≤300
      · have t2:(fw:Int)≤300:=by omega
        by_cases h2:m≤12
        · have t3:(m:Int)≤12:=by omega
          go_wp2_with fail
          go_ret
          exact ⟨by simp [h1,h2],HO.out⟩
        · have t3:¬ (m:Int)≤12:=by omega
          go_wp2_with fail
          go_ret
          exact ⟨by simp [h1,h2],HO.out⟩
      · have t2:¬ (fw:Int)≤300:=by omega
        go_wp2_with fail
        go_ret
        exact ⟨by simp [h1],HO.out⟩
end
end Go.Proofs.YtnpdcjdmbkcpbaaGreat.Ins
namespace Go.Proofs.YtnpdcjdmbkcpbaaGreat.Ins
open Go.RowKit
def smI:List Int→Int
  | []=>0
  | x :: l=>x + smI l
theorem smI_append (a b:List Int):smI (a ++ b)=smI a + smI b:=by
  induction a with
  | nil=>simp [smI]
  | cons x a ih=>simp only [List.cons_append,smI,ih];omega
theorem smI_nn {l:List Int} (h:∀ k,k∈l→0≤k∧k≤1099511627776):0≤smI l:=by
  induction l with
  | nil=>simp [smI]
  | cons x l ih=>
    have h1:=h x (by simp)
    have h2:=ih fun k hk=>h k (by simp [hk])
    simp only [smI];omega
theorem smI_take {l:List Int} (h:∀ k,k∈l→0≤k∧k≤1099511627776) (m:Nat):smI (l.take m)≤smI l∧0≤smI (l.take m):=by
  have h1:=smI_nn (l:=l.drop m) (fun k hk=>h k (List.mem_of_mem_drop hk))
  have h2:=smI_append (l.take m) (l.drop m)
  rw [List.take_append_drop] at h2
  have h3:=smI_nn (l:=l.take m) (fun k hk=>h k (List.mem_of_mem_take hk))
  omega
theorem smI_next {l:List Int} {m:Nat} (h:m < l.length):smI (l.take (m + 1))=smI (l.take m) + l.getD m 0:=by
  rw [show l.take (m + 1)=l.take m ++ [l.getD m 0] by rw [List.take_add_one,getD_some h];rfl,smI_append]
  simp [smI]
section
variable {w:World}
set_option maxRecDepth 100000 in
set_option maxHeartbeats 4000000 in
theorem addc_any {x P:Int} {p:Nat} (hp:w.heap[p]?=some (.cells #[.int .i64 P] 3 (0,0))) (h1:0≤P∧P≤1099511627776) (h2:0≤x∧x≤1099511627776) :
    Calls Tryz.prog 131 #[.int .i64 x,.pointer (some ⟨p,0,none⟩)] w fun e w'=>e = .returned (.bool (decide (P + x≤1099511627776)))∧Oth [p] w w'∧w'.heap[p]?=some (.cells #[.int .i64 (P + x)] 3 (0,0)):=by
  have c0:=cell_of_one hp
  have c1:=free_of_one hp
  have e2:IntKind.i64.wrap (P + x)=P + x:=IntWalk.i64_in _ (by omega)
  go_enter Tryz.func131,Tryz.ntmps131
  go_wp2_with fail
  go_ret
  exact ⟨rfl,(Oth.refl _ _).setCell (.inl (by simp)) _,one_set0 hp⟩
set_option maxRecDepth 100000 in
set_option maxHeartbeats 4000000 in
theorem every131_any {b:Option Addr} {n c p:Nat} {l:List Int} (h:RI b n c l w) (hl:∀ k,k∈l→0≤k∧k≤1099511627776) (hp:w.heap[p]?=some (.cells #[.int .i64 0] 3 (0,0))) (hne:∀ g off,b=some ⟨g,off,none⟩→0 < n→g≠p) :
    Calls Tryz.prog 130 #[.slice b n c,.func (.func 131) #[] #[.pointer (some ⟨p,0,none⟩)]] w fun e w'=>e = .returned (.bool (decide (smI l≤1099511627776)))∧Oth [p] w w'∧(smI l≤1099511627776→w'.heap[p]?=some (.cells #[.int .i64 (smI l)] 3 (0,0))):=by
  have HCAP:Hid (n≤9223372036854775807):=by have:=h.cap;unfold maxLen at this;exact (by omega:n≤9223372036854775807)
  have H:=Lib.hid h
  have HL:=Lib.hid hl
  have HP:=Lib.hid hp
  have HNE:=Lib.hid hne
  have HLN:Hid (n=l.length):=h.len
  clear h hl hp hne
  go_enter Tryz.func130,Tryz.ntmps130
  go_wp2_with fail
  go_loopw [9] (fun x wr=>∃ m:Nat,m≤n∧x = .int .i64 m∧Oth [p] w wr∧wr.heap[p]?=some (.cells #[.int .i64 (smI (l.take m))] 3 (0,0))∧smI (l.take m)≤1099511627776) (fun x _=>n - (intOf x).toNat)
  case atStart=>exact ⟨0,by omega,rfl,Oth.refl _ _,HP.out,by simp [smI]⟩
  case round=>
    obtain ⟨m,hm,rfl,ho,hq,hs⟩:=hrel
    by_cases hlt:m < n
    · have t1:(m:Int) < n:=by omega
      have e1:IntKind.i64.wrap ((m:Int) + 1)=(m:Int) + 1:=IntWalk.i64_in _ (by have:=HCAP.out;omega)
      have hml:m < l.length:=by rw [← HLN.out];exact hlt
      obtain ⟨g,off,rfl,a1⟩:=H.out.at_ m (l.getD m 0) (getD_some hml)
      have hne:=HNE.out g off rfl (by omega)
      have a2:=ho.cell a1 (by simpa using hne)
      have a3:=World.block_lt_of_cell? _ _ a2
      have hx:=HL.out _ (H.out.get hlt)
      have hs0:=(smI_take HL.out m).2
      have hnx:=smI_next hml
      have hle:=(smI_take HL.out (m + 1)).1
      have NC:=Lib.hid (addc_any (w:=wr) (x:=l.getD m 0) hq ⟨hs0,hs⟩ hx)
      rw [← hnx] at NC
      obtain ⟨x,hxx⟩:∃ x,x=l.getD m 0:=⟨_,rfl⟩
      rw [← hxx] at a1 a2 NC
      have HO:=Lib.hid ho
      by_cases hb:smI (l.take (m + 1))≤1099511627776
      · rw [decide_eq_true hb] at NC
        have HB:=Lib.hid hb
        clear hq hs ho hx hs0 hnx hle hb hxx a1
        go_wp2_with ((with_reducible refine NC.out.mono ?_);rintro e w2 ⟨rfl,ho2,hq2⟩;replace ho2:=Lib.hid ho2;replace hq2:=Lib.hid hq2)
        go_roundw
        case rel=>exact ⟨m + 1,by omega,by go_num,HO.out.trans ho2.out (Fr.refl _ _),hq2.out,HB.out⟩
        case measure=>simp [intOf];omega
      · rw [decide_eq_false hb] at NC
        have hgt:1099511627776 < smI l:=by omega
        have HB:=Lib.hid hgt
        clear hgt
        clear hq hs ho hx hs0 hnx hle hb hxx a1
        go_wp2_with ((with_reducible refine NC.out.mono ?_);rintro e w2 ⟨rfl,ho2,hq2⟩;replace ho2:=Lib.hid ho2;replace hq2:=Lib.hid hq2)
        go_ret
        exact ⟨by rw [decide_eq_false (Int.not_le.2 HB.out)];rfl,HO.out.trans ho2.out (Fr.refl _ _),fun h=>absurd h (Int.not_le.2 HB.out)⟩
    · obtain rfl:m=n:=by omega
      have t1:¬ (m:Int) < m:=by omega
      have htk:l.take m=l:=by rw [HLN.out,List.take_length]
      rw [htk] at hq hs
      have HI:=Lib.hid (And.intro ho (And.intro hq hs))
      clear ho hq hs
      go_wp2_with fail
      go_ret
      exact ⟨by rw [decide_eq_true HI.out.2.2];rfl,HI.out.1,fun _=>HI.out.2.1⟩
def IntE (r:Int) (ok:Bool) (e:Ending):Prop:=if ok=true then e = .returned (.tuple #[.int .i64 r,.int .i64 0]) else ∃ k:Int,k≠0∧e = .returned (.tuple #[.int .i64 0,.int .i64 k])
set_option maxRecDepth 100000 in
set_option maxHeartbeats 4000000 in
theorem sadd_any {b:Option Addr} {n c:Nat} {l:List Int} (h:RI b n c l w) (hl:∀ k,k∈l→0≤k∧k≤1099511627776) :
    Calls Tryz.prog 96 #[.slice b n c] w fun e w'=>IntE (smI l) (decide (smI l≤1099511627776)) e∧Oth [] w w':=by
  have A1:Hid (∀ w',Oth [] w w'→Calls Tryz.prog 130 #[.slice b n c,.func (.func 83) #[] #[]] w' fun e w2=>e = .returned (.bool true)∧w2=w'):=fun w' ho=>all_right (h.oth ho) hl
  have A3:Hid (Calls Tryz.prog 130 #[.slice b n c,.func (.func 131) #[] #[.pointer (some ⟨w.heap.size,0,none⟩)]] (w.alloc (.cells #[.int .i64 0] 3)) fun e w'=>e = .returned (.bool (decide (smI l≤1099511627776)))∧Oth [w.heap.size] (w.alloc (.cells #[.int .i64 0] 3)) w'∧(smI l≤1099511627776→w'.heap[w.heap.size]?=some (.cells #[.int .i64 (smI l)] 3 (0,0)))):=by
    refine every131_any (h.oth ((Oth.refl _ _).alloc _)) hl (heap_alloc_new _ _) fun g off hb h0=>?_
    rcases h.cases with ⟨e,-⟩ | ⟨g',off',e,-,-,k,-⟩
    · omega
    · rw [e] at hb
      simp only [Option.some.injEq,Addr.mk.injEq] at hb
      omega
  obtain ⟨S,hS⟩:∃ S,S=smI l:=⟨_,rfl⟩
  rw [← hS] at A3 ⊢
  clear h hl hS
  unfold IntE
  by_cases hb:S≤1099511627776
  · rw [decide_eq_true hb] at A3 ⊢
    simp only [if_true]
    have HB:=Lib.hid hb
    clear hb
    go_enter Tryz.func96,Tryz.ntmps96
    go_wp2_with (first | ((with_reducible refine (A1.out _ (Oth.refl _ _)).mono ?_);rintro e w1 ⟨rfl,rfl⟩) | ((with_reducible refine A3.out.mono ?_);rintro e w1 ⟨rfl,o1,hc⟩;have c0:=cell_of_one (hc HB.out);have HO:=Lib.hid o1;clear o1 hc))
    go_ret2
    exact ⟨rfl,((Oth.refl _ _).alloc _).trans HO.out (fun k hk=>.inr (by simp at hk;omega))⟩
  · rw [decide_eq_false hb] at A3 ⊢
    simp only [Bool.false_eq_true,if_false]
    clear hb
    go_enter Tryz.func96,Tryz.ntmps96
    go_wp2_with (first | ((with_reducible refine (A1.out _ (Oth.refl _ _)).mono ?_);rintro e w1 ⟨rfl,rfl⟩) | ((with_reducible refine A3.out.mono ?_);rintro e w1 ⟨rfl,o1,hc⟩;have HO:=Lib.hid o1;clear o1 hc))
    go_ret2
    exact ⟨⟨17,by decide,rfl⟩,((Oth.refl _ _).alloc _).trans HO.out (fun k hk=>.inr (by simp at hk;omega))⟩
set_option maxRecDepth 100000 in
set_option maxHeartbeats 4000000 in
theorem smax_any {b:Option Addr} {n c:Nat} {l:List Int} (h:RI b n c l w) :
    Calls Tryz.prog 69 #[.slice b n c] w fun e w'=>(∃ x:Int,e = .returned (.int .i64 x))∧Oth [] w w':=by
  have HCAP:Hid (n≤9223372036854775807):=by have:=h.cap;unfold maxLen at this;exact (by omega:n≤9223372036854775807)
  have H:=Lib.hid h
  have HLN:Hid (n=l.length):=h.len
  clear h
  go_enter Tryz.func69,Tryz.ntmps69
  go_wp2_with fail
  go_loopw [8,3] (fun x y wr=>∃ m:Nat,m≤n∧x = .int .i64 m∧wr=w∧∃ z:Int,y = .int .i64 z) (fun x _ _=>n - (intOf x).toNat)
  case atStart=>exact ⟨0,by omega,rfl,rfl,0,rfl⟩
  case round=>
    obtain ⟨m,hm,rfl,rfl,z,rfl⟩:=hrel
    by_cases hlt:m < n
    · have t1:(m:Int) < n:=by omega
      have e1:IntKind.i64.wrap ((m:Int) + 1)=(m:Int) + 1:=IntWalk.i64_in _ (by have:=HCAP.out;omega)
      have hml:m < l.length:=by rw [← HLN.out];exact hlt
      obtain ⟨g,off,rfl,a1⟩:=H.out.at_ m (l.getD m 0) (getD_some hml)
      have a3:=World.block_lt_of_cell? _ _ a1
      generalize l.getD m 0=x at a1
      by_cases hxz:z < x
      · go_wp2_with fail
        go_roundw
        case rel=>exact ⟨m + 1,by omega,by go_num,by trivial,_,rfl⟩
        case measure=>simp [intOf];omega
      · go_wp2_with fail
        go_roundw
        case rel=>exact ⟨m + 1,by omega,by go_num,by trivial,_,rfl⟩
        case measure=>simp [intOf];omega
    · obtain rfl:m=n:=by omega
      have t1:¬ (m:Int) < m:=by omega
      go_wp2_with fail
      go_ret
      exact ⟨⟨_,rfl⟩,Oth.refl _ _⟩
set_option maxRecDepth 100000 in
set_option maxHeartbeats 4000000 in
theorem ccount_any {g c:Nat} {code:List (Nat × Nat)} (h:Row 63 2 g code.length c (cds code) w) (hl:code.length≤65536) (kd:Nat) :
    Calls Tryz.prog 70 #[.slice (some ⟨g,0,none⟩) code.length c,.int .i64 kd] w fun e w'=>(∃ x:Int,e = .returned (.int .i64 x))∧Oth [] w w':=by
  have H:=Lib.hid h
  clear h
  obtain ⟨len,hlen⟩:∃ len,len=code.length:=⟨_,rfl⟩
  have HL:=Lib.hid hlen
  rw [← hlen] at hl ⊢
  clear hlen
  go_enter Tryz.func70,Tryz.ntmps70
  go_wp2_with fail
  go_loopw [10,5] (fun x y wr=>∃ m z:Nat,m≤len∧x = .int .i64 m∧y = .int .i64 z∧z≤m∧Oth [] w wr) (fun x _ _=>len - (intOf x).toNat)
  case atStart=>exact ⟨0,0,by omega,rfl,rfl,by omega,Oth.refl _ _⟩
  case round=>
    obtain ⟨m,z,hm,rfl,rfl,hz,ho⟩:=hrel
    by_cases hlt:m < len
    · have t1:(m:Int) < len:=by omega
      obtain ⟨k,id,h1,h2,h3⟩:=cds_at code m (by rw [← HL.out];exact hlt)
      have c0:=ho.cell (H.out.cell h2) (by simp)
      have c1:=ho.cell (H.out.cell h3) (by simp)
      have c2:=World.block_lt_of_cell? _ _ c0
      have e1:IntKind.i64.wrap ((m:Int) + 1)=(m:Int) + 1:=IntWalk.i64_in _ (by omega)
      have e2:IntKind.i64.wrap ((z:Int) + 1)=(z:Int) + 1:=IntWalk.i64_in _ (by omega)
      have HO:=Lib.hid ho
      clear h1 h2 h3 ho
      by_cases hk:(k:Int)=kd
      · have t2:((k:Int)=(kd:Int))=True:=eq_true hk
        go_wp2_with fail
        go_roundw
        case rel=>exact ⟨m + 1,z + 1,by omega,by go_num,by go_num,by omega,HO.out.alloc _⟩
        case measure=>simp [intOf];omega
      · go_wp2_with fail
        go_roundw
        case rel=>exact ⟨m + 1,z,by omega,by go_num,rfl,by omega,HO.out.alloc _⟩
        case measure=>simp [intOf];omega
    · obtain rfl:m=len:=by omega
      have t1:¬ (m:Int) < m:=by omega
      have HO:=Lib.hid ho
      clear ho
      go_wp2_with fail
      go_ret
      exact ⟨⟨_,rfl⟩,HO.out⟩
end
end Go.Proofs.YtnpdcjdmbkcpbaaGreat.Ins
namespace Go.Proofs.YtnpdcjdmbkcpbaaGreat.Ins
open Go.RowKit
def cl (f:Nat→Nat):List (Nat × Nat)→List Int
  | []=>[]
  | (k,id) :: t=>if k=1∨k=2 then (f id:Int) :: cl f t else cl f t
theorem cl_append (f:Nat→Nat) (a b:List (Nat × Nat)):cl f (a ++ b)=cl f a ++ cl f b:=by
  induction a with
  | nil=>rfl
  | cons x a ih=>
    obtain ⟨k,id⟩:=x
    simp only [List.cons_append,cl,ih]
    split <;> simp
theorem cl_next {f:Nat→Nat} {raw:List (Nat × Nat)} {m k id:Nat} (h:raw[m]?=some (k,id)):cl f (raw.take (m + 1))=cl f (raw.take m) ++ (if k=1∨k=2 then [(f id:Int)] else []):=by
  rw [List.take_add_one,h,cl_append]
  simp only [Option.toList_some,cl]
theorem cl_len (f:Nat→Nat) (raw:List (Nat × Nat)):(cl f raw).length≤raw.length:=by
  induction raw with
  | nil=>simp [cl]
  | cons x a ih=>
    obtain ⟨k,id⟩:=x
    simp only [cl]
    split <;> simp <;> omega
theorem cl_mem {f:Nat→Nat} {raw:List (Nat × Nat)} {x:Int} (h:x∈cl f raw):∃ k id,(k,id)∈raw∧(k=1∨k=2)∧x=(f id:Int):=by
  induction raw with
  | nil=>simp [cl] at h
  | cons y a ih=>
    obtain ⟨k,id⟩:=y
    simp only [cl] at h
    split at h
    · rename_i hk
      rcases List.mem_cons.1 h with e | e
      · exact ⟨k,id,by simp,hk,e⟩
      · obtain ⟨k',id',h1,h2,h3⟩:=ih e
        exact ⟨k',id',by simp [h1],h2,h3⟩
    · obtain ⟨k',id',h1,h2,h3⟩:=ih h
      exact ⟨k',id',by simp [h1],h2,h3⟩
section
variable {w:World}
theorem one_new2 (w:World) (A:Obj) (a:Value) (t:TypeId):∀ j u,[a][j]?=some u→((w.alloc A).alloc (.cells #[a] t)).cell? ((⟨w.heap.size + 1,0,none⟩:Addr).add j)=some u:=by
  have h:=one_new (w.alloc A) a t
  rw [World.size_alloc] at h
  exact h
theorem ri_of_owns {v:Value} {n:Nat} {l:List Int} (h:w.ownsRow 0 3 1 v n (ivl l)) (hw:∀ k,k∈l→-9223372036854775808≤k∧k≤9223372036854775807):∃ b c,v = .slice b n c∧RI b n c l w:=by
  rcases Nat.eq_zero_or_pos n with h0 | h0
  · subst h0
    obtain ⟨hl,h3⟩:=h
    have hl0:l=[]:=List.eq_nil_of_length_eq_zero (by simpa [ivl] using hl)
    subst hl0
    rcases h3 with ⟨rfl,-⟩ | ⟨g,c,_,rfl,_,_,_,hc,_⟩
    · exact ⟨none,0,rfl,rfl,by unfold maxLen;omega,by simp,by simp⟩
    · exact ⟨_,c,rfl,rfl,⟨by omega,hc⟩,by simp,by simp⟩
  · obtain ⟨g,c,rfl,-,hR⟩:=row_of_owns h h0
    exact ⟨_,c,rfl,ri_row hR hw⟩
set_option maxRecDepth 100000 in
set_option maxHeartbeats 4000000 in
theorem ccost_any {g c gc cc n:Nat} {raw:List (Nat × Nat)} {f:Nat→Nat} (h:Row 63 2 g raw.length c (cds raw) w) (hl:raw.length≤65536) (hn:n≤512) (hr:∀ k id,(k,id)∈raw→wright n k id)
    (hf:∀ i,1≤i→i≤n→w.cell? ⟨gc,i,none⟩=some (.int .i64 (f i:Nat))) (hb:∀ i,1≤i→i≤n→f i≤1099511627776) :
    Calls Tryz.prog 68 #[.slice (some ⟨g,0,none⟩) raw.length c,.slice (some ⟨gc,0,none⟩) (n + 1) cc] w fun e w'=>IntE (smI (cl f raw)) (decide (smI (cl f raw)≤1099511627776)) e∧Oth [] w w':=by
  have NK:=Lib.hid (ccheck_any h hl hn hr)
  have H:=Lib.hid h
  have HR:=Lib.hid hr
  have HF:=Lib.hid hf
  have HB:=Lib.hid hb
  have HCM:Hid (∀ x,x∈cl f raw→0≤x∧x≤1099511627776):=fun x hx=>by
    obtain ⟨k,id,h1,h2,rfl⟩:=cl_mem hx
    have h3:=hr k id h1
    rcases h3 with ⟨h4,_⟩ | ⟨_,h5,h6⟩
    · omega
    · have:=hb id h5 h6;omega
  obtain ⟨i0,hi,hz0,hz1,hz2⟩:=info_parts' info3q
  obtain ⟨len,hlen⟩:∃ len,len=raw.length:=⟨_,rfl⟩
  have HL:=Lib.hid hlen
  rw [← hlen] at NK hl ⊢
  obtain ⟨S,hS⟩:∃ S,S=smI (cl f raw):=⟨_,rfl⟩
  have HS:=Lib.hid hS
  rw [← hS]
  clear h hr hf hb hlen hS
  go_enter Tryz.func68,Tryz.ntmps68
  go_wp2_with (go_at_call 34;(with_reducible refine NK.out.mono ?_);rintro e w1 ⟨rfl,ho1⟩;replace ho1:=Lib.hid ho1)
  go_loopw [19,7] (fun x y wr=>∃ m:Nat,m≤len∧x = .int .i64 m∧wr.ownsRow 0 3 1 y (cl f (raw.take m)).length (ivl (cl f (raw.take m)))∧Oth [] w wr∧∀ k,y.ownBlock=some k→w.heap.size≤k) (fun x _ _=>len - (intOf x).toNat)
  case atStart=>exact ⟨0,by omega,rfl,⟨rfl,.inl ⟨rfl,rfl⟩⟩,ho1.out,fun k hk=>by cases hk⟩
  case round=>
    obtain ⟨m,hm,rfl,hown,ho,hown2⟩:=hrel
    by_cases hlt:m < len
    · have t1 : (m:Int) < len:=by omega
      obtain ⟨k,id,h1,h2,h3⟩:=cds_at raw m (by rw [← HL.out];exact hlt)
      have c0:=ho.cell (H.out.cell h2) (by simp)
      have c1:=ho.cell (H.out.cell h3) (by simp)
      have c2:=World.block_lt_of_cell? _ _ c0
      have e1:IntKind.i64.wrap ((m:Int) + 1)=(m:Int) + 1:=IntWalk.i64_in _ (by omega)
      have hw:=HR.out k id (List.mem_of_getElem? h1)
      have hnx:=cl_next (f:=f) h1
      have hll:=cl_len f (raw.take m)
      have hl2:(raw.take m).length≤m:=by simp;omega
      have HO:=Lib.hid ho
      have HOWN:=Lib.hid (And.intro hown hown2)
      have HNX:=Lib.hid hnx
      clear h1 h2 h3 ho hown hown2 hnx
      by_cases hk:k=1∨k=2
      · have hid:1≤id∧id≤n:=by rcases hw with ⟨h,_⟩ | ⟨_,h⟩ <;> omega
        have d0:=HO.out.cell (HF.out id hid.1 hid.2) (by simp)
        have d1:=World.block_lt_of_cell? _ _ d0
        have hfb:=HB.out id hid.1 hid.2
        have t2:¬ ((n:Int) + 1≤(id:Int)):=by omega
        have t3:(id:Int) < (n:Int) + 1:=by omega
        have hif:(if k=1∨k=2 then [(f id:Int)] else [])=[(f id:Int)]:=if_pos hk
        have NR:Hid (∀ w',Calls Tryz.prog 83 #[.int .i64 (f id:Nat)] w' fun e w2=>e = .returned (.bool true)∧w2=w'):=fun w'=>safe_right (by omega)
        have hnx2:cl f (raw.take (m + 1))=cl f (raw.take m) ++ [(f id:Int)]:=by rw [HNX.out,hif]
        have HNX2:=Lib.hid hnx2
        clear hnx2
        generalize f id=z at d0 NR HNX2 hfb hif
        clear HNX hw hif
        generalize hcl:cl f (raw.take m)=C at HOWN HNX2 hll
        rcases hk with rfl | rfl
        all_goals
          go_wp2_with (first
            | (go_at_call 83;(with_reducible refine (NR.out _).mono ?_);rintro e w5 ⟨rfl,rfl⟩)
            | (at_builtin;refine wpList_append_own_at _ rfl _ _ 22 rfl 0 3 i0 _ 1 8 Tryz.underlying22 hi hz0 hz1 hz2 rfl (by decide) u7 C.length (ivl C) rfl ((HOWN.out.1.alloc _).alloc _) ⟨wr.heap.size + 1,0,none⟩ 1 1 [.int .i64 z] rfl rfl ?a1 ?a2 ?a3 ?a4 ?a5 ?_))
          case a1=>exact one_new2 _ _ _ _
          case a2=>intro u hu;simp at hu;subst hu;rfl
          case a3=>unfold maxLen;omega
          case a4=>omega
          case a5=>omega
          intro v' w6 hown6 hgrow hx1 hx2
          have ho6:Oth [] w w6:=((HO.out.alloc _).alloc _).grown hgrow (fun k hk=>.inr (HOWN.out.2 k hk))
          have HF9:Hid (w6.ownsRow 0 3 1 v' (C ++ [(z:Int)]).length (ivl (C ++ [(z:Int)]))∧Oth [] w w6∧∀ k,v'.ownBlock=some k→w.heap.size≤k):=by
            refine ⟨by simpa [ivl] using hown6,ho6,fun k hk=>?_⟩
            rcases hx2 with e | e
            · exact HOWN.out.2 k (by rw [← e];exact hk)
            · rw [e] at hk
              simp at hk
              subst hk
              have:=HO.out.size
              omega
          clear hown6 hgrow hx1 hx2 ho6
          go_wp2_with fail
          go_roundw
          case rel=>exact ⟨m + 1,by omega,by go_num,by rw [HNX2.out];exact HF9.out.1,HF9.out.2.1,HF9.out.2.2⟩
          case measure=>simp [intOf];omega
      · have k1:((k:Int) != 1)=true:=by simp;omega
        have k2:((k:Int) != 2)=true:=by simp;omega
        have HNX2:Hid (cl f (raw.take (m + 1))=cl f (raw.take m)):=by
          have h9:=HNX.out
          rw [if_neg hk,List.append_nil] at h9
          exact h9
        clear HNX hw hk
        go_wp2_with fail
        go_roundw
        case rel=>exact ⟨m + 1,by omega,by go_num,by rw [HNX2.out];exact Row.own HOWN.out.1 ((Oth.refl [] wr).alloc _) (fun g hg=>by simp),HO.out.alloc _,HOWN.out.2⟩
        case measure=>simp [intOf];omega
    · obtain rfl:m=len:=by omega
      have t1:¬ (m:Int) < m:=by omega
      have htk:raw.take m=raw:=by rw [HL.out,List.take_length]
      rw [htk] at hown
      obtain ⟨bb,cb,rfl,hri⟩:=ri_of_owns hown (fun k hk=>by have:=HCM.out k hk;omega)
      have NA:=Lib.hid (sadd_any hri HCM.out)
      rw [← HS.out] at NA
      have HO:=Lib.hid ho
      unfold IntE at NA
      clear ho hown hown2 hri
      by_cases hb:S≤1099511627776
      · have HB2:=Lib.hid hb
        rw [decide_eq_true hb] at NA
        simp only [if_true] at NA
        clear hb
        go_wp2_with (go_at_call 96;(with_reducible refine NA.out.mono ?_);rintro e w5 ⟨rfl,ho5⟩;replace ho5:=Lib.hid ho5)
        go_ret2
        refine ⟨?_,HO.out.trans ho5.out (Fr.nil _ _)⟩
        unfold IntE
        rw [decide_eq_true HB2.out,if_pos rfl]
        rfl
      · have hgt:1099511627776 < S:=by omega
        have HB2:=Lib.hid hgt
        rw [decide_eq_false hb] at NA
        simp only [Bool.false_eq_true,if_false] at NA
        clear hb hgt
        go_wp2_with fail
        go_at_call 96
        (with_reducible refine NA.out.mono ?_)
        rintro e w5 ⟨⟨x,hx,rfl⟩,ho5⟩
        replace ho5:=Lib.hid ho5
        have hx':(x != 0)=true:=by simp [hx]
        go_wp2_with fail
        go_ret2
        refine ⟨?_,HO.out.trans ho5.out (Fr.nil _ _)⟩
        unfold IntE
        rw [decide_eq_false (Int.not_le.2 HB2.out),if_neg (by simp)]
        exact ⟨12,by decide,rfl⟩
end
end Go.Proofs.YtnpdcjdmbkcpbaaGreat.Ins
