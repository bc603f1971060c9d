/- The walk of slices.Insert at blocks, one block: in place or into a new row. Condition: the row has at most 1000 blocks. The walk of a look at a channel that is nil. Rows in memory and frames: lemmas for the walks of package table. The walk of slices.Insert at entries, one entry: in place or into a new row. Condition: the row has at most 1000 entries. No condition. -/
import Derived.Test.YtnpdcjdmbkcpbaaGreatXa
import Derived.Conc.LoneSelect
import Derived.Deep.Cut
import Derived.Test.YtnpdcjdmbkcpbaaGreatRows
import Derived.WalkKit
import Derived.WalkSpells
import Derived.WalkLawsBesides
import Derived.Lib.Hide
import Derived.Below
import Derived.OneCell
import Derived.LoopTactic
import Derived.Outline
import Derived.BigQuiet
import Derived.Deep.QuietTactic
import Derived.Lib.Overlaps
import Derived.Lib.AppendZerosOnto
import Derived.Laws.IdiomCopy
import Derived.Laws.Externs
import Derived.Laws.NewBlocks
import Derived.Lib.JoinLaws
import Derived.Lib.SliceRun
import Derived.Maps.AppendAt
import Derived.Deep.RegionLaw
set_option linter.unusedVariables false
set_option linter.unusedSimpArgs false
namespace Go.Proofs.YtnpdcjdmbkcpbaaGreat.Ins
open Go.RowKit
theorem Tryz.info269:(Tryz.prog.info? 269).map (fun i=>(i.zero,i.size,i.bytes))=some (some (.agg #[.int .i64 0,.int .i64 0,.int .i64 0]),3,24):=by kernel_rfl
def Vb (w:World) (vb:Nat) (a b c:Value):Prop:=∃ cv:Array Value,w.heap[vb]?=some (.cells cv 269 (0,0))∧cv[0]?=some a∧cv[1]?=some b∧cv[2]?=some c
theorem Vb.lt {w:World} {vb:Nat} {a b c:Value} (h:Vb w vb a b c):vb < w.heap.size:=by obtain ⟨cv,h,_⟩:=h;exact lt_of_block h
theorem Vb.cell {w:World} {vb:Nat} {a b c:Value} (h:Vb w vb a b c) (j:Nat) (v:Value) (hj : [a,b,c][j]?=some v):w.cell? ⟨vb,0 + j,none⟩=some v:=by
  obtain ⟨cv,h,h1,h2,h3⟩:=h
  match j with
  | 0=>simp at hj;subst hj;simp [World.cell?,h,h1]
  | 1=>simp at hj;subst hj;simp [World.cell?,h,h2]
  | 2=>simp at hj;subst hj;simp [World.cell?,h,h3]
  | j + 3=>simp at hj
theorem Vb.at_ {w:World} {vb:Nat} {a b c:Value} (h:Vb w vb a b c) (j:Nat) (v:Value) (hj : [a,b,c][j]?=some v):w.cell? ((⟨vb,0,none⟩:Addr).add j)=some v:=by
  rw [Addr.add_lit];exact h.cell j v hj
theorem Vb.shape {w:World} {vb:Nat} {a b c:Value} (h:Vb w vb a b c):∃ k,w.shape? vb=some (269,k):=by
  obtain ⟨cv,h,_⟩:=h;exact ⟨cv.size,by simp [World.shape?,h]⟩
theorem Vb.free {w:World} {vb:Nat} {a b c:Value} (h:Vb w vb a b c) (j:Nat):w.frozen? ⟨vb,j,none⟩=false:=by
  obtain ⟨cv,h,_⟩:=h;simp [World.frozen?,h]
set_option maxHeartbeats 4000000 in
set_option maxRecDepth 100000 in
theorem insert_end (g n cap vb:Nat) (xs:List Value) (a b c:Value) (w:World) (hr:Row 269 3 g n cap xs w) (hv:Vb w vb a b c) (h1:a.oneCell'=true) (h2:b.oneCell'=true) (h3:c.oneCell'=true) (hn:n≤1000) :
    Calls Tryz.prog 222 #[.slice (some ⟨g,0,none⟩) n cap,.int .i64 n,.slice (some ⟨vb,0,none⟩) 1 1] w fun e w'=>∃ g' cap',e = .returned (.slice (some ⟨g',0,none⟩) (n + 1) cap')∧Row 269 3 g' (n + 1) cap' (xs ++ [a,b,c]) w'∧Oth [g] w w'∧(g'=g∨w.heap.size≤g'):=by
  obtain ⟨i0,hi,hz0,hz1,hz2⟩:=info_parts Tryz.info269
  obtain ⟨hc1,hc2⟩:=hr.cap_le
  have hc3:cap≤9223372036854775807:=by unfold maxLen at hc2;omega
  have HR:=Lib.hid hr
  have HV:=Lib.hid hv
  clear hr hv hc2
  by_cases hq:cap=n
  all_goals (
    go_enter Tryz.func222,Tryz.ntmps222
    go_wp2_with (at_builtin;refine wpList_append_own_at _ rfl _ _ 189 rfl 0 269 i0 _ 3 24 Tryz.underlying189 hi hz0 hz1 hz2 rfl (by decide) _ _ _ rfl HR.out.owns ⟨vb,0,none⟩ 1 1 [a,b,c] rfl rfl ?c1 ?c2 ?c3 ?c4 ?c5 ?_)
    case c1=>
      have hv:=HV.out
      intro j u hu
      match j with
      | 0=>simp at hu;subst hu;exact hv.at_ _ _ rfl
      | 1=>simp at hu;subst hu;exact hv.at_ _ _ rfl
      | 2=>simp at hu;subst hu;exact hv.at_ _ _ rfl
      | j + 3=>simp at hu
    case c2=>intro u hu;simp at hu;rcases hu with rfl | rfl | rfl <;> assumption
    case c3=>unfold maxLen;omega
    case c4=>omega
    case c5=>omega
    intro v' w1 hown1 hgrow1 hx1 hx2
    have ho:Oth [g] w w1:=(Oth.refl _ _).grown hgrow1 (fun k hk=>by simp [Value.ownBlock] at hk;subst hk;exact .inl (by simp))
    obtain ⟨g',cap',rfl,_,hR⟩:=row_of_owns hown1 (by omega)
    have HX:=Lib.hid hx2
    have HR':=Lib.hid hR
    clear hown1 hgrow1 hR hx1 hx2
    go_wp2
    go_ret
    refine ⟨g',cap',rfl,HR'.out,ho,?_⟩
    have:=HX.out
    simp [Value.ownBlock] at this
    omega)
set_option maxHeartbeats 4000000 in
set_option maxRecDepth 100000 in
theorem insert_shift (g n cap i vb:Nat) (xs:List Value) (a b c:Value) (w:World) (hr:Row 269 3 g n cap xs w) (hv:Vb w vb a b c) (hne:vb≠g) (h1c:∀ v∈xs,v.oneCell'=true) (h1:a.oneCell'=true) (h2:b.oneCell'=true) (h3:c.oneCell'=true) (hn:n≤1000) (hi:i < n) (hroom:n + 1≤cap) :
    Calls Tryz.prog 222 #[.slice (some ⟨g,0,none⟩) n cap,.int .i64 i,.slice (some ⟨vb,0,none⟩) 1 1] w fun e w'=>e = .returned (.slice (some ⟨g,0,none⟩) (n + 1) cap)∧w'=(w.drew.setCells g ((i + 1) * 3) (xs.drop (i * 3))).setCells g (i * 3) [a,b,c]:=by
  obtain ⟨i0,hi0,hz0,hzs,hzb⟩:=info_parts Tryz.info269
  have hc63:cap≤9223372036854775807:=by have:=hr.cap_le.2;unfold maxLen at this;omega
  have hz2:¬ ((i:Int)=(n:Int)):=by omega
  have hsz:(Tryz.prog.info? 269).map (·.size)=some 3:=by rw [hi0];simp [hzs]
  have hcl:xs.length=n * 3:=hr.len
  have hk:∃ k,w.shape? g=some (269,k)∧k≠0:=by
    obtain ⟨cur,hh,_,_,hs,_⟩:=hr
    exact ⟨cur.size,by simp [World.shape?,hh],by omega⟩
  obtain ⟨kB,hsb,hkB⟩:=hk
  obtain ⟨kA,hsa⟩:=hv.shape
  have hfa:∀ j,w.frozen? ⟨vb,j,none⟩=false:=hv.free
  have hov:∀ lb cb,(callFunc 263 #[.slice (some ⟨vb,0,none⟩) 1 1,.slice (some ⟨g,(i + 1) * 3,none⟩) lb cb]).run Tryz.prog w = .ok (.value (.bool false)) w:=fun lb cb=>by
    rw [run_callFunc_extern Tryz.func263 (by kernel_rfl) (by kernel_rfl) (by kernel_rfl) (e:=Extern.SlicesOverlaps.overlaps #[189,189] #[4]) (by kernel_rfl),
      Lib.run_overlaps_apart w 189 4 269 Tryz.underlying189 3 (fun w=>by simp [sizeOf,typeInfo,hi0,hzs]) ⟨vb,0,none⟩ ⟨g,(i + 1) * 3,none⟩ 1 1 lb cb hne 269 269 kA kB hsa hsb hkB (hfa 0) (hfa kA)]
    rfl
  have hdl:(xs.drop (i * 3)).length=(n - i) * 3:=by rw [List.length_drop,hcl];omega
  have hw1:IntKind.i64.wrap ((i:Int) + 1)=(i:Int) + 1:=by rw [IntKind.wrap_i64];omega
  have hin:i≤n:=by omega
  have hb1:(0:Int)≤(i:Int) + 1:=by omega
  have htn:((i:Int) + 1).toNat=i + 1:=by omega
  have hb2:¬ (cap=i + 1):=by omega
  have hb3:(i:Int)≤(n:Int) + 1:=by omega
  have hb4:¬ (cap=i):=by omega
  have hcap:n + 1≤cap:=hroom
  have hcp1:∀ ty dc sc,(Builtin.copy_ #[189,189] ty #[.slice (some ⟨g,(i + 1) * 3,none⟩) (n - i) dc,.slice (some ⟨g,i * 3,none⟩) (n + 1 - i) sc]).run Tryz.prog w.drew = .ok (goInt (Nat.min (n + 1 - i) (n - i))) (w.drew.setCells g ((i + 1) * 3) (xs.drop (i * 3))):=fun ty dc sc=>
    run_copy_cellsZ w.drew _ _ ty 269 3 g ((i + 1) * 3) (n - i) dc ⟨g,i * 3,none⟩ (n + 1 - i) sc (xs.drop (i * 3)) Tryz.underlying189 hsz (by rw [hdl];simp only [Nat.min_def];split <;> omega)
      (fun j v hj=>by rw [Addr.add_lit];exact hr.drew.cell (by rwa [List.getElem?_drop] at hj))
      (fun j hj=>hr.drew.there (by omega)) (fun j hj=>hr.drew.free _) (fun v hv=>h1c v (List.mem_of_mem_drop hv))
  obtain ⟨W1,hW1⟩:∃ W1,W1=w.drew.setCells g ((i + 1) * 3) (xs.drop (i * 3)):=⟨_,rfl⟩
  have hsp1:∀ k,k < cap * 3→(W1.cell? ⟨g,k,none⟩).isSome=true:=fun k hk=>by
    obtain ⟨cur,hh,_,_,hs,_⟩:=hr
    have:=heap_setCells g (xs.drop (i * 3)) ((i + 1) * 3) w.drew cur 269 hh
    rw [hW1]
    simp only [World.cell?,this]
    rw [Array.getElem?_eq_getElem (by rw [wr_size];omega)];rfl
  have hcp2:∀ (W:World),(∀ x,W.cell? x=W1.cell? x)→(∀ x,W.frozen? x=W1.frozen? x)→∀ ty dc,(Builtin.copy_ #[189,189] ty #[.slice (some ⟨g,i * 3,none⟩) (n + 1 - i) dc,.slice (some ⟨vb,0,none⟩) 1 1]).run Tryz.prog W = .ok (goInt (Nat.min 1 (n + 1 - i))) (W.setCells g (i * 3) [a,b,c]):=fun W hWc hWf ty dc=>
    run_copy_cellsZ W _ _ ty 269 3 g (i * 3) (n + 1 - i) dc ⟨vb,0,none⟩ 1 1 [a,b,c] Tryz.underlying189 hsz (by simp only [Nat.min_def];split <;> simp;omega)
      (fun j v hj=>by
        rw [Addr.add_lit,hWc,hW1,World.cell?_setCells_out g _ _ _ _ (fun h _=>absurd h hne)]
        match j with
        | 0=>simp at hj;subst hj;exact hv.cell _ _ rfl
        | 1=>simp at hj;subst hj;exact hv.cell _ _ rfl
        | 2=>simp at hj;subst hj;exact hv.cell _ _ rfl
        | j + 3=>simp at hj)
      (fun j hj=>by rw [hWc];simp at hj;exact hsp1 _ (by omega)) (fun j hj=>by rw [hWf,hW1,World.frozen?_setCells];exact hr.free _) (by simp [h1,h2,h3])
  rw [← hW1] at hcp1
  clear hr hv hsa hfa hsb hsp1 h1c hdl hcl
  go_enter Tryz.func222,Tryz.ntmps222
  go_wp2_with (simp only [hov])
  go_region_law (refine step_copy_runI rfl _ _ 189 189 rfl _ _ (by simp [Act.eval,Act.put]) (by simp [Act.eval,Act.put]) (hcp1 _ _ _) ?_)
  go_wp2_with (at_builtin;refine wpList_copy_runI _ rfl _ _ 189 189 rfl _ _ rfl rfl (hcp2 _ (fun _=>rfl) (fun _=>rfl) _ _) ?_)
  go_ret
  first | exact ⟨rfl,rfl⟩ | exact ⟨rfl,by rw [hW1]⟩
set_option maxHeartbeats 4000000 in
set_option maxRecDepth 100000 in
theorem insert_grow (g n cap i vb:Nat) (xs:List Value) (a b c:Value) (w:World) (hr:Row 269 3 g n cap xs w) (hv:Vb w vb a b c) (h1c:∀ v∈xs,v.oneCell'=true) (h1:a.oneCell'=true) (h2:b.oneCell'=true) (h3:c.oneCell'=true) (hn:n≤1000) (hi:i < n) (hroom:cap < n + 1) :
    Calls Tryz.prog 222 #[.slice (some ⟨g,0,none⟩) n cap,.int .i64 i,.slice (some ⟨vb,0,none⟩) 1 1] w fun e w'=>∃ (G:Nat) (ROW:Array Value),e = .returned (.slice (some ⟨w.heap.size,0,none⟩) (n + 1) G)∧n + 1≤G∧G≤maxLen∧ROW.size=G * 3∧(∀ j,j < i * 3→ROW[j]?=xs[j]?) ∧
      w'=(((w.alloc (.cells ROW 269)).drew.setCells w.heap.size (i * 3) [a,b,c]).drew).setCells w.heap.size ((i + 1) * 3) (xs.drop (i * 3)):=by
  obtain ⟨i0,hi0,hz0,hzs,hzb⟩:=info_parts Tryz.info269
  have hnc:n≤cap:=hr.cap_le.1
  have hc63:cap≤9223372036854775807:=by omega
  have hz2:¬ ((i:Int)=(n:Int)):=by omega
  have hz3:(cap:Int) < (n:Int) + 1:=by omega
  have hsz:(Tryz.prog.info? 269).map (·.size)=some 3:=by rw [hi0];simp [hzs]
  have hcl:xs.length=n * 3:=hr.len
  have hbw:g < w.heap.size:=hr.lt
  have hvw:vb < w.heap.size:=hv.lt
  have hkk:(n:Int) + 1 - (i:Int)=((n + 1 - i:Nat):Int):=by omega
  have hik:i + (n + 1 - i)=n + 1:=by omega
  have hold:(Builtin.firstCells i0.size i (.slice (some ⟨g,0,none⟩) i cap)).run Tryz.prog w.drew = .ok (xs.take (i * 3)).toArray w.drew:=by
    rw [hzs]
    exact run_firstCells_some w.drew 3 i ⟨g,0,none⟩ i cap (xs.take (i * 3)) (by rw [List.length_take];omega) (fun j v hj=>by
      rw [Addr.add_lit,Nat.zero_add]
      rw [List.getElem?_take] at hj
      split at hj
      · exact hr.drew.cell hj
      · cases hj)
  have hrz:∀ ty,(Builtin.append_ #[189,3] ty #[.slice (some ⟨g,0,none⟩) i cap,.int .i64 ((n:Int) + 1 - (i:Int))]).run Tryz.prog w =
      .ok (.slice (some ⟨w.heap.size,0,none⟩) (n + 1) (grownCap w (n + 1) cap 269)) (w.drew.alloc (.cells ((xs.take (i * 3)).toArray ++ Builtin.zeroCells (Value.agg #[.int .i64 0,.int .i64 0,.int .i64 0]).cells (n + 1 - i) ++ Builtin.zeroCells (Value.agg #[.int .i64 0,.int .i64 0,.int .i64 0]).cells (grownCap w (n + 1) cap 269 - (n + 1))) 269)):=fun ty=>by
    have h:=Lib.run_append_grow_zeros w 189 3 ty 269 i0 _ .i64 .i64 Tryz.underlying189 Tryz.underlying3 hi0 hz0 (some ⟨g,0,none⟩) i cap (xs.take (i * 3)) hold (n + 1 - i) (by omega) (by omega) (by omega) (by omega) (by rw [hzb];omega) (by rw [hzb,hik];exact growslice_fits hroom (by omega))
    rw [hik] at h
    rw [hkk]
    exact h
  obtain ⟨G,hG⟩:∃ G,G=grownCap w (n + 1) cap 269:=⟨_,rfl⟩
  rw [← hG] at hrz
  have hGn:n + 1≤G:=by rw [hG];exact grownCap_ge w _ _ _
  have hGm:G≤maxLen:=by rw [hG];exact grownCap_le_maxLen w (n + 1) cap 269 (by unfold maxLen;omega)
  obtain ⟨ROW,hROW⟩:∃ ROW:Array Value,ROW=(xs.take (i * 3)).toArray ++ Builtin.zeroCells (Value.agg #[.int .i64 0,.int .i64 0,.int .i64 0]).cells (n + 1 - i) ++ Builtin.zeroCells (Value.agg #[.int .i64 0,.int .i64 0,.int .i64 0]).cells (G - (n + 1)):=⟨_,rfl⟩
  rw [← hROW] at hrz
  have hRl:ROW.size=G * 3:=by
    rw [hROW]
    simp [Builtin.zeroCells,Value.cells]
    omega
  have hRj:∀ j,j < i * 3→ROW[j]?=xs[j]?:=fun j hj=>by
    rw [hROW,Array.append_assoc,Array.getElem?_append_left (by simp;omega)]
    simp [List.getElem?_take,hj]
  obtain ⟨W1,hW1⟩:∃ W1,W1=w.drew.alloc (.cells ROW 269):=⟨_,rfl⟩
  rw [← hW1] at hrz
  have hN:∀ j,j < G * 3→(W1.cell? ⟨w.heap.size,j,none⟩).isSome=true:=fun j hj=>by
    rw [hW1,World.cell?_alloc_at (w:=w.drew) ROW _ w.heap.size j rfl,Array.getElem?_eq_getElem (by omega)];rfl
  have hNf:∀ j,W1.frozen? ⟨w.heap.size,j,none⟩=false:=fun j=>by rw [hW1];exact World.frozen?_alloc_at (w:=w.drew) ROW _ w.heap.size j rfl
  have hOb:∀ j v,w.cell? ⟨g,j,none⟩=some v→W1.cell? ⟨g,j,none⟩=some v:=fun j v h=>by rw [hW1,World.cell?_alloc_past (w:=w.drew) _ g j hbw];exact h
  have hOv:∀ j v,w.cell? ⟨vb,j,none⟩=some v→W1.cell? ⟨vb,j,none⟩=some v:=fun j v h=>by rw [hW1,World.cell?_alloc_past (w:=w.drew) _ vb j hvw];exact h
  have hcpA:∀ (W:World),(∀ x,W.cell? x=W1.cell? x)→(∀ x,W.frozen? x=W1.frozen? x)→∀ ty dc,(Builtin.copy_ #[189,189] ty #[.slice (some ⟨w.heap.size,i * 3,none⟩) (n + 1 - i) dc,.slice (some ⟨vb,0,none⟩) 1 1]).run Tryz.prog W = .ok (goInt (Nat.min 1 (n + 1 - i))) (W.setCells w.heap.size (i * 3) [a,b,c]):=fun W hWc hWf ty dc=>
    run_copy_cellsZ W _ _ ty 269 3 w.heap.size (i * 3) (n + 1 - i) dc ⟨vb,0,none⟩ 1 1 [a,b,c] Tryz.underlying189 hsz (by simp only [Nat.min_def];split <;> simp;omega)
      (fun j v hj=>by
        rw [Addr.add_lit,hWc]
        refine hOv _ v ?_
        match j with
        | 0=>simp at hj;subst hj;exact hv.cell _ _ rfl
        | 1=>simp at hj;subst hj;exact hv.cell _ _ rfl
        | 2=>simp at hj;subst hj;exact hv.cell _ _ rfl
        | j + 3=>simp at hj)
      (fun j hj=>by rw [hWc];simp at hj;exact hN _ (by omega)) (fun j hj=>by rw [hWf];exact hNf _) (by simp [h1,h2,h3])
  have hG63:G≤9223372036854775807:=by unfold maxLen at hGm;omega
  have hGi:¬ (G=i):=by omega
  have hGim:¬ (G=i + 1):=by omega
  have hci:¬ (cap=i):=by omega
  have hbN:g≠w.heap.size:=by omega
  have hdl:(xs.drop (i * 3)).length=(n - i) * 3:=by rw [List.length_drop,hcl];omega
  have hcpB:∀ (W:World),(∀ x,W.cell? x=(W1.setCells w.heap.size (i * 3) [a,b,c]).cell? x)→(∀ x,W.frozen? x=(W1.setCells w.heap.size (i * 3) [a,b,c]).frozen? x)→∀ ty dc sc,(Builtin.copy_ #[189,189] ty #[.slice (some ⟨w.heap.size,(i + 1) * 3,none⟩) (n - i) dc,.slice (some ⟨g,i * 3,none⟩) (n - i) sc]).run Tryz.prog W = .ok (goInt (Nat.min (n - i) (n - i))) (W.setCells w.heap.size ((i + 1) * 3) (xs.drop (i * 3))):=fun W hWc hWf ty dc sc=>
    run_copy_cellsZ W _ _ ty 269 3 w.heap.size ((i + 1) * 3) (n - i) dc ⟨g,i * 3,none⟩ (n - i) sc (xs.drop (i * 3)) Tryz.underlying189 hsz (by rw [hdl];simp only [Nat.min_def];split <;> omega)
      (fun j v hj=>by
        rw [Addr.add_lit,hWc,World.cell?_setCells_out _ _ _ _ _ (fun h _=>absurd h hbN)]
        exact hOb _ v (hr.cell (by rwa [List.getElem?_drop] at hj)))
      (fun j hj=>by
        rw [hWc]
        have hh:W1.heap[w.heap.size]?=some (.cells ROW 269 (0,0)):=by rw [hW1];exact heap_alloc_new w.drew _
        have:=heap_setCells w.heap.size [a,b,c] (i * 3) W1 ROW 269 hh
        simp only [World.cell?,this]
        rw [Array.getElem?_eq_getElem (by rw [wr_size];omega)];rfl)
      (fun j hj=>by rw [hWf,World.frozen?_setCells];exact hNf _) (fun v hv=>h1c v (List.mem_of_mem_drop hv))
  subst hW1
  have hE1:∀ x,((w.alloc (.cells ROW 269)).drew).cell? x=(w.drew.alloc (.cells ROW 269)).cell? x:=fun x=>rfl
  have hE2:∀ x,((w.alloc (.cells ROW 269)).drew).frozen? x=(w.drew.alloc (.cells ROW 269)).frozen? x:=fun x=>rfl
  have hF1:∀ x,(((w.alloc (.cells ROW 269)).drew.setCells w.heap.size (i * 3) [a,b,c]).drew).cell? x=((w.drew.alloc (.cells ROW 269)).setCells w.heap.size (i * 3) [a,b,c]).cell? x:=fun x=>rfl
  have hF2:∀ x,(((w.alloc (.cells ROW 269)).drew.setCells w.heap.size (i * 3) [a,b,c]).drew).frozen? x=((w.drew.alloc (.cells ROW 269)).setCells w.heap.size (i * 3) [a,b,c]).frozen? x:=fun x=>rfl
  have hw1:IntKind.i64.wrap ((i:Int) + 1)=(i:Int) + 1:=by rw [IntKind.wrap_i64];omega
  have hb1:(0:Int)≤(i:Int) + 1:=by omega
  have hin:i≤n:=by omega
  have htn:((i:Int) + 1).toNat=i + 1:=by omega
  have hb3:(i:Int)≤(n:Int):=by omega
  have HR:=Lib.hid hRj
  have HL:=Lib.hid hRl
  clear hkk hik hold hROW hG hRl hRj hr hv h1c hN hNf hOb hOv hdl hcl
  go_enter Tryz.func222,Tryz.ntmps222
  go_wp2_with (first
    | (at_builtin;refine Lib.wpList_append_run _ rfl _ _ _ _ rfl _ _ rfl rfl _ _ (hrz _) ?_)
    | (at_builtin;refine wpList_copy_runI _ rfl _ _ 189 189 rfl _ _ rfl rfl (hcpA _ hE1 hE2 _ _) ?_)
    | (at_builtin;refine wpList_copy_runI _ rfl _ _ 189 189 rfl _ _ rfl rfl (hcpB _ (fun _=>rfl) (fun _=>rfl) _ _ _) ?_))
  go_region_law (refine step_copy_runI rfl _ _ 189 189 rfl (.slice (some ⟨w.heap.size,(i + 1) * 3,none⟩) (n - i) (G - (i + 1))) (.slice (some ⟨g,i * 3,none⟩) (n - i) (cap - i)) (by simp [Act.eval,Act.put]) (by simp [Act.eval,Act.put]) (hcpB _ hF1 hF2 3 (G - (i + 1)) (cap - i)) ?_)
  go_wp2
  go_ret
  exact ⟨G,ROW,rfl,hGn,hGm,HL.out,HR.out,rfl⟩
theorem insert_any (g n cap i vb:Nat) (xs:List Value) (a b c:Value) (w:World) (hr:Row 269 3 g n cap xs w) (hv:Vb w vb a b c) (hne:vb≠g) (h1c:∀ v∈xs,v.oneCell'=true) (h1:a.oneCell'=true) (h2:b.oneCell'=true) (h3:c.oneCell'=true) (hn:n≤1000) (hi:i≤n) :
    Calls Tryz.prog 222 #[.slice (some ⟨g,0,none⟩) n cap,.int .i64 i,.slice (some ⟨vb,0,none⟩) 1 1] w fun e w'=>∃ g' cap',e = .returned (.slice (some ⟨g',0,none⟩) (n + 1) cap')∧Row 269 3 g' (n + 1) cap' (insAt xs (i * 3) a b c) w'∧Oth [g] w w'∧(g'=g∨w.heap.size≤g'):=by
  have hl:=hr.len
  rcases Nat.lt_or_ge i n with hlt | hge
  · rcases Nat.lt_or_ge cap (n + 1) with hc | hc
    · refine (insert_grow g n cap i vb xs a b c w hr hv h1c h1 h2 h3 hn hlt hc).mono ?_
      rintro e w' ⟨G,ROW,rfl,g3,g4,g5,g6,rfl⟩
      exact ⟨w.heap.size,G,rfl,row_fresh a b c ROW hl hi g3 g4 g5 g6,(((((Oth.refl [g] w).alloc _).drew).setCells (.inr (Nat.le_refl _)) _ _).drew).setCells (.inr (Nat.le_refl _)) _ _,.inr (Nat.le_refl _)⟩
    · refine (insert_shift g n cap i vb xs a b c w hr hv hne h1c h1 h2 h3 hn hlt hc).mono ?_
      rintro e w' ⟨rfl,rfl⟩
      exact ⟨g,cap,rfl,row_shift a b c hr hi hc,(((Oth.refl [g] w).drew).setCells (.inl (by simp)) _ _).setCells (.inl (by simp)) _ _,.inl rfl⟩
  · obtain rfl:i=n:=by omega
    refine (insert_end g i cap vb xs a b c w hr hv h1 h2 h3 hn).mono ?_
    rintro e w' ⟨g',cap',rfl,g3,g4,g5⟩
    refine ⟨g',cap',rfl,?_,g4,g5⟩
    have:insAt xs (i * 3) a b c=xs ++ [a,b,c]:=by unfold insAt;rw [← hl];simp
    rw [this];exact g3
set_option maxHeartbeats 4000000 in
set_option maxRecDepth 100000 in
theorem insert_nil (vb:Nat) (a b c:Value) (w:World) (hv:Vb w vb a b c) (h1:a.oneCell'=true) (h2:b.oneCell'=true) (h3:c.oneCell'=true) :
    Calls Tryz.prog 222 #[.slice none 0 0,.int .i64 0,.slice (some ⟨vb,0,none⟩) 1 1] w fun e w'=>∃ g' cap',e = .returned (.slice (some ⟨g',0,none⟩) 1 cap')∧Row 269 3 g' 1 cap' [a,b,c] w'∧Oth [] w w'∧w.heap.size≤g':=by
  obtain ⟨i0,hi,hz0,hz1,hz2⟩:=info_parts Tryz.info269
  have HV:=Lib.hid hv
  clear hv
  go_enter Tryz.func222,Tryz.ntmps222
  go_wp2_with (at_builtin;refine wpList_append_own_at _ rfl _ _ 189 rfl 0 269 i0 _ 3 24 Tryz.underlying189 hi hz0 hz1 hz2 rfl (by decide) _ _ _ rfl (World.ownsRow_nil _ _ _ _) ⟨vb,0,none⟩ 1 1 [a,b,c] rfl rfl ?c1 ?c2 ?c3 ?c4 ?c5 ?_)
  case c1=>
    have hv:=HV.out
    intro j u hu
    match j with
    | 0=>simp at hu;subst hu;exact hv.at_ _ _ rfl
    | 1=>simp at hu;subst hu;exact hv.at_ _ _ rfl
    | 2=>simp at hu;subst hu;exact hv.at_ _ _ rfl
    | j + 3=>simp at hu
  case c2=>intro u hu;simp at hu;rcases hu with rfl | rfl | rfl <;> assumption
  case c3=>unfold maxLen;omega
  case c4=>omega
  case c5=>omega
  intro v' w1 hown1 hgrow1 hx1 hx2
  have ho:Oth [] w w1:=(Oth.refl _ _).grown hgrow1 (fun k hk=>by simp [Value.ownBlock] at hk)
  obtain ⟨g',cap',rfl,_,hR⟩:=row_of_owns hown1 (by omega)
  have HX:=Lib.hid hx2
  have HR':=Lib.hid hR
  clear hown1 hgrow1 hR hx1 hx2
  go_wp2
  go_ret
  refine ⟨g',cap',rfl,HR'.out,ho,?_⟩
  have:=HX.out
  simp [Value.ownBlock] at this
  omega
end Go.Proofs.YtnpdcjdmbkcpbaaGreat.Ins
namespace Go.Proofs.YtnpdcjdmbkcpbaaGreat.Ins
open Go.RowKit Go.Conc
theorem wp_region_nil {P:Program} {id:Nat} {ops:Array Oper} {Q:Exit→Act→World→Prop} {a:Act} {w:World} {o:Oper} {l:List Oper} {ch:Operand} {el:TypeId} {z:Value}
    (hl:ops.toList=o :: l) (hw:Region.wanted o (yielded ops a.tmps)=true) (hop:o.op = .select #[⟨ch,none,el⟩] false) (hc:a.eval ch = .chan none) (hz:(zeroValue el).run P w = .ok z w)
    (h:wpList P ops Q l (a.put o.dst (.tuple #[goInt (-1),.bool false,z])) w):(Code.region id ops false).wp P Q a w:=by
  intro b k cs
  have hsz:ops.size=l.length + 1:=by rw [← Array.length_toList,hl];rfl
  have hget:∀ j,l[j]?=ops[1 + j]?:=by
    intro j
    rw [← Array.getElem?_toList,hl,Nat.add_comm,List.getElem?_cons_succ]
  have ho:ops[0]?=some o:=by rw [← Array.getElem?_toList,hl];rfl
  have hrange:List.range ops.size=0 :: List.range' 1 l.length:=by
    rw [hsz,List.range_eq_range',List.range'_succ]
  have e1:=wpOps_eq_wpList (P:=P) (ops:=ops) (Q:=Q) l 1 hget
  rw [← e1] at h
  obtain ⟨e,a',w',q,r⟩:=wp_ops _ _ _ h b k cs
  refine ⟨e,a',w',q,.of_steps (.head step_region ?_) r⟩
  rw [hrange]
  have hex:(execOp a.eval o).run P w = .ok (.comm #[⟨.chan none,none,z⟩] false .select) w:=by
    unfold execOp
    simp only [hop]
    simp [hz,hc]
  obtain ⟨es,hes⟩:∃ es,stepG P true { frame:=b.at a (.inRegion ops (0 :: List.range' 1 l.length) :: k),callers:=cs,status:=.running,dying:=none } w = .comm { frame:=b.at a (.inRegion ops (0 :: List.range' 1 l.length) :: k),callers:=cs,status:=.running,dying:=none } #[⟨.chan none,none,z⟩] false .select w es:=by
    have h1:stepG P true { frame:=b.at a (.inRegion ops (0 :: List.range' 1 l.length) :: k),callers:=cs,status:=.running,dying:=none } w=stepG.apply P true (b.at a (.inRegion ops (0 :: List.range' 1 l.length) :: k)) cs none (execOp a.eval o) w:=stepG_op ho hw
    obtain ⟨es,he⟩:∃ es,(execOp a.eval o).runT P w #[]=(.ok (.comm #[⟨.chan none,none,z⟩] false .select) w,es):=⟨((execOp a.eval o).runT P w #[]).2,Prod.ext (by rw [Sem.runT_fst];exact hex) rfl⟩
    rw [h1]
    simp only [stepG.apply,if_true,he]
    exact ⟨_,rfl⟩
  have:=step_lone_select_recv_nil (P:=P) hes
  rw [Frame.finish_at,ho] at this
  exact .one this
theorem zero3 (w:World):(zeroValue 3).run Tryz.prog w = .ok (.int .i64 0) w:=by
  have h:(Tryz.prog.info? 3).map (·.zero)=some (some (.int .i64 0)):=by kernel_rfl
  cases hi:Tryz.prog.info? 3 with
  | none=>rw [hi] at h;cases h
  | some i=>
    rw [hi] at h
    have hz:i.zero=some (.int .i64 0):=by simpa using h
    simp [zeroValue,typeInfo,hi,hz]
theorem stopped_nil (w:World):Calls Tryz.prog 49 #[.chan none] w fun e w'=>e = .returned (.bool false)∧w'=w:=by
  go_enter Tryz.func49,Tryz.ntmps49
  go_upto_region 2 with (fail)
  refine wp_region_nil rfl rfl rfl rfl (zero3 _) ?_
  go_wp2
  go_ret
  exact ⟨rfl,rfl⟩
end Go.Proofs.YtnpdcjdmbkcpbaaGreat.Ins
namespace Go.Proofs.YtnpdcjdmbkcpbaaGreat.Ins2
open Go.RowKit
structure Oth (S:List Nat) (w w':World):Prop where
  os:w'.os=w.os
  tape:w'.tape=w.tape
  output:w'.output=w.output
  size:w.heap.size≤w'.heap.size
  block:∀ k,k < w.heap.size→k∉S→w'.heap[k]?=w.heap[k]?
def Fr (S:List Nat) (w:World) (S':List Nat):Prop:=∀ k,k∈S'→k∈S∨w.heap.size≤k
theorem Fr.refl (S:List Nat) (w:World):Fr S w S:=fun _ h=>.inl h
theorem Fr.nil (S:List Nat) (w:World):Fr S w []:=fun _ h=>absurd h (by simp)
theorem Oth.refl (S:List Nat) (w:World):Oth S w w:=⟨rfl,rfl,rfl,Nat.le_refl _,fun _ _ _=>rfl⟩
theorem Oth.trans {S S':List Nat} {a b c:World} (h:Oth S a b) (k:Oth S' b c) (hf:Fr S a S'):Oth S a c:=
  ⟨k.os.trans h.os,k.tape.trans h.tape,k.output.trans h.output,Nat.le_trans h.size k.size,fun i hi hn=>
    (k.block i (Nat.lt_of_lt_of_le hi h.size) (fun e=>by rcases hf i e with h | h;exact hn h;omega)).trans (h.block i hi hn)⟩
theorem Oth.alloc {S:List Nat} {a w:World} (h:Oth S a w) (o:Obj):Oth S a (w.alloc o):=
  h.trans (S':=[]) ⟨rfl,rfl,rfl,by simp,fun k hk _=>Below.heap_alloc _ _ _ hk⟩ (Fr.nil _ _)
theorem Oth.drew {S:List Nat} {a w:World} (h:Oth S a w):Oth S a w.drew:=⟨h.os,h.tape,h.output,h.size,h.block⟩
theorem Oth.setCell {S:List Nat} {a w:World} (h:Oth S a w) {p:Addr} (hp:p.block∈S∨a.heap.size≤p.block) (u:Value):Oth S a (w.setCell p u):=
  h.trans (S':=[p.block]) ⟨rfl,rfl,rfl,by simp [World.setCell],fun k hk hn=>Below.heap_setCell _ _ _ _ (by simpa using hn)⟩ (fun k hk=>by simp at hk;subst hk;exact hp)
theorem oth_setCells (b:Nat):∀ (vs:List Value) (o:Nat) (w:World),Oth [b] w (w.setCells b o vs)
  | [],_,w=>Oth.refl _ _
  | v :: r,o,w=>((Oth.refl [b] w).setCell (p:=⟨b,o,none⟩) (.inl (by simp)) v).trans (oth_setCells b r (o + 1) _) (Fr.refl _ _)
theorem Oth.setCells {S:List Nat} {a w:World} (h:Oth S a w) {b:Nat} (hp:b∈S∨a.heap.size≤b) (o:Nat) (vs:List Value):Oth S a (w.setCells b o vs):=
  h.trans (oth_setCells b vs o w) (fun k hk=>by simp at hk;subst hk;exact hp)
theorem Oth.grown {S:List Nat} {a w w':World} {row:Option Nat} (h:Oth S a w) (hg:w.grownBy w' row) (hr:∀ k,row=some k→k∈S∨a.heap.size≤k):Oth S a w':=by
  cases row with
  | none=>exact h.trans (S':=[]) ⟨hg.os,hg.tape,hg.output,hg.size,fun k hk _=>hg.block k hk (by simp)⟩ (Fr.nil _ _)
  | some r=>exact h.trans (S':=[r]) ⟨hg.os,hg.tape,hg.output,hg.size,fun k hk hn=>hg.block k hk (by simpa using hn)⟩ (fun k hk=>by simp at hk;subst hk;exact hr k rfl)
def wr (cur:Array Value):Nat→List Value→Array Value
  | _,[]=>cur
  | o,v :: r=>wr (cur.setIfInBounds o v) (o + 1) r
theorem wr_size:∀ (vs:List Value) (o:Nat) (cur:Array Value),(wr cur o vs).size=cur.size
  | [],_,_=>rfl
  | v :: r,o,cur=>by rw [wr,wr_size r];simp
theorem wr_get:∀ (vs:List Value) (o:Nat) (cur:Array Value) (k:Nat),o + vs.length≤cur.size→(wr cur o vs)[k]?=if o≤k∧k < o + vs.length then vs[k - o]? else cur[k]?
  | [],o,cur,k,_=>by rw [wr,if_neg (by simp)]
  | v :: r,o,cur,k,h=>by
    simp only [List.length_cons] at h
    rw [wr,wr_get r (o + 1) _ k (by simp;omega)]
    simp only [List.length_cons]
    by_cases h1:k=o
    · subst h1
      rw [if_neg (by omega),if_pos (by omega)]
      rw [Array.getElem?_setIfInBounds_self_of_lt (by omega)];simp
    · by_cases h2:o + 1≤k∧k < o + 1 + r.length
      · rw [if_pos h2,if_pos (by omega)]
        obtain ⟨m,rfl⟩:∃ m,k=o + 1 + m:=⟨k - (o + 1),by omega⟩
        rw [show o + 1 + m - o=m + 1 by omega,show o + 1 + m - (o + 1)=m by omega]
        simp
      · rw [if_neg h2,if_neg (by omega),Array.getElem?_setIfInBounds_ne (by omega)]
theorem heap_setCells (b:Nat):∀ (vs:List Value) (o:Nat) (w:World) (cur:Array Value) (e:TypeId),w.heap[b]?=some (.cells cur e (0,0))→(w.setCells b o vs).heap[b]?=some (.cells (wr cur o vs) e (0,0))
  | [],_,_,_,_,h=>h
  | v :: r,o,w,cur,e,h=>by
    rw [World.setCells,wr]
    refine heap_setCells b r (o + 1) _ _ e ?_
    simp [World.setCell,Array.getElem?_modify,h]
def Row (e:TypeId) (z g n cap:Nat) (xs:List Value) (w:World):Prop:=
  ∃ cur,w.heap[g]?=some (.cells cur e (0,0))∧n≤cap∧cap≤maxLen∧cur.size=cap * z∧xs.length=n * z∧∀ j,j < n * z→cur[j]?=xs[j]?
section
variable {e:TypeId} {z g n cap:Nat} {xs:List Value} {w:World}
theorem Row.lt (h:Row e z g n cap xs w):g < w.heap.size:=by obtain ⟨cur,h,_⟩:=h;exact lt_of_block h
theorem Row.len (h:Row e z g n cap xs w):xs.length=n * z:=by obtain ⟨cur,h,_,_,_,hl,_⟩:=h;exact hl
theorem Row.cap_le (h:Row e z g n cap xs w):n≤cap∧cap≤maxLen:=by obtain ⟨cur,h,h1,h2,_⟩:=h;exact ⟨h1,h2⟩
theorem Row.cell (h:Row e z g n cap xs w) {j:Nat} {x:Value} (hj:xs[j]?=some x):w.cell? ⟨g,j,none⟩=some x:=by
  have hl:j < xs.length:=(List.getElem?_eq_some_iff.1 hj).1
  obtain ⟨cur,h,_,_,_,hn,ht⟩:=h
  simp only [World.cell?,h]
  rw [ht j (by omega)];exact hj
theorem Row.there (h:Row e z g n cap xs w) {j:Nat} (hj:j < cap * z):(w.cell? ⟨g,j,none⟩).isSome=true:=by
  obtain ⟨cur,h,_,_,hs,hn,ht⟩:=h
  simp only [World.cell?,h]
  rw [Array.getElem?_eq_getElem (by omega)];rfl
theorem Row.free (h:Row e z g n cap xs w) (j:Nat):w.frozen? ⟨g,j,none⟩=false:=by obtain ⟨cur,h,_⟩:=h;simp [World.frozen?,h]
theorem Row.drew (h:Row e z g n cap xs w):Row e z g n cap xs w.drew:=h
theorem Row.owns (h:Row e z g n cap xs w):w.ownsRow 0 e z (.slice (some ⟨g,0,none⟩) n cap) n xs:=by
  obtain ⟨cur,h,h1,h2,h3,h4,h5⟩:=h
  refine ⟨h4,Or.inr ⟨g,cap,cur,rfl,Nat.zero_le _,h,h1,h2,h3,?_⟩⟩
  apply List.ext_getElem?
  intro j
  rw [List.getElem?_take]
  by_cases hj:j < n * z
  · rw [if_pos hj,Array.getElem?_toList,h5 j hj]
  · rw [if_neg hj,List.getElem?_eq_none (by omega)]
end
theorem row_of_owns {w:World} {B:Nat} {e:TypeId} {z n:Nat} {v:Value} {xs:List Value} (h:w.ownsRow B e z v n xs) (h0:0 < n) :
    ∃ g cap,v = .slice (some ⟨g,0,none⟩) n cap∧B≤g∧Row e z g n cap xs w:=by
  obtain ⟨hl,⟨_,h⟩ | ⟨g,cap,cur,rfl,hg,hcur,hcap,hmx,hsc,htk⟩⟩:=h
  · omega
  · refine ⟨g,cap,rfl,hg,⟨cur,hcur,hcap,hmx,hsc,hl,fun j hj=>?_⟩⟩
    rw [← htk,List.getElem?_take,if_pos hj,Array.getElem?_toList]
theorem run_copy_cellsZ {P:Program} (w:World) (dT sT ty elem:TypeId) (z b o dLen dCap:Nat) (a:Addr) (sLen sCap:Nat) (cs:List Value)
    (hu:P.underlying dT=some (.slice elem)) (hs:(P.info? elem).map (·.size)=some z) (hn:cs.length=Nat.min sLen dLen * z)
    (hsrc:∀ j v,cs[j]?=some v→w.cell? (a.add j)=some v) (hc:∀ j,j < cs.length→(w.cell? ⟨b,o + j,none⟩).isSome=true) (hf:∀ j,j < cs.length→w.frozen? ⟨b,o + j,none⟩=false) (h1:∀ v∈cs,v.oneCell'=true) :
    (Builtin.copy_ #[dT,sT] ty #[.slice (some ⟨b,o,none⟩) dLen dCap,.slice (some a) sLen sCap]).run P w = .ok (goInt (Nat.min sLen dLen)) (w.setCells b o cs):=by
  have hl:=run_loadCells_list (P:=P) w a cs hsrc
  have hst:=run_storeCells_cells (P:=P) b o cs 0 w (by simpa using hc) (by simpa using hf) h1
  cases hq:P.info? elem with
  | none=>simp [hq] at hs
  | some i=>
    have hi:i.size=z:=by simpa [hq] using hs
    simp [Builtin.copy_,run_underlying hu,Builtin.lenOf,Builtin.firstCells,sizeOf,typeInfo,hq,hi,← hn,hl,hst]
theorem step_copy_runI {P:Program} {ops:Array Oper} {o:Oper} {a:Act} {w:World} {K:Act→World→Prop} {Q:Exit→Act→World→Prop} {E:Prop}
    (hg:o.guard=none) (d x:Operand) (dT sT:TypeId) (hop:o.op=Op.call { callee:=Callee.builtin Builtin.copy,args:=#[d,x],argTypes:=#[dT,sT] })
    (v u:Value) (hd:a.eval d=v) (hx:a.eval x=u) {v':Value} {w':World} (hr:(Builtin.copy_ #[dT,sT] o.type #[v,u]).run P w = .ok v' w') (hK:K (a.put o.dst v') w') :
    if Region.wanted o (yielded ops a.tmps)=true then Oper.wp P o a w K Q else E:=by
  have hw:Region.wanted o (yielded ops a.tmps)=true:=by simp [Region.wanted,hg]
  rw [if_pos hw]
  unfold Oper.wp
  simp [execOp,hop,resolve,invoke,builtin,hd,hx,hr,Result.andThen]
  exact hK
def insAt (xs:List Value) (k:Nat) (a b:Value):List Value:=xs.take k ++ a :: b :: xs.drop k
theorem insAt_get (xs:List Value) (k:Nat) (a b:Value) (j:Nat) (hk:k≤xs.length):(insAt xs k a b)[j]?=if j < k then xs[j]? else if j=k then some a else if j=k + 1 then some b else xs[j - 2]?:=by
  unfold insAt
  have hl:(xs.take k).length=k:=by simp;omega
  by_cases h1:j < k
  · rw [if_pos h1,List.getElem?_append_left (by omega),List.getElem?_take,if_pos h1]
  · rw [if_neg h1,List.getElem?_append_right (by omega),hl]
    by_cases h2:j=k
    · subst h2;simp
    · rw [if_neg h2]
      by_cases h3:j=k + 1
      · subst h3;rw [if_pos rfl,show k + 1 - k=1 by omega];rfl
      · rw [if_neg h3]
        obtain ⟨m,rfl⟩:∃ m,j=k + 2 + m:=⟨j - (k + 2),by omega⟩
        rw [show k + 2 + m - k=m + 2 by omega,show k + 2 + m - 2=k + m by omega]
        simp
theorem insAt_length (xs:List Value) (k:Nat) (a b:Value) (hk:k≤xs.length):(insAt xs k a b).length=xs.length + 2:=by
  unfold insAt;simp;omega
theorem row_shift {e:TypeId} {g n cap i:Nat} {xs:List Value} {w:World} (a b:Value) (h:Row e 2 g n cap xs w) (hi:i≤n) (hc:n + 1≤cap) :
    Row e 2 g (n + 1) cap (insAt xs (i * 2) a b) ((w.drew.setCells g ((i + 1) * 2) (xs.drop (i * 2))).setCells g (i * 2) [a,b]):=by
  have hl:=h.len
  obtain ⟨cur,hh,h1,h2,h3,h4,h5⟩:=h
  refine ⟨_,heap_setCells g _ _ _ _ e (heap_setCells g _ _ w.drew cur e hh),hc,h2,by rw [wr_size,wr_size];exact h3,by rw [insAt_length _ _ _ _ (by omega)];omega,fun j hj=>?_⟩
  rw [insAt_get _ _ _ _ _ (by omega),wr_get _ _ _ _ (by rw [wr_size];simp;omega),wr_get _ _ _ _ (by simp;omega)]
  simp only [List.length_cons,List.length_nil,List.length_drop,List.getElem?_drop]
  by_cases c1:j < i * 2
  · rw [if_neg (by omega),if_neg (by omega),if_pos c1];exact h5 j (by omega)
  · rw [if_neg c1]
    by_cases c2:j=i * 2
    · subst c2;rw [if_pos (by omega)];simp
    · rw [if_neg c2]
      by_cases c3:j=i * 2 + 1
      · subst c3;rw [if_pos (by omega)];simp
      · rw [if_neg c3,if_neg (by omega),if_pos (by omega)];congr 1;omega
theorem row_fresh {e:TypeId} {n G i:Nat} {xs:List Value} {w:World} (a b:Value) (ROW:Array Value) (hl:xs.length=n * 2) (hi:i≤n) (hc:n + 1≤G) (hG:G≤maxLen) (hs:ROW.size=G * 2) (hR:∀ j,j < i * 2→ROW[j]?=xs[j]?) :
    Row e 2 w.heap.size (n + 1) G (insAt xs (i * 2) a b) ((((w.alloc (.cells ROW e)).drew.setCells w.heap.size (i * 2) [a,b]).drew).setCells w.heap.size ((i + 1) * 2) (xs.drop (i * 2))):=by
  have hh:((w.alloc (.cells ROW e)).drew).heap[w.heap.size]?=some (.cells ROW e (0,0)):=heap_alloc_new w _
  refine ⟨_,heap_setCells w.heap.size _ _ _ _ e (show (((w.alloc (.cells ROW e)).drew.setCells w.heap.size (i * 2) [a,b]).drew).heap[w.heap.size]?=_ from heap_setCells w.heap.size _ _ _ _ e hh),hc,hG,by rw [wr_size,wr_size];exact hs,by rw [insAt_length _ _ _ _ (by omega)];omega,fun j hj=>?_⟩
  rw [insAt_get _ _ _ _ _ (by omega),wr_get _ _ _ _ (by rw [wr_size];simp;omega),wr_get _ _ _ _ (by simp;omega)]
  simp only [List.length_cons,List.length_nil,List.length_drop,List.getElem?_drop]
  by_cases c1:j < i * 2
  · rw [if_neg (by omega),if_neg (by omega),if_pos c1];exact hR j (by omega)
  · rw [if_neg c1]
    by_cases c2:j=i * 2
    · subst c2;rw [if_neg (by omega),if_pos (by omega)];simp
    · rw [if_neg c2]
      by_cases c3:j=i * 2 + 1
      · subst c3;rw [if_neg (by omega),if_pos (by omega)];simp
      · rw [if_neg c3,if_pos (by omega)];congr 1;omega
end Go.Proofs.YtnpdcjdmbkcpbaaGreat.Ins2
namespace Go.Proofs.YtnpdcjdmbkcpbaaGreat.Ins2
open Go.RowKit
theorem Tryz.info266:(Tryz.prog.info? 266).map (fun i=>(i.zero,i.size,i.bytes))=some (some (.agg #[.int .i64 0,.int .i64 0]),2,16):=by kernel_rfl
def Vb (w:World) (vb:Nat) (a b:Value):Prop:=∃ cv:Array Value,w.heap[vb]?=some (.cells cv 266 (0,0))∧cv[0]?=some a∧cv[1]?=some b
theorem Vb.lt {w:World} {vb:Nat} {a b:Value} (h:Vb w vb a b):vb < w.heap.size:=by obtain ⟨cv,h,_⟩:=h;exact lt_of_block h
theorem Vb.cell {w:World} {vb:Nat} {a b:Value} (h:Vb w vb a b) (j:Nat) (v:Value) (hj : [a,b][j]?=some v):w.cell? ⟨vb,0 + j,none⟩=some v:=by
  obtain ⟨cv,h,h1,h2⟩:=h
  match j with
  | 0=>simp at hj;subst hj;simp [World.cell?,h,h1]
  | 1=>simp at hj;subst hj;simp [World.cell?,h,h2]
  | j + 2=>simp at hj
theorem Vb.at_ {w:World} {vb:Nat} {a b:Value} (h:Vb w vb a b) (j:Nat) (v:Value) (hj : [a,b][j]?=some v):w.cell? ((⟨vb,0,none⟩:Addr).add j)=some v:=by
  rw [Addr.add_lit];exact h.cell j v hj
theorem Vb.shape {w:World} {vb:Nat} {a b:Value} (h:Vb w vb a b):∃ k,w.shape? vb=some (266,k):=by
  obtain ⟨cv,h,_⟩:=h;exact ⟨cv.size,by simp [World.shape?,h]⟩
theorem Vb.free {w:World} {vb:Nat} {a b:Value} (h:Vb w vb a b) (j:Nat):w.frozen? ⟨vb,j,none⟩=false:=by
  obtain ⟨cv,h,_⟩:=h;simp [World.frozen?,h]
set_option maxHeartbeats 4000000 in
set_option maxRecDepth 100000 in
theorem insert_end_ii (g n cap vb:Nat) (xs:List Value) (a b:Value) (w:World) (hr:Row 266 2 g n cap xs w) (hv:Vb w vb a b) (h1:a.oneCell'=true) (h2:b.oneCell'=true) (hn:n≤1000) :
    Calls Tryz.prog 223 #[.slice (some ⟨g,0,none⟩) n cap,.int .i64 n,.slice (some ⟨vb,0,none⟩) 1 1] w fun e w'=>∃ g' cap',e = .returned (.slice (some ⟨g',0,none⟩) (n + 1) cap')∧Row 266 2 g' (n + 1) cap' (xs ++ [a,b]) w'∧Oth [g] w w'∧(g'=g∨w.heap.size≤g'):=by
  obtain ⟨i0,hi,hz0,hz1,hz2⟩:=info_parts Tryz.info266
  obtain ⟨hc1,hc2⟩:=hr.cap_le
  have hc3:cap≤9223372036854775807:=by unfold maxLen at hc2;omega
  have HR:=Lib.hid hr
  have HV:=Lib.hid hv
  clear hr hv hc2
  by_cases hq:cap=n
  all_goals (
    go_enter Tryz.func223,Tryz.ntmps223
    go_wp2_with (at_builtin;refine wpList_append_own_at _ rfl _ _ 267 rfl 0 266 i0 _ 2 16 Tryz.underlying267 hi hz0 hz1 hz2 rfl (by decide) _ _ _ rfl HR.out.owns ⟨vb,0,none⟩ 1 1 [a,b] rfl rfl ?c1 ?c2 ?c3 ?c4 ?c5 ?_)
    case c1=>
      have hv:=HV.out
      intro j u hu
      match j with
      | 0=>simp at hu;subst hu;exact hv.at_ _ _ rfl
      | 1=>simp at hu;subst hu;exact hv.at_ _ _ rfl
      | j + 2=>simp at hu
    case c2=>intro u hu;simp at hu;rcases hu with rfl | rfl <;> assumption
    case c3=>unfold maxLen;omega
    case c4=>omega
    case c5=>omega
    intro v' w1 hown1 hgrow1 hx1 hx2
    have ho:Oth [g] w w1:=(Oth.refl _ _).grown hgrow1 (fun k hk=>by simp [Value.ownBlock] at hk;subst hk;exact .inl (by simp))
    obtain ⟨g',cap',rfl,_,hR⟩:=row_of_owns hown1 (by omega)
    have HX:=Lib.hid hx2
    have HR':=Lib.hid hR
    clear hown1 hgrow1 hR hx1 hx2
    go_wp2
    go_ret
    refine ⟨g',cap',rfl,HR'.out,ho,?_⟩
    have:=HX.out
    simp [Value.ownBlock] at this
    omega)
set_option maxHeartbeats 4000000 in
set_option maxRecDepth 100000 in
theorem insert_shift_ii (g n cap i vb:Nat) (xs:List Value) (a b:Value) (w:World) (hr:Row 266 2 g n cap xs w) (hv:Vb w vb a b) (hne:vb≠g) (h1c:∀ v∈xs,v.oneCell'=true) (h1:a.oneCell'=true) (h2:b.oneCell'=true) (hn:n≤1000) (hi:i < n) (hroom:n + 1≤cap) :
    Calls Tryz.prog 223 #[.slice (some ⟨g,0,none⟩) n cap,.int .i64 i,.slice (some ⟨vb,0,none⟩) 1 1] w fun e w'=>e = .returned (.slice (some ⟨g,0,none⟩) (n + 1) cap)∧w'=(w.drew.setCells g ((i + 1) * 2) (xs.drop (i * 2))).setCells g (i * 2) [a,b]:=by
  obtain ⟨i0,hi0,hz0,hzs,hzb⟩:=info_parts Tryz.info266
  have hc63:cap≤9223372036854775807:=by have:=hr.cap_le.2;unfold maxLen at this;omega
  have hz2:¬ ((i:Int)=(n:Int)):=by omega
  have hsz:(Tryz.prog.info? 266).map (·.size)=some 2:=by rw [hi0];simp [hzs]
  have hcl:xs.length=n * 2:=hr.len
  have hk:∃ k,w.shape? g=some (266,k)∧k≠0:=by
    obtain ⟨cur,hh,_,_,hs,_⟩:=hr
    exact ⟨cur.size,by simp [World.shape?,hh],by omega⟩
  obtain ⟨kB,hsb,hkB⟩:=hk
  obtain ⟨kA,hsa⟩:=hv.shape
  have hfa:∀ j,w.frozen? ⟨vb,j,none⟩=false:=hv.free
  have hov:∀ lb cb,(callFunc 265 #[.slice (some ⟨vb,0,none⟩) 1 1,.slice (some ⟨g,(i + 1) * 2,none⟩) lb cb]).run Tryz.prog w = .ok (.value (.bool false)) w:=fun lb cb=>by
    rw [run_callFunc_extern Tryz.func265 (by kernel_rfl) (by kernel_rfl) (by kernel_rfl) (e:=Extern.SlicesOverlaps.overlaps #[267,267] #[4]) (by kernel_rfl),
      Lib.run_overlaps_apart w 267 4 266 Tryz.underlying267 2 (fun w=>by simp [sizeOf,typeInfo,hi0,hzs]) ⟨vb,0,none⟩ ⟨g,(i + 1) * 2,none⟩ 1 1 lb cb hne 266 266 kA kB hsa hsb hkB (hfa 0) (hfa kA)]
    rfl
  have hdl:(xs.drop (i * 2)).length=(n - i) * 2:=by rw [List.length_drop,hcl];omega
  have hw1:IntKind.i64.wrap ((i:Int) + 1)=(i:Int) + 1:=by rw [IntKind.wrap_i64];omega
  have hin:i≤n:=by omega
  have hb1:(0:Int)≤(i:Int) + 1:=by omega
  have htn:((i:Int) + 1).toNat=i + 1:=by omega
  have hb2:¬ (cap=i + 1):=by omega
  have hb3:(i:Int)≤(n:Int) + 1:=by omega
  have hb4:¬ (cap=i):=by omega
  have hcap:n + 1≤cap:=hroom
  have hcp1:∀ ty dc sc,(Builtin.copy_ #[267,267] ty #[.slice (some ⟨g,(i + 1) * 2,none⟩) (n - i) dc,.slice (some ⟨g,i * 2,none⟩) (n + 1 - i) sc]).run Tryz.prog w.drew = .ok (goInt (Nat.min (n + 1 - i) (n - i))) (w.drew.setCells g ((i + 1) * 2) (xs.drop (i * 2))):=fun ty dc sc=>
    run_copy_cellsZ w.drew _ _ ty 266 2 g ((i + 1) * 2) (n - i) dc ⟨g,i * 2,none⟩ (n + 1 - i) sc (xs.drop (i * 2)) Tryz.underlying267 hsz (by rw [hdl];simp only [Nat.min_def];split <;> omega)
      (fun j v hj=>by rw [Addr.add_lit];exact hr.drew.cell (by rwa [List.getElem?_drop] at hj))
      (fun j hj=>hr.drew.there (by omega)) (fun j hj=>hr.drew.free _) (fun v hv=>h1c v (List.mem_of_mem_drop hv))
  obtain ⟨W1,hW1⟩:∃ W1,W1=w.drew.setCells g ((i + 1) * 2) (xs.drop (i * 2)):=⟨_,rfl⟩
  have hsp1:∀ k,k < cap * 2→(W1.cell? ⟨g,k,none⟩).isSome=true:=fun k hk=>by
    obtain ⟨cur,hh,_,_,hs,_⟩:=hr
    have:=heap_setCells g (xs.drop (i * 2)) ((i + 1) * 2) w.drew cur 266 hh
    rw [hW1]
    simp only [World.cell?,this]
    rw [Array.getElem?_eq_getElem (by rw [wr_size];omega)];rfl
  have hcp2:∀ (W:World),(∀ x,W.cell? x=W1.cell? x)→(∀ x,W.frozen? x=W1.frozen? x)→∀ ty dc,(Builtin.copy_ #[267,267] ty #[.slice (some ⟨g,i * 2,none⟩) (n + 1 - i) dc,.slice (some ⟨vb,0,none⟩) 1 1]).run Tryz.prog W = .ok (goInt (Nat.min 1 (n + 1 - i))) (W.setCells g (i * 2) [a,b]):=fun W hWc hWf ty dc=>
    run_copy_cellsZ W _ _ ty 266 2 g (i * 2) (n + 1 - i) dc ⟨vb,0,none⟩ 1 1 [a,b] Tryz.underlying267 hsz (by simp only [Nat.min_def];split <;> simp;omega)
      (fun j v hj=>by
        rw [Addr.add_lit,hWc,hW1,World.cell?_setCells_out g _ _ _ _ (fun h _=>absurd h hne)]
        match j with
        | 0=>simp at hj;subst hj;exact hv.cell _ _ rfl
        | 1=>simp at hj;subst hj;exact hv.cell _ _ rfl
        | j + 2=>simp at hj)
      (fun j hj=>by rw [hWc];simp at hj;exact hsp1 _ (by omega)) (fun j hj=>by rw [hWf,hW1,World.frozen?_setCells];exact hr.free _) (by simp [h1,h2])
  rw [← hW1] at hcp1
  clear hr hv hsa hfa hsb hsp1 h1c hdl hcl
  go_enter Tryz.func223,Tryz.ntmps223
  go_wp2_with (simp only [hov])
  go_region_law (refine step_copy_runI rfl _ _ 267 267 rfl _ _ (by simp [Act.eval,Act.put]) (by simp [Act.eval,Act.put]) (hcp1 _ _ _) ?_)
  go_wp2_with (at_builtin;refine wpList_copy_runI _ rfl _ _ 267 267 rfl _ _ rfl rfl (hcp2 _ (fun _=>rfl) (fun _=>rfl) _ _) ?_)
  go_ret
  first | exact ⟨rfl,rfl⟩ | exact ⟨rfl,by rw [hW1]⟩
set_option maxHeartbeats 4000000 in
set_option maxRecDepth 100000 in
theorem insert_grow_ii (g n cap i vb:Nat) (xs:List Value) (a b:Value) (w:World) (hr:Row 266 2 g n cap xs w) (hv:Vb w vb a b) (h1c:∀ v∈xs,v.oneCell'=true) (h1:a.oneCell'=true) (h2:b.oneCell'=true) (hn:n≤1000) (hi:i < n) (hroom:cap < n + 1) :
    Calls Tryz.prog 223 #[.slice (some ⟨g,0,none⟩) n cap,.int .i64 i,.slice (some ⟨vb,0,none⟩) 1 1] w fun e w'=>∃ (G:Nat) (ROW:Array Value),e = .returned (.slice (some ⟨w.heap.size,0,none⟩) (n + 1) G)∧n + 1≤G∧G≤maxLen∧ROW.size=G * 2∧(∀ j,j < i * 2→ROW[j]?=xs[j]?) ∧
      w'=(((w.alloc (.cells ROW 266)).drew.setCells w.heap.size (i * 2) [a,b]).drew).setCells w.heap.size ((i + 1) * 2) (xs.drop (i * 2)):=by
  obtain ⟨i0,hi0,hz0,hzs,hzb⟩:=info_parts Tryz.info266
  have hnc:n≤cap:=hr.cap_le.1
  have hc63:cap≤9223372036854775807:=by omega
  have hz2:¬ ((i:Int)=(n:Int)):=by omega
  have hz3:(cap:Int) < (n:Int) + 1:=by omega
  have hsz:(Tryz.prog.info? 266).map (·.size)=some 2:=by rw [hi0];simp [hzs]
  have hcl:xs.length=n * 2:=hr.len
  have hbw:g < w.heap.size:=hr.lt
  have hvw:vb < w.heap.size:=hv.lt
  have hkk:(n:Int) + 1 - (i:Int)=((n + 1 - i:Nat):Int):=by omega
  have hik:i + (n + 1 - i)=n + 1:=by omega
  have hold:(Builtin.firstCells i0.size i (.slice (some ⟨g,0,none⟩) i cap)).run Tryz.prog w.drew = .ok (xs.take (i * 2)).toArray w.drew:=by
    rw [hzs]
    exact run_firstCells_some w.drew 2 i ⟨g,0,none⟩ i cap (xs.take (i * 2)) (by rw [List.length_take];omega) (fun j v hj=>by
      rw [Addr.add_lit,Nat.zero_add]
      rw [List.getElem?_take] at hj
      split at hj
      · exact hr.drew.cell hj
      · cases hj)
  have hrz:∀ ty,(Builtin.append_ #[267,3] ty #[.slice (some ⟨g,0,none⟩) i cap,.int .i64 ((n:Int) + 1 - (i:Int))]).run Tryz.prog w =
      .ok (.slice (some ⟨w.heap.size,0,none⟩) (n + 1) (grownCap w (n + 1) cap 266)) (w.drew.alloc (.cells ((xs.take (i * 2)).toArray ++ Builtin.zeroCells (Value.agg #[.int .i64 0,.int .i64 0]).cells (n + 1 - i) ++ Builtin.zeroCells (Value.agg #[.int .i64 0,.int .i64 0]).cells (grownCap w (n + 1) cap 266 - (n + 1))) 266)):=fun ty=>by
    have h:=Lib.run_append_grow_zeros w 267 3 ty 266 i0 _ .i64 .i64 Tryz.underlying267 Tryz.underlying3 hi0 hz0 (some ⟨g,0,none⟩) i cap (xs.take (i * 2)) hold (n + 1 - i) (by omega) (by omega) (by omega) (by omega) (by rw [hzb];omega) (by rw [hzb,hik];exact growslice_fits hroom (by omega))
    rw [hik] at h
    rw [hkk]
    exact h
  obtain ⟨G,hG⟩:∃ G,G=grownCap w (n + 1) cap 266:=⟨_,rfl⟩
  rw [← hG] at hrz
  have hGn:n + 1≤G:=by rw [hG];exact grownCap_ge w _ _ _
  have hGm:G≤maxLen:=by rw [hG];exact grownCap_le_maxLen w (n + 1) cap 266 (by unfold maxLen;omega)
  obtain ⟨ROW,hROW⟩:∃ ROW:Array Value,ROW=(xs.take (i * 2)).toArray ++ Builtin.zeroCells (Value.agg #[.int .i64 0,.int .i64 0]).cells (n + 1 - i) ++ Builtin.zeroCells (Value.agg #[.int .i64 0,.int .i64 0]).cells (G - (n + 1)):=⟨_,rfl⟩
  rw [← hROW] at hrz
  have hRl:ROW.size=G * 2:=by
    rw [hROW]
    simp [Builtin.zeroCells,Value.cells]
    omega
  have hRj:∀ j,j < i * 2→ROW[j]?=xs[j]?:=fun j hj=>by
    rw [hROW,Array.append_assoc,Array.getElem?_append_left (by simp;omega)]
    simp [List.getElem?_take,hj]
  obtain ⟨W1,hW1⟩:∃ W1,W1=w.drew.alloc (.cells ROW 266):=⟨_,rfl⟩
  rw [← hW1] at hrz
  have hN:∀ j,j < G * 2→(W1.cell? ⟨w.heap.size,j,none⟩).isSome=true:=fun j hj=>by
    rw [hW1,World.cell?_alloc_at (w:=w.drew) ROW _ w.heap.size j rfl,Array.getElem?_eq_getElem (by omega)];rfl
  have hNf:∀ j,W1.frozen? ⟨w.heap.size,j,none⟩=false:=fun j=>by rw [hW1];exact World.frozen?_alloc_at (w:=w.drew) ROW _ w.heap.size j rfl
  have hOb:∀ j v,w.cell? ⟨g,j,none⟩=some v→W1.cell? ⟨g,j,none⟩=some v:=fun j v h=>by rw [hW1,World.cell?_alloc_past (w:=w.drew) _ g j hbw];exact h
  have hOv:∀ j v,w.cell? ⟨vb,j,none⟩=some v→W1.cell? ⟨vb,j,none⟩=some v:=fun j v h=>by rw [hW1,World.cell?_alloc_past (w:=w.drew) _ vb j hvw];exact h
  have hcpA:∀ (W:World),(∀ x,W.cell? x=W1.cell? x)→(∀ x,W.frozen? x=W1.frozen? x)→∀ ty dc,(Builtin.copy_ #[267,267] ty #[.slice (some ⟨w.heap.size,i * 2,none⟩) (n + 1 - i) dc,.slice (some ⟨vb,0,none⟩) 1 1]).run Tryz.prog W = .ok (goInt (Nat.min 1 (n + 1 - i))) (W.setCells w.heap.size (i * 2) [a,b]):=fun W hWc hWf ty dc=>
    run_copy_cellsZ W _ _ ty 266 2 w.heap.size (i * 2) (n + 1 - i) dc ⟨vb,0,none⟩ 1 1 [a,b] Tryz.underlying267 hsz (by simp only [Nat.min_def];split <;> simp;omega)
      (fun j v hj=>by
        rw [Addr.add_lit,hWc]
        refine hOv _ v ?_
        match j with
        | 0=>simp at hj;subst hj;exact hv.cell _ _ rfl
        | 1=>simp at hj;subst hj;exact hv.cell _ _ rfl
        | j + 2=>simp at hj)
      (fun j hj=>by rw [hWc];simp at hj;exact hN _ (by omega)) (fun j hj=>by rw [hWf];exact hNf _) (by simp [h1,h2])
  have hG63:G≤9223372036854775807:=by unfold maxLen at hGm;omega
  have hGi:¬ (G=i):=by omega
  have hGim:¬ (G=i + 1):=by omega
  have hci:¬ (cap=i):=by omega
  have hbN:g≠w.heap.size:=by omega
  have hdl:(xs.drop (i * 2)).length=(n - i) * 2:=by rw [List.length_drop,hcl];omega
  have hcpB:∀ (W:World),(∀ x,W.cell? x=(W1.setCells w.heap.size (i * 2) [a,b]).cell? x)→(∀ x,W.frozen? x=(W1.setCells w.heap.size (i * 2) [a,b]).frozen? x)→∀ ty dc sc,(Builtin.copy_ #[267,267] ty #[.slice (some ⟨w.heap.size,(i + 1) * 2,none⟩) (n - i) dc,.slice (some ⟨g,i * 2,none⟩) (n - i) sc]).run Tryz.prog W = .ok (goInt (Nat.min (n - i) (n - i))) (W.setCells w.heap.size ((i + 1) * 2) (xs.drop (i * 2))):=fun W hWc hWf ty dc sc=>
    run_copy_cellsZ W _ _ ty 266 2 w.heap.size ((i + 1) * 2) (n - i) dc ⟨g,i * 2,none⟩ (n - i) sc (xs.drop (i * 2)) Tryz.underlying267 hsz (by rw [hdl];simp only [Nat.min_def];split <;> omega)
      (fun j v hj=>by
        rw [Addr.add_lit,hWc,World.cell?_setCells_out _ _ _ _ _ (fun h _=>absurd h hbN)]
        exact hOb _ v (hr.cell (by rwa [List.getElem?_drop] at hj)))
      (fun j hj=>by
        rw [hWc]
        have hh:W1.heap[w.heap.size]?=some (.cells ROW 266 (0,0)):=by rw [hW1];exact heap_alloc_new w.drew _
        have:=heap_setCells w.heap.size [a,b] (i * 2) W1 ROW 266 hh
        simp only [World.cell?,this]
        rw [Array.getElem?_eq_getElem (by rw [wr_size];omega)];rfl)
      (fun j hj=>by rw [hWf,World.frozen?_setCells];exact hNf _) (fun v hv=>h1c v (List.mem_of_mem_drop hv))
  subst hW1
  have hE1:∀ x,((w.alloc (.cells ROW 266)).drew).cell? x=(w.drew.alloc (.cells ROW 266)).cell? x:=fun x=>rfl
  have hE2:∀ x,((w.alloc (.cells ROW 266)).drew).frozen? x=(w.drew.alloc (.cells ROW 266)).frozen? x:=fun x=>rfl
  have hF1:∀ x,(((w.alloc (.cells ROW 266)).drew.setCells w.heap.size (i * 2) [a,b]).drew).cell? x=((w.drew.alloc (.cells ROW 266)).setCells w.heap.size (i * 2) [a,b]).cell? x:=fun x=>rfl
  have hF2:∀ x,(((w.alloc (.cells ROW 266)).drew.setCells w.heap.size (i * 2) [a,b]).drew).frozen? x=((w.drew.alloc (.cells ROW 266)).setCells w.heap.size (i * 2) [a,b]).frozen? x:=fun x=>rfl
  have hw1:IntKind.i64.wrap ((i:Int) + 1)=(i:Int) + 1:=by rw [IntKind.wrap_i64];omega
  have hb1:(0:Int)≤(i:Int) + 1:=by omega
  have hin:i≤n:=by omega
  have htn:((i:Int) + 1).toNat=i + 1:=by omega
  have hb3:(i:Int)≤(n:Int):=by omega
  have HR:=Lib.hid hRj
  have HL:=Lib.hid hRl
  clear hkk hik hold hROW hG hRl hRj hr hv h1c hN hNf hOb hOv hdl hcl
  go_enter Tryz.func223,Tryz.ntmps223
  go_wp2_with (first
    | (at_builtin;refine Lib.wpList_append_run _ rfl _ _ _ _ rfl _ _ rfl rfl _ _ (hrz _) ?_)
    | (at_builtin;refine wpList_copy_runI _ rfl _ _ 267 267 rfl _ _ rfl rfl (hcpA _ hE1 hE2 _ _) ?_)
    | (at_builtin;refine wpList_copy_runI _ rfl _ _ 267 267 rfl _ _ rfl rfl (hcpB _ (fun _=>rfl) (fun _=>rfl) _ _ _) ?_))
  go_region_law (refine step_copy_runI rfl _ _ 267 267 rfl (.slice (some ⟨w.heap.size,(i + 1) * 2,none⟩) (n - i) (G - (i + 1))) (.slice (some ⟨g,i * 2,none⟩) (n - i) (cap - i)) (by simp [Act.eval,Act.put]) (by simp [Act.eval,Act.put]) (hcpB _ hF1 hF2 3 (G - (i + 1)) (cap - i)) ?_)
  go_wp2
  go_ret
  exact ⟨G,ROW,rfl,hGn,hGm,HL.out,HR.out,rfl⟩
theorem insert_any_ii (g n cap i vb:Nat) (xs:List Value) (a b:Value) (w:World) (hr:Row 266 2 g n cap xs w) (hv:Vb w vb a b) (hne:vb≠g) (h1c:∀ v∈xs,v.oneCell'=true) (h1:a.oneCell'=true) (h2:b.oneCell'=true) (hn:n≤1000) (hi:i≤n) :
    Calls Tryz.prog 223 #[.slice (some ⟨g,0,none⟩) n cap,.int .i64 i,.slice (some ⟨vb,0,none⟩) 1 1] w fun e w'=>∃ g' cap',e = .returned (.slice (some ⟨g',0,none⟩) (n + 1) cap')∧Row 266 2 g' (n + 1) cap' (insAt xs (i * 2) a b) w'∧Oth [g] w w'∧(g'=g∨w.heap.size≤g'):=by
  have hl:=hr.len
  rcases Nat.lt_or_ge i n with hlt | hge
  · rcases Nat.lt_or_ge cap (n + 1) with hc | hc
    · refine (insert_grow_ii g n cap i vb xs a b w hr hv h1c h1 h2 hn hlt hc).mono ?_
      rintro e w' ⟨G,ROW,rfl,h3,h4,h5,h6,rfl⟩
      exact ⟨w.heap.size,G,rfl,row_fresh a b ROW hl hi h3 h4 h5 h6,(((((Oth.refl [g] w).alloc _).drew).setCells (.inr (Nat.le_refl _)) _ _).drew).setCells (.inr (Nat.le_refl _)) _ _,.inr (Nat.le_refl _)⟩
    · refine (insert_shift_ii g n cap i vb xs a b w hr hv hne h1c h1 h2 hn hlt hc).mono ?_
      rintro e w' ⟨rfl,rfl⟩
      exact ⟨g,cap,rfl,row_shift a b hr hi hc,(((Oth.refl [g] w).drew).setCells (.inl (by simp)) _ _).setCells (.inl (by simp)) _ _,.inl rfl⟩
  · obtain rfl:i=n:=by omega
    refine (insert_end_ii g i cap vb xs a b w hr hv h1 h2 hn).mono ?_
    rintro e w' ⟨g',cap',rfl,h3,h4,h5⟩
    refine ⟨g',cap',rfl,?_,h4,h5⟩
    have:insAt xs (i * 2) a b=xs ++ [a,b]:=by unfold insAt;rw [← hl];simp
    rw [this];exact h3
set_option maxHeartbeats 4000000 in
set_option maxRecDepth 100000 in
theorem insert_nil (vb:Nat) (a b:Value) (w:World) (hv:Vb w vb a b) (h1:a.oneCell'=true) (h2:b.oneCell'=true) :
    Calls Tryz.prog 223 #[.slice none 0 0,.int .i64 0,.slice (some ⟨vb,0,none⟩) 1 1] w fun e w'=>∃ g' cap',e = .returned (.slice (some ⟨g',0,none⟩) 1 cap')∧Row 266 2 g' 1 cap' [a,b] w'∧Oth [] w w'∧w.heap.size≤g':=by
  obtain ⟨i0,hi,hz0,hz1,hz2⟩:=info_parts Tryz.info266
  have HV:=Lib.hid hv
  clear hv
  go_enter Tryz.func223,Tryz.ntmps223
  go_wp2_with (at_builtin;refine wpList_append_own_at _ rfl _ _ 267 rfl 0 266 i0 _ 2 16 Tryz.underlying267 hi hz0 hz1 hz2 rfl (by decide) _ _ _ rfl (World.ownsRow_nil _ _ _ _) ⟨vb,0,none⟩ 1 1 [a,b] rfl rfl ?c1 ?c2 ?c3 ?c4 ?c5 ?_)
  case c1=>
    have hv:=HV.out
    intro j u hu
    match j with
    | 0=>simp at hu;subst hu;exact hv.at_ _ _ rfl
    | 1=>simp at hu;subst hu;exact hv.at_ _ _ rfl
    | j + 2=>simp at hu
  case c2=>intro u hu;simp at hu;rcases hu with rfl | rfl <;> assumption
  case c3=>unfold maxLen;omega
  case c4=>omega
  case c5=>omega
  intro v' w1 hown1 hgrow1 hx1 hx2
  have ho:Oth [] w w1:=(Oth.refl _ _).grown hgrow1 (fun k hk=>by simp [Value.ownBlock] at hk)
  obtain ⟨g',cap',rfl,_,hR⟩:=row_of_owns hown1 (by omega)
  have HX:=Lib.hid hx2
  have HR':=Lib.hid hR
  clear hown1 hgrow1 hR hx1 hx2
  go_wp2
  go_ret
  refine ⟨g',cap',rfl,HR'.out,ho,?_⟩
  have:=HX.out
  simp [Value.ownBlock] at this
  omega
end Go.Proofs.YtnpdcjdmbkcpbaaGreat.Ins2
